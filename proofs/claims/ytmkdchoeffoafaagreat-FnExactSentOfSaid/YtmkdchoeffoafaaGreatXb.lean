/- The proof's parts, merged: Operands used  slots laid.. No conditions but those that each states. -/
import Derived.Test.YtmkdchoeffoafaaGreatXa
import Derived.Laws.Entries
import Derived.Laws.NewFold
import Derived.Laws.Sem
import Derived.Laws.Slices
import Derived.Laws.Concat
import Derived.Laws.StructEq
import Derived.Laws.Cover3
import Derived.ChangeKeysEq
import Derived.Laws.MakeOwn
import Derived.Laws.IdiomStrings
import Derived.Laws.BytesArg
import Derived.Laws.Tables
import Derived.Great.BuildSlice
import Derived.Deep.AppendSrc
set_option linter.unusedVariables false
set_option linter.unusedSimpArgs false
namespace OT
open Go
section
variable {P:Program} {C:Ctx} {A:Cells} {X:FP} {σ:St} {a:Act} {w:World} {F:Nat->FP} {R:Type} {x:R}
theorem GF {l:List (Nat×Nat×Bool)} {r:Nat} (h:BK l r=false) (k:Nat):(r,k,false) ∉ l:=by
 induction l with
 | nil=>intro hm;cases hm
 | cons y l ih=>
  obtain ⟨k',n,b⟩:=y;simp only[BK,iS] at h;intro hm;rcases aX.1 hm with e | hm
  ·injection e with e1 e2;injection e2 with e2 e3;subst e1;subst e3;simp at h
  ·exact ih h.2 hm
theorem rf (a:Act) (i:Nat):a.put (some i) (tmp a i)=a:=by
 have:a.tmps.setIfInBounds i (tmp a i)=a.tmps:=by
  apply Array.ext
  ·simp
  ·intro j h1 h2;rw[jC (by simpa using h1)];split
   ·rename_i e;subst e;simp[tmp,h2]
   ·rfl
 simp[Act.put,this]
theorem tI (h:Rel P C A X σ a w F) {s:Slot} {tv:Value} {G:FP} (hs:cv P A σ a w tv s G) {mv:Bool} {t:Ty} {K:Md->t.den->St->Option R} (hk:mV σ s mv t K=some x) :
  ∃ (A':Cells) (σ':St) (F':Nat->FP) (m:Md) (v:t.den) (cs:List Value) (Fv:FP),K m v σ'=some x/\(∀ b i,A b i->A' b i)/\Rel P C A' (λb i=>X b i+Fv b i) σ' a w F'/\σ'.n=σ.n/\qx σ σ' /\
   tv=ci t cs/\ap P w A' t m [] v cs Fv:=by
 have hz:Rel P C A (λb i=>X b i+0) σ a w F:=h
 cases s with
 | val t' v=>
  simp only[mV] at hk;obtain ⟨e,hk⟩:=ct hk;subst e;obtain ⟨cs,h1,h2⟩:=hs;exact ⟨A,σ,F,_,v,cs,λ_ _=>0,hk,λ_ _ h=>h,hz,rfl,qx.refl σ,h1,Ro.rep _ _ (f_ _) h2⟩
 | cp t' v=>
  simp only[mV] at hk;obtain ⟨e,hk⟩:=ct hk;subst e;exact ⟨A,σ,F,_,v,[tv],λ_ _=>0,hk,λ_ _ h=>h,hz,rfl,qx.refl σ,(db _ _ rfl).symm,Ro.rep _ _ (f_ _) hs⟩
 | wv=>
  simp only[mV] at hk;split at hk
  ·rename_i t e;have hs:tv=.slice none 0 0:=hs;subst hs;refine ⟨A,σ,F,_,_,[.slice none 0 0],λ_ _=>0,hk,λ_ _ h=>h,hz,rfl,qx.refl σ,(db _ _ rfl).symm,?_⟩
   simp only[ap,hole,bU,aF,aL,an,sW,Md.own,aI];exact ⟨none,0,rfl,aN _,by simp[maxLen],λ_=>rfl,λad fk=>by cases fk⟩
  ·cases hk
 | ref r p snap=>
  simp only[mV] at hk;split at hk
  ·rename_i bc;obtain ⟨hr,t',m',H',v',br,cr,F',h1,h2,h3,h4,h5,h6⟩:=lK h hk;obtain ⟨pl,g1,g2,g3⟩:=hs.2 bc;rw[h3] at g1;injection g1 with g1;subst g1;split at h1
   ·rename_i hH;have hH:=bN.1 hH;subst hH;obtain ⟨e,h1⟩:=ct h1;subst e;split at h1
    ·rename_i hm;subst hm;exact ⟨A,σ,F,_,v',br,λ_ _=>0,h1,λ_ _ h=>h,hz,rfl,qx.refl σ,g2,Ro.rep _ _ (f_ _) (ap.ro _ (f_ _) h4)⟩
    ·split at h1
     ·obtain ⟨A',σ',F2,cs,ad,Fv,k1,k2,k3,k4,kr,k5,k6⟩:=Ig h h1 ⟨h2⟩;rw[h3] at k5;injection k5 with k5;simp only[Pl.mk.injEq,dZ] at k5;obtain ⟨rfl,rfl⟩:=k5;exact ⟨A',σ',F2,_,v',br,Fv,k1,k2,k3,k4,kr,g2,ap.mono k2 (λ_ _ _ _ h=>h) (λ_ _ h=>h) _ k6 (λ_ _=>aN _) (λ_ _ _ _ h=>h)⟩
     ·obtain ⟨A',σ',F2,t2,m2,v2,cs,ad,k1,k2,k3,k4,kr,k5,k6,k7⟩:=x9 h h1;obtain ⟨e1,e2,e3,e4⟩:=At.inj ⟨h2⟩ k5;subst e1;have e4:=iD e4;subst e4;rw[h3] at k6;injection k6 with k6;simp only[Pl.mk.injEq,dZ] at k6;obtain ⟨rfl,rfl⟩:=k6;exact ⟨A',σ',F2,_,v',br,λ_ _=>0,k1,k2,k3,k4,kr,g2,Ro.rep _ _ (f_ _) k7⟩
   ·cases h1
  ·cases hk
 | sub r p snap lo hi=>
  simp only[mV] at hk;split at hk
  ·rename_i bc;obtain ⟨hr,t',m',H',v',br,cr,F',h1,h2,h3,h4,h5,h6⟩:=lK h hk;obtain ⟨pl,e,xa,n,cap,vh,cap',g1,g2,g3,g4,g5,g6,g7,KM,g8,g9,g10⟩:=hs.2 bc;rw[h3] at g1;injection g1 with g1;subst g1;simp only at g2 g3;subst g2;subst g3;split at h1
   ·rename_i hH;have hH:=bN.1 hH;subst hH;obtain ⟨e',h1⟩:=ct h1;subst e';simp only at h1;have zJ:tv=ci (.U e) [.slice vh (hi - lo) cap']:=by rw[db _ _ rfl];exact g6
    split at h1
    ·rename_i hm;subst hm;exact ⟨A,σ,F,_,_,_,λ_ _=>0,h1,λ_ _ h=>h,hz,rfl,qx.refl σ,zJ,Ro.rep _ _ (f_ _) (Ro.piece (ap.ro _ (f_ _) h4) g4 g5 g7 g8 g9)⟩
    ·split at h1
     ·split at h1
      ·rename_i vv;subst vv;obtain ⟨A',σ',F2,cs,ad,Fv,k1,k2,k3,k4,kr,k5,k6⟩:=Ig h h1 ⟨h2⟩;rw[h3] at k5;injection k5 with k5;simp only[Pl.mk.injEq,dZ] at k5;obtain ⟨rfl,rfl⟩:=k5;have k6:=ap.mono k2 (λ_ _ _ _ h=>h) (λ_ _ h=>h) _ k6 (λ_ _=>aN _) (λ_ _ _ _ h=>h);refine ⟨A',σ',F2,_,_,_,Fv,k1,k2,k3,k4,kr,zJ,?_⟩
       have x_:=KM rfl;subst x_;simp only[dG] at g7;subst g7;simp only[ap,hole,bU,aF,aL] at k6 ⊢;split at k6
       ·rename_i fa;rw[aV fa];obtain ⟨a0,aa6,q1,q2,q3,q4,q5⟩:=k6;simp only[cV,Value.slice.injEq,eE] at q1;obtain ⟨rfl,rfl,rfl⟩:=q1;have hlen:List.length ((v'.take hi).drop 0)=hi:=by simp;omega
        refine ⟨vh,cap',by rw[hlen];rfl,by rw[hlen];omega,q3,q4,λad fk=>?_⟩
        obtain ⟨r1,r2,r3,Fi,r4,r5⟩:=q5 ad fk;refine ⟨r1,r2,r3,Fi,λb i=>?_,λi y hy=>?_⟩
        ·rw[hlen];have:=r4 b i;have:=IZ (List.length v') Fi 0 hi (by omega) b i
         simp only[bE] at this;have this:a_ hi Fi b i<=a_ (List.length v') Fi b i:=this;omega
        ·rw[eF,bJ] at hy;split at hy
         ·exact r5 i y hy
         ·cases hy
       ·rename_i fa;rw[bB fa];exact ⟨trivial,k6.2.1,Ro.piece (cap':=cap') k6.2.2 g4 g5 rfl g8 g9⟩
      ·cases h1
     ·obtain ⟨A',σ',F2,t2,m2,v2,cs,ad,k1,k2,k3,k4,kr,k5,k6,k7⟩:=x9 h h1;obtain ⟨e1,e2,e3,e4⟩:=At.inj ⟨h2⟩ k5;subst e1;have e4:=iD e4;subst e4;rw[h3] at k6;injection k6 with k6;simp only[Pl.mk.injEq,dZ] at k6;obtain ⟨rfl,rfl⟩:=k6;exact ⟨A',σ',F2,_,_,_,λ_ _=>0,k1,k2,k3,k4,kr,zJ,Ro.rep _ _ (f_ _) (Ro.piece k7 g4 g5 g7 g8 g9)⟩
   ·cases h1
  ·cases hk
 | ptr r p snap=>
  cases p with
  | cons s p=>simp[mV] at hk
  | nil=>
   simp only[mV] at hk;split at hk
   ·rename_i bc;split at hk
    ·rename_i t' m' H' v' hg;split at hk
     ·rename_i hc;simp only[aE,bN,cM] at hc;obtain ⟨rfl,hl⟩:=hc;obtain ⟨e,hk⟩:=ct hk;subst e
      have hr:r < σ.n:=by
       rcases bZ r σ.n with hr | hr
       ·exact hr
       ·rw[lQ (dN.2 hr)] at hg;cases hg
      obtain ⟨pl,b,o,g1,g2,g3,g4⟩:=hs.2 bc;have oo:=h.g_ r hr;rw[hg] at oo;obtain ⟨b0,o0,L,F1,q1,q2,q3,q4,q5,q6⟩:=oo;unfold place at g1;rw[hg,q1] at g1;simp only[c9,aA,bk,aP] at g1;subst g1;simp only[aP,bS] at g2;obtain ⟨rfl,rfl⟩:=g2;obtain ⟨b1,w1,w2⟩:=h.whole r t' m' [] v' hg (GF hl);rw[q1] at w1;simp only[Value.pointer.injEq,aP,Addr.mk.injEq,eE] at w1;obtain ⟨rfl,rfl⟩:=w1;have ut:=h.put hr (s:=.dead) (v:=tmp a r) (Fd:=λ_ _=>0) (X':=λb i=>X b i+F r b i) trivial (λb i=>by omega) (λt m H v e=>by cases e);rw[rf] at ut
      refine ⟨A,_,_,_,v',[tv],F r,hk,λ_ _ h=>h,ut,rfl,(λw tv i R hR=>⟨R.H,by
       rw[xv] at hR;split at hR
       ·cases hR
       ·exact hR⟩),(db _ _ rfl).symm,?_⟩
      simp only[ap,hole,bU,aF,aL,Md.own,aI,Md.e];exact ⟨b0,by rw[g3],w2,L,F1,q2,q3,q5,q6⟩
     ·cases hk
    ·cases hk
   ·cases hk
 | _=>simp[mV] at hk
theorem EC {t:Ty} {m:Md} {v:t.den} {cs:List Value} {Fv:FP} (h:ap P w A t m [] v cs Fv) :
  cv P A σ a w (ci t cs) (laid t m v) Fv/\∀ t' m' H' v',laid t m v=.box t' m' H' v'->∃ b,ci t cs=.pointer (some ⟨b,0,none⟩)/\ge w b (t'.sz,false):=by
 unfold laid;split
 ·rename_i hm;subst hm;exact ⟨⟨cs,rfl,ap.ro _ (f_ _) h⟩,λt' m' H' v' e=>by cases e⟩
 ·split
  ·rename_i e m' v' _;simp only[ap,hole,bU,aF,aL,Md.own,aI,Md.e] at h;obtain ⟨b,rfl,h2,L,F1,h3,h4,h5,h6⟩:=h;rw[db _ _ rfl];refine ⟨⟨b,0,L,F1,rfl,h3,h4,λj hj=>by rw[bE];exact h2.frozen hj,h5,h6⟩,λt' m' H' v' e=>?_⟩
   injection e with e1;subst e1;exact ⟨b,rfl,h2⟩
  ·exact ⟨⟨cs,rfl,h⟩,λt' m' H' v' e=>by cases e⟩
theorem Rel.W0 (h:Rel P C A X σ a w F) {d:Nat} (hd:σ.n<=d) (s:Slot) (v:Value) {X':FP} (ht:∀ b i,X' b i<=X b i):Rel P C A X' (σ.put d s) (a.put (some d) v) w F:=by
 have ko:=h.size;have ha:a.put (some d) v=a:=by simp[Act.put,Array.setIfInBounds,ko,dN.2 hd]
 rw[ha]
 have uq:∀ i,(σ.put d s).get i=σ.get i:=λi=>by
  rw[xv];split
  ·omega
  ·rfl
 have nF:xu σ a w (σ.put d s) a w:=by
  intro r p snap hb;rw[zl,St.ok,zl];by_cases hr:d=r
  ·subst hr;simp only[aI];refine ⟨hb.trans (sE _),λbc=>?_⟩
   have h0:=EU (h.mf d) hb bc;exact ⟨(Ez hb (sE _) bc).1,λhl=>by omega⟩
  ·simp only[bB hr];refine ⟨hb,λbc=>⟨bc,λhl pl ir=>⟨pl.H,pl.cs,?_,λ_=>rfl⟩⟩⟩
   unfold place at ir ⊢;rw[uq];exact ir
 refine ⟨h.size,h.defers,λi hi=>?_,?_,λb i=>by have:=h.o5 b i;have:=ht b i;show X' b i+a_ σ.n F b i<=1;omega,λb i hp=>h.pW b i (by have:=ht b i;have hp:1<=X' b i+a_ σ.n F b i:=hp;omega),
  λb i hp=>h.kP b i (hp.imp (λhp=>by have:=ht b i;have hp:1<=X' b i+a_ σ.n F b i:=hp;omega) id),λi=>?_,h.ext,λb i hp=>h.own b i (by have:=ht b i;have hp:1<=X' b i+a_ σ.n F b i:=hp;omega),h.a0,h.a1,?_,?_,?_,h.tab⟩
 ·rw[uq];exact cv.mW nF (λ_ _ h=>h) (λ_ _ _ _ h=>h) (λ_ _ h=>h) (λ_ _ _=>⟨λ_ h=>h,rfl⟩) (h.g_ i hi)
 ·intro d' r p snap hm;exact q_.mW nF (h.gh d' r p snap (KF hm).1)
 ·rw[zl];split
  ·rw[Dx];exact h.mf d
  ·exact h.mf i
 ·intro j k hm;exact h.oA j k (yT hm).1
 ·intro r t m H v' hg hl;rw[uq] at hg;refine h.whole r t m H v' hg λk hm=>hl k (Gx hm λe=>?_);have e:r=d:=e;subst e;rw[lQ (dN.2 hd)] at hg;cases hg
 ·intro j k hm R hR;rw[uq] at hR;exact h.ny j k (yT hm).1 R hR
theorem Rel.b9 (h:Rel P C A X σ a w F) (d:Option Tmp) {s:Slot} {v:Value} {Fd X':FP} (hs:cv P A σ a w v s Fd) (ht:∀ b i,X' b i+Fd b i<=X b i)
  (Rs:∀ t m H v',s=.box t m H v'->∃ b,v=.pointer (some ⟨b,0,none⟩)/\ge w b (t.sz,false)):∃ F',Rel P C A X' (σ.b9 d s) (a.put d v) w F':=by
 cases d with
 | none=>exact ⟨F,h.less λb i=>by have:=ht b i;omega⟩
 | some d=>
  rcases bZ d σ.n with hd | hd
  ·exact ⟨_,h.put hd hs (λb i=>by have:=ht b i;omega) Rs⟩
  ·exact ⟨_,h.W0 hd s v λb i=>by have:=ht b i;omega⟩
def DE (P:Program) (C:Ctx) (σ:St) (a:Act) (w:World):Prop:=∃ A F,Rel P C A (λ_ _=>0) σ a w F
end
end OT
namespace OT
open Go
def zc:Ty->Option (List Value)
 | .int k=>some [.int k 0]
 | .bool=>some [.bool false]
 | .str=>some [.string ⟨#[]⟩]
 | .unit=>some []
 | .pair a b=>match zc a,zc b with
  | some x,some y=>some (x++y)
  | _,_=>none
 | .arr n e=>match zc e with
  | some x=>some (List.replicate n x).flatten
  | none=>none
 | .U _=>some [.slice none 0 0]
 | _=>none
def Yc:Value->Value->Bool
 | .int k n,.int k' n'=>decide (k=k')&&decide (n=n')
 | .bool a,.bool b=>a == b
 | .string s,.string t=>decide (s.data.toList=t.data.toList)
 | .slice none 0 0,.slice none 0 0=>true
 | _,_=>false
def Ih:List Value->List Value->Bool
 | [],[]=>true
 | a::x,b::y=>Yc a b&&Ih x y
 | _,_=>false
theorem Yd {a b:Value} (h:Yc a b=true):a=b:=by
 unfold Yc at h;split at h
 ·simp only[aE,bM] at h;rw[h.1,h.2]
 ·simp at h;rw[h]
 ·rename_i s t;simp only[bM] at h;congr 1;cases s;cases t;simp only at h;congr 1;exact eY h
 ·rfl
 ·cases h
theorem Og:∀ {x y:List Value},Ih x y=true->x=y
 | [],[],_=>rfl
 | a::x,b::y,h=>by
  simp only[Ih,aE] at h;rw[Yd h.1,Og h.2]
 | [],_::_,h=>by simp[Ih] at h
 | _::_,[],h=>by simp[Ih] at h
def rN (P:Program) (t:Ty) (i:TypeId):Bool:=
 match P.info? i with
 | some inf=>Nat.beq inf.size t.sz&&Nat.ble inf.bytes 512&&(match inf.zero with
  | some z=>Nat.beq z.cells.size t.sz&&(match zc t with
   | some L=>Ih z.cells.toList L
   | none=>true)
  | none=>false)
 | none=>false
def qM (P:Program):Ty->Sum TypeId (List Field)->Bool
 | .int _,.inl _=>true
 | .bool,.inl _=>true
 | .str,.inl _=>true
 | .unit,.inl i=>!P.stoodInHeld i
 | .unit,.inr _=>true
 | .pair a b,.inl i=>!P.stoodInHeld i&&(match P.underlying i with
  | some (.struct fs)=>(match fs.toList with
   | f::r=>f.name != "_" && qM P a (.inl f.type)&&qM P b (.inr r)
   | []=>false)
  | _=>false)
 | .pair a b,.inr (f::r)=>f.name != "_" && qM P a (.inl f.type)&&qM P b (.inr r)
 | .arr _ e,.inl i=>(match P.underlying i with
  | some (.array _ el)=>qM P e (.inl el)
  | _=>false)
 | _,_=>false
def dep:Ty->Nat
 | .arr _ e=>dep e+1
 | .pair a b=>max (dep a+1) (dep b)
 | _=>1
def Ye (P:Program) (k:Ty) (i:TypeId):Bool:=isAgg k&&k.n9&&k.flat&&qM P k (.inl i)&&Nat.ble (dep k) 9000
def VQ (P:Program) (v:Ty) (i:TypeId):Bool:=match P.info? i with
 | some inf=>(match inf.zero with
  | some (.agg _)=>isAgg v
  | some _=>!isAgg v
  | none=>false)
 | none=>false
def be (P:Program):Ty->Sum TypeId (List Field×Nat)->Bool
 | .int k,.inl i=>rN P (.int k) i&&(match P.underlying i with | some (.int k')=>decide (k=k') | _=>false)
 | .bool,.inl i=>rN P .bool i&&(match P.underlying i with | some .bool=>true | _=>false)
 | .str,.inl i=>rN P .str i&&(match P.underlying i with | some .string=>true | _=>false)
 | .unit,.inl i=>rN P .unit i&&(match P.underlying i with | some (.struct fs)=>fs.toList.isEmpty | _=>false)
 | .unit,.inr (fs,_)=>fs.isEmpty
 | .pair a b,.inl i=>rN P (.pair a b) i&&(match P.underlying i with
  | some (.struct fs)=>(match fs.toList with
   | f::r=>Nat.beq f.offset 0&&Nat.ble 1 a.sz&&be P a (.inl f.type)&&be P b (.inr (r,a.sz))
   | []=>false)
  | _=>false)
 | .pair a b,.inr (f::r,off)=>Nat.beq f.offset off&&Nat.ble 1 a.sz&&be P a (.inl f.type)&&be P b (.inr (r,off+a.sz))
 | .arr n e,.inl i=>rN P (.arr n e) i&&e.flat&&(match P.underlying i with | some (.array n' el)=>Nat.beq n n'&&Nat.ble 1 e.sz&&be P e (.inl el) | _=>false)
 | .U e,.inl i=>rN P (.U e) i&&(match P.underlying i with | some (.slice el)=>Nat.ble 1 e.sz&&be P e (.inl el) | _=>false)
 | .ptr e,.inl i=>rN P (.ptr e) i&&(match P.underlying i with | some (.pointer el)=>be P e (.inl el) | _=>false)
 | .fn,.inl i=>rN P .fn i&&(match P.underlying i with | some (.func ..)=>true | _=>false)
 | .map k v,.inl i=>rN P (.map k v) i&&(match P.underlying i with | some (.map ki vi)=>be P k (.inl ki)&&be P v (.inl vi)&&Ye P k ki&&VQ P v vi | _=>false)
 | _,_=>false
section
variable {P:Program} {w:World} {A:Cells}
theorem vw {t:Ty} {i:TypeId} (h:rN P t i=true):∃ inf z,P.info? i=some inf/\inf.size=t.sz/\inf.bytes<=512/\inf.zero=some z/\z.cells.size=t.sz/\∀ L,zc t=some L->z.cells.toList=L:=by
 unfold rN at h;split at h
 ·rename_i inf hi;simp only[aE,eJ,dU] at h;have h2:=h.2;split at h2
  ·rename_i z hz;simp only[aE,eJ] at h2;refine ⟨inf,z,hi,h.1.1,h.1.2,hz,h2.1,λL hL=>?_⟩
   have h3:=h2.2;rw[hL] at h3;exact Og h3
  ·cases h2
 ·cases h
theorem ly {t:Ty} {i:TypeId} (h:rN P t i=true):∃ inf,P.info? i=some inf/\inf.size=t.sz/\inf.bytes<=512/\∀ L,zc t=some L->∃ z,inf.zero=some z/\z.cells.toList=L:=by
 obtain ⟨inf,z,h1,h2,h3,h4,h5,h6⟩:=vw h;exact ⟨inf,h1,h2,h3,λL hL=>⟨z,h4,h6 L hL⟩⟩
theorem lH {t:Ty} {i:TypeId} (h:be P t (.inl i)=true):rN P t i=true:=by
 cases t <;> simp only[be,aE] at h <;> first | exact h.1 | exact h.1.1 | cases h
theorem yU {t:Ty} {i:TypeId} (h:be P t (.inl i)=true):∃ d,P.underlying i=some d/\(isAgg t=true->(∃ fs,d=.struct fs)\/∃ n e,d=.array n e)/\(isAgg t=false->(∀ fs,d≠.struct fs)/\∀ n e,d≠.array n e):=by
 cases hd:P.underlying i with
 | none=>cases t <;> simp[be,hd] at h
 | some d=>
  refine ⟨d,rfl,?_,?_⟩
  ·intro ha;cases t <;> simp only[isAgg] at ha <;> first | cases ha | skip
   all_goals
    simp only[be,hd,aE] at h;cases d <;> simp_all
  ·intro ha;cases t <;> simp only[isAgg] at ha <;> first | cases ha | skip
   all_goals
    simp only[be,hd,aE] at h;cases d <;> simp_all
theorem wa {t:Ty} {i:TypeId} (h:be P t (.inl i)=true):(Go.isAgg i).run P w=.ok (isAgg t) w:=by
 obtain ⟨d,h1,h2,h3⟩:=yU h;unfold Go.isAgg;simp only[Sem.run_bind,run_underlying h1,Result.andThen_ok]
 cases ht:isAgg t with
 | true=>
  rcases h2 ht with ⟨fs,rfl⟩ | ⟨n,e,rfl⟩ <;> rfl
 | false=>
  obtain ⟨h4,h5⟩:=h3 ht
  cases d <;> first | rfl | (exact absurd rfl (h4 _)) | (exact absurd rfl (h5 _ _))
theorem run_sizeOf {t:Ty} {i:TypeId} (h:be P t (.inl i)=true):(Go.sizeOf i).run P w=.ok t.sz w:=by
 obtain ⟨inf,h1,h2,_⟩:=ly (lH h);simp[Go.sizeOf,typeInfo,h1,h2]
theorem FC {t:Ty} (h:isAgg t=false):t.sz=1:=by cases t <;> simp_all [isAgg,Ty.sz]
theorem pu (b o n:Nat):(⟨b,o,none⟩:Addr).add n=⟨b,o+n,none⟩:=by unfold Addr.add;split <;> simp_all
theorem xK {t:Ty} {i:TypeId} (h:be P t (.inl i)=true) {b o:Nat} {L:List Value} (hL:Has w b o L) (hl:L.length=t.sz) (mN:∀ u ∈ L,u.oneCell'=true):(loadVar i ⟨b,o,none⟩).run P w=.ok (ci t L) w:=by
 unfold loadVar;simp only[Sem.run_bind,wa h,Result.andThen_ok]
 cases ht:isAgg t with
 | true=>
  have:=run_loadCells_list (P:=P) w ⟨b,o,none⟩ L (λj v hj=>by rw[pu];exact qU (hL j v hj) (mN v (cA hj)));rw[hl] at this;simp only[aI,Sem.run_bind,run_sizeOf h,Result.andThen_ok,this,Sem.run_pure,ci,ht]
 | false=>
  have hs:=FC ht
  match L,hl with
  | [y],_=>
   have:=qU (hL 0 y rfl) (mN y (by simp));simp only[dG] at this;simp only[aF,aL,run_load,this,ci,ht,List.headD_cons]
  | [],hl=>simp[hs] at hl
  | _::_::_,hl=>simp[hs] at hl
theorem Ax:∀ (t:Ty) {L:List Value} {i:Sum TypeId (List Field×Nat)},zc t=some L->be P t i=true->ap P w A t (an t) [] t.zero L (λ_ _=>0)/\Ro P w A t t.zero L/\L.length=t.sz:=by
 intro t
 induction t with
 | int k=>intro L i h _;injection h with h;subst h;cases k <;> exact ⟨rfl,rfl,rfl⟩
 | bool=>intro L i h _;injection h with h;subst h;exact ⟨rfl,rfl,rfl⟩
 | str=>intro L i h _;injection h with h;subst h;exact ⟨rfl,rfl,rfl⟩
 | unit=>intro L i h _;injection h with h;subst h;exact ⟨rfl,rfl,rfl⟩
 | pair a b kO kD=>
  intro L i h hl;simp only[zc] at h;split at h
  ·rename_i x y hx hy;injection h with h;subst h
   have:∃ ia ib,be P a ia=true/\be P b ib=true:=by
    cases i with
    | inl i=>
     simp only[be,aE] at hl;have h2:=hl.2;split at h2
     ·split at h2
      ·simp only[aE] at h2;exact ⟨_,_,h2.1.2,h2.2⟩
      ·cases h2
     ·cases h2
    | inr fo=>
     obtain ⟨fs,off⟩:=fo
     cases fs with
     | nil=>simp[be] at hl
     | cons f r=>simp only[be,aE] at hl;exact ⟨_,_,hl.1.2,hl.2⟩
   obtain ⟨ia,ib,h1,h2⟩:=this;obtain ⟨ra,oa,la⟩:=kO hx h1;obtain ⟨rb,ob,lb⟩:=kD hy h2;have e1:(x++y).take a.sz=x:=fN la;have e2:(x++y).drop a.sz=y:=fO la;refine ⟨⟨rfl,λ_ _=>0,λ_ _=>0,λ_ _=>aN _,by rw[e1];exact ra,by rw[e2];exact rb⟩,⟨by rw[e1];exact oa,by rw[e2];exact ob⟩,by simp[la,lb,Ty.sz]⟩
  ·cases h
 | arr n e ih=>
  intro L i h hl;simp only[zc] at h;split at h
  ·rename_i z hz;injection h with h;subst h
   have:e.flat=true/\∃ ie,be P e ie=true:=by
    cases i with
    | inl i=>
     simp only[be,aE] at hl;have h2:=hl.2;split at h2
     ·simp only[aE] at h2;exact ⟨hl.1.2,_,h2.2⟩
     ·cases h2
    | inr fo=>simp[be] at hl
   obtain ⟨hf,ie,he⟩:=this;obtain ⟨re,oe,le⟩:=ih hz he
   have hlen:∀ n,((List.replicate n z).flatten).length=n*e.sz:=λn=>by
    induction n with
    | zero=>simp
    | succ n ih=>rw[List.replicate_succ,List.flatten_cons,aR,ih,le,cI];omega
   have sB:Ro P w A (.arr n e) (Ty.arr n e).zero ((List.replicate n z).flatten):=by
    refine ⟨hf,by simp[Ty.zero],hlen n,λi x hx=>?_⟩
    have hi:i < n:=by have:=(aM.1 hx).1;simpa [Ty.zero] using this
    have hx:x=e.zero:=by
     simp only[Ty.zero,gB,hi,aI,aP] at hx;exact hx.symm
    subst hx
    have:(((List.replicate n z).flatten).drop (i*e.sz)).take e.sz=z:=by
     have e1:n=i+(1+(n - i - 1)):=by omega
     rw[e1,<- iM,<- iM,List.flatten_append,List.flatten_append];have e2:=hlen i;rw[fO e2];simp only[List.replicate_one,List.flatten_cons,List.flatten_nil,cD];exact fN le
    rw[this];exact oe
   exact ⟨⟨rfl,sB⟩,sB,hlen n⟩
  ·cases h
 | U e ih=>
  intro L i h _;injection h with h;subst h;refine ⟨?_,⟨none,0,rfl,aN _,λ_=>rfl,λad fk=>by cases fk⟩,rfl⟩
  simp only[ap,hole,bU,aF,aL,an,sW,Md.own,aI];exact ⟨none,0,rfl,aN _,by simp[maxLen],λ_=>rfl,λad fk=>by cases fk⟩
 | ptr e ih=>intro L i h _;simp[zc] at h
 | fn=>intro L i h _;simp[zc] at h
 | map k v=>intro L i h _;simp[zc] at h
theorem yz {t:Ty} {i:TypeId} (h:be P t (.inl i)=true) {L:List Value} (hz:zc t=some L):∃ z,(zeroValue i).run P w=.ok z w/\z.cells.toList=L:=by
 obtain ⟨inf,h1,h2,_,h3⟩:=ly (lH h);obtain ⟨z,h4,h5⟩:=h3 L hz;exact ⟨z,by simp[zeroValue,typeInfo,h1,h4],h5⟩
end
end OT
namespace OT
open Go
section
variable {P:Program} {C:Ctx} {A:Cells} {X:FP} {σ:St} {a:Act} {w:World} {F:Nat->FP} {R:Type} {x:R} {Q:Exit->Act->World->Prop} {o:Oper} {E:Env}
def Nx (P:Program) (C:Ctx) {R:Type} (K:St->Option R) (x:R) (a:Act) (w:World):Prop:=∃ σ',K σ'=some x/\DE P C σ' a w
abbrev dt (P:Program) (C:Ctx) (A:Cells) (σ:St) (a:Act) (w:World) (F:Nat->FP):Prop:=Rel P C A (λ_ _=>0) σ a w F
theorem ot {v:Value} {w':World} {next:Act->World->Prop} (gc:(execOp a.eval o).run P w=.ok (.value v) w') (hn:next (a.put o.dst v) w'):o.wp P a w next Q:=by
 unfold Oper.wp;rw[gc];exact hn
theorem KN {w':World} {next:Act->World->Prop} (gc:(execOp a.eval o).run P w=.ok .skip w') (hd:o.dst=none) (hn:next a w'):o.wp P a w next Q:=by
 unfold Oper.wp;rw[gc,Oper.upon,hd];exact hn
def reads:Op->Bool
 | .load .. | .convert ..=>true
 | _=>false
def s9 (o:Oper) (w w':World):Prop:=reads o.op=true->Ext w w' (λ_ _=>0)
theorem s9.ext {o:Oper} {w w':World} (h:s9 o w w') (hr:reads o.op=true):Ext w w' (λ_ _=>0):=h hr
def Tk (P:Program) (o:Oper) (a:Act) (w:World) (next:Act->World->Prop):Prop:=
 ∃ v,(∀ w',s9 o w w'->(execOp a.eval o).run P w'=.ok (.value v) w')/\next (a.put o.dst v) w
theorem fx {v:Value} {next:Act->World->Prop} (gc:∀ w',s9 o w w'->(execOp a.eval o).run P w'=.ok (.value v) w') (hn:next (a.put o.dst v) w):Tk P o a w next:=⟨v,gc,hn⟩
theorem Tk.wp {next:Act->World->Prop} (h:Tk P o a w next):o.wp P a w next Q:=by
 obtain ⟨v,h1,h2⟩:=h;exact ot (h1 w λ_=>Ext.refl _ _) h2
theorem wH {b i:Nat} {u:Value} (h:ce w b i=some u):b < w.heap.size:=by
 rcases bZ b w.heap.size with hb | hb
 ·exact hb
 ·have hn:w.heap[b]?=none:=dP hb;simp[ce,World.cell?,hn] at h
theorem Has.ext {b o:Nat} {L:List Value} {w':World} (h:Has w b o L) (hw:Ext w w' (λ_ _=>0)):Has w' b o L:=λj u hu=>hw.cell b (o+j) (wH (h j u hu)) rfl u (h j u hu)
theorem pv (h:Rel P C A X σ a w F) {K:St->Option R} {d:Option Tmp} {s:Slot} {v:Value} {Fd:FP} (hk:K (σ.b9 d s)=some x) (hs:cv P A σ a w v s Fd) (ht:∀ b i,Fd b i<=X b i)
  (Rs:∀ t m H v',s=.box t m H v'->∃ b,v=.pointer (some ⟨b,0,none⟩)/\ge w b (t.sz,false)):Nx P C K x (a.put d v) w:=by
 obtain ⟨F',hF⟩:=h.b9 d (X':=λ_ _=>0) hs (λb i=>by have:=ht b i;omega) Rs;exact ⟨_,hk,A,F',hF⟩
theorem cj (h:Rel P C A X σ a w F) {K:St->Option R} {d:Option Tmp} {s:Slot} {v:Value} (hk:K (σ.b9 d s)=some x) (hs:cv P A σ a w v s (λ_ _=>0))
  (hb:∀ t m H v',s≠.box t m H v'):Nx P C K x (a.put d v) w:=
 pv h hk hs (λ_ _=>aY _) (λt m H v' e=>absurd e (hb t m H v'))
theorem zK (h:Rel P C A X σ a w F) {K:St->Option R} {d:Option Tmp} {t:Ty} {m:Md} {v:t.den} {cs:List Value} {Fd:FP} (hk:K (σ.b9 d (laid t m v))=some x) (hr:ap P w A t m [] v cs Fd) (ht:∀ b i,Fd b i<=X b i) :
  Nx P C K x (a.put d (ci t cs)) w:=
 pv h hk (EC (σ:=σ) (a:=a) hr).1 ht (EC (σ:=σ) (a:=a) hr).2
theorem fu {t:Nat} {K:Ty->Option R} (h:pV E t K=some x):∃ T,E.TI t=some T/\K T=some x:=by
 unfold pV at h;split at h
 ·rename_i T hT;exact ⟨T,hT,h⟩
 ·cases h
theorem GG {s:Slot} {K:Bool->Option R} {tv:Value} {G:FP} (hs:cv P A σ a w tv s G) (h:Gl s K=some x):∃ b,tv=.bool b/\K b=some x:=by
 unfold Gl at h;split at h
 ·rename_i b;obtain ⟨cs,h1,h2⟩:=hs;simp only[Ro] at h2;subst h2;exact ⟨b,by rw[h1];rfl,h⟩
 ·cases h
theorem sS {s:Slot} {K:Int->Option R} {tv:Value} {G:FP} (hs:cv P A σ a w tv s G) (h:vP s K=some x):∃ k n,tv=.int k n/\K n=some x:=by
 unfold vP at h;split at h
 ·rename_i k n;obtain ⟨cs,h1,h2⟩:=hs;simp only[Ro] at h2;subst h2;exact ⟨k,_,by rw[h1];rfl,h⟩
 ·cases h
theorem B6 (h:Rel P C A X σ a w F) {r:Nat} {p:Path} {pl:Pl} (hp:place σ a w r p=some pl):q_ σ a w (ci pl.t pl.cs) r p (uN σ r p pl.t):=by
 have h5:=h.mf r;refine ⟨?_,λ_=>⟨_,hp,rfl,?_⟩⟩
 ·unfold uN;split
  ·intro j y hj;rw[bJ] at hj;split at hj;exact ⟨y,hj,aN _⟩;cases hj
  ·intro j y hj;rw[bJ] at hj;split at hj;exact ⟨y,hj,aN _⟩;cases hj
  ·exact Below.refl _
 ·unfold uN;split
  ·rename_i e he;left;exact ⟨by rw[he];rfl,by rw[bP,h5];omega⟩
  ·rename_i k v he;left;exact ⟨by rw[he];rfl,by rw[bP,h5];omega⟩
  ·right;exact h5
theorem I4 (σ:St) (y:Operand) (t:Ty) (m:Md) (H:List Path) (v:t.den):dq σ y≠.box t m H v:=by
 intro e
 cases y with
 | tmp i=>simp only[dq] at e;cases hg:σ.get i <;> rw[hg] at e <;> cases e
 | const v=>simp only[dq] at e;unfold xW at e;split at e <;> first | (cases e;done) | (split at e <;> cases e)
 | func f=>cases e
 | global g=>cases e
theorem Ry (h:dt P C A σ a w F) {y:Operand} (ho:o.op=.move y) (bc:dm P y=true) {K:St->Option R} (hk:Pa σ y o.dst K=some x):Tk P o a w (Nx P C K x):=by
 refine fx (v:=a.eval y) (by simp[execOp,ho]) ?_;unfold Pa at hk;have hs:=eu h bc;split at hk
 ·rename_i xs i hx
  have hi:i < σ.n:=by
   rcases bZ i σ.n with hi | hi
   ·exact hi
   ·simp only[dq,lQ (dN.2 hi)] at hx;cases hx
  have hg:σ.get i=.rB xs:=by
   simp only[dq] at hx;cases hg:σ.get i <;> rw[hg] at hx <;> first | (cases hx;done) | exact hx
  have oo:=h.g_ i hi;rw[hg] at oo;have h2:=h.put hi (s:=.dead) (v:=tmp a i) (Fd:=λ_ _=>0) (X':=λb k=>F i b k) trivial (λb k=>by omega) (λt m H v e=>by cases e);rw[rf] at h2;refine pv h2 hk (Fd:=F i) ?_ (λb i=>aN _) (λt m H v e=>by cases e);obtain ⟨vs,Fi,h3,h4,h5⟩:=oo;exact ⟨vs,Fi,h3,h4,h5⟩
 ·cases hk
 ·rename_i s' y' I5 EV
  rcases hs with hs | ⟨xs,e⟩
  ·exact cj h hk hs λt m H v e=>I4 σ _ t m H v e
  ·exact (I5 xs e).elim
theorem Rz (h:dt P C A σ a w F) {c y z:Operand} (ho:o.op=.pick c y z) (bc:dm P c=true/\dm P y=true/\dm P z=true) {K:St->Option R}
  (hk:(Gl (dq σ c) λc=>match dq σ (bif c then y else z) with
   | .val .bool b=>K (σ.b9 o.dst (.val .bool b))
   | _=>none)=some x):Tk P o a w (Nx P C K x):=by
 have hc:=eu h bc.1
 rcases hc with hc | ⟨xs,e⟩
 ·obtain ⟨b,hb,hk⟩:=GG hc hk
  have VR:∀ y':Operand,dm P y'=true->(match dq σ y' with
   | .val .bool b=>K (σ.b9 o.dst (.val .bool b))
   | _=>none)=some x->Nx P C K x (a.put o.dst (a.eval y')) w:=λy' hy hk=>by
   split at hk
   ·rename_i b' qh
    rcases eu h hy with hs | ⟨xs,e⟩
    ·rw[qh] at hs;exact cj h hk hs (λ_ _ _ _ e=>by cases e)
    ·rw[qh] at e;cases e
   ·cases hk
  cases b with
  | true=>exact fx (v:=a.eval y) (by simp[execOp,ho,hb,asBool]) (VR y bc.2.1 hk)
  | false=>exact fx (v:=a.eval z) (by simp[execOp,ho,hb,asBool]) (VR z bc.2.2 hk)
 ·rw[e] at hk;cases hk
theorem I6 (h:dt P C A σ a w F) (kq:∀ i T,E.TI i=some T->be P T (.inl i)=true) {t:Nat} {y:Operand} (ho:o.op=.load t y) (bc:dm P y=true) {K:St->Option R}
  {mv:Bool} (hk:BL E σ t (dq σ y) mv o.dst K=some x):Tk P o a w (Nx P C K x):=by
 unfold BL at hk;obtain ⟨T,hT,hk⟩:=fu hk;have gj:=kq _ _ hT
 have run:∀ b off L,a.eval y=.pointer (some ⟨b,off,none⟩)->Has w b off L->L.length=T.sz->(∀ u ∈ L,u.oneCell'=true)->∀ w',s9 o w w'->(execOp a.eval o).run P w'=.ok (.value (ci T L)) w':=λb off L hy hL hl mN w' qN=>by
  have qN:=qN (by rw[ho];rfl);simp[execOp,ho,hy,Instr.loadAt,Instr.sureAddr,xK gj (hL.ext qN) hl mN]
 rcases eu h bc with hs | ⟨xs,e⟩
 rotate_left
 ·rw[e] at hk;cases hk
 split at hk
 ·rename_i t' v hv;rw[hv] at hs;split at hk
  ·rename_i e;subst e;obtain ⟨⟨b,off,sp⟩,h1,h2,L,h3,h4,h5⟩:=hs;simp only[cV,eE] at h1;simp only at h2;subst h2;exact fx (run b off L h1 (λj u hu=>(h4 j u hu).1) h3 (Ro.one _ h5)) (cj h hk ⟨L,rfl,h5⟩ (λ_ _ _ _ e=>by cases e))
  ·cases hk
 ·rename_i r p snap hv;rw[hv] at hs;split at hk
  ·rename_i ou;obtain ⟨hr,t',m',H',v',br,cr,F',h1,h2,h3,h4,h5,h6⟩:=lK h hk;obtain ⟨pl,b,off,g1,g2,g3,g4⟩:=hs.2 ou;rw[h3] at g1;injection g1 with g1;subst g1;simp only at g2;subst g2;split at h1
   ·rename_i e;subst e;refine fx (run b off br g3 (h6 b off rfl) (ap.length _ h4) (ap.one _ h4)) ?_;split at h1
    ·rename_i hf;split at h1
     ·exact cj h h1 ⟨br,rfl,ap.flat _ hf h4⟩ (λ_ _ _ _ e=>by cases e)
     ·cases h1
    ·split at h1
     ·rename_i hm;split at h1
      ·rename_i hH;have hH:=bN.1 hH;subst hH;subst hm
       cases mv with
       | false=>exact cj h h1 ⟨br,rfl,ap.ro _ (f_ _) h4⟩ (λ_ _ _ _ e=>by cases e)
       | true=>exact cj h h1 (B6 h h3) (λ_ _ _ _ e=>by cases e)
      ·cases h1
     ·cases mv with
      | false=>exact cj h h1 (B6 h h3) (λ_ _ _ _ e=>by cases e)
      | true=>
       simp only at h1;split at h1
       ·rename_i hH;have hH:=bN.1 hH;subst hH;obtain ⟨A2,kW,F2,cz,wI,Fv,k1,k2,k3,k4,k5,k6,k7⟩:=Ig h h1 ⟨h2⟩;rw[h3] at k6;simp only[aP,Pl.mk.injEq,dZ] at k6;obtain ⟨rfl,rfl⟩:=k6;have hl:=EC (σ:=kW) (a:=a) (ap.mono k2 (λ_ _ _ _ h=>h) (λ_ _ h=>h) _ k7 (λ_ _=>aN _) (λ_ _ _ _ h=>h));exact pv k3 k1 hl.1 (λb i=>by omega) hl.2
       ·cases h1
   ·cases h1
  ·cases hk
 ·cases hk
theorem Po (h:dt P C A σ a w F) (kq:∀ i T,E.TI i=some T->be P T (.inl i)=true) {t:Nat} {y:Operand} (ho:o.op=.load t y) (bc:dm P y=true) {K:St->Option R}
  {mv fr:Bool} (hk:Gm E σ t y mv fr o.dst K=some x):Tk P o a w (Nx P C K x):=by
 unfold Gm at hk;split at hk
 ·exact I6 h kq ho bc hk
 ·split at hk
  ·split at hk
   ·obtain ⟨A1,ov,F1,_,_,_,_,_,k1,_,k3,_⟩:=x9 h hk;exact I6 k3 kq ho bc k1
   ·cases hk
  ·cases hk
theorem Pp {b o b' i:Nat} {v u:Value} (fq:¬ (b=b'/\o=i)) (h:ce w b' i=some u):ce (w.setCell ⟨b,o,none⟩ v) b' i=some u:=by
 by_cases hb:b=b'
 ·subst hb
  cases hh:w.heap[b]? with
  | none=>simp[ce,World.cell?,hh] at h
  | some ob=>
   cases ob with
   | map es clock=>
    have:(w.setCell ⟨b,o,none⟩ v).heap[b]?=w.heap[b]?:=by simp[World.setCell,dJ,hh]
    rw[xr this];exact h
   | cells c e fr=>
    have h2:(w.setCell ⟨b,o,none⟩ v).heap[b]?=some (.cells (c.setIfInBounds o v) e fr):=by simp[World.setCell,dJ,hh]
    simp only[ce,World.cell?,hh,h2] at h ⊢;rw[iP (λe=>fq ⟨rfl,e⟩)];exact h
   | _=>simp[ce,World.cell?,hh] at h
 ·have:(w.setCell ⟨b,o,none⟩ v).heap[b']?=w.heap[b']?:=by simp[World.setCell,dJ,hb]
  rw[xr this];exact h
theorem li {b o:Nat}:∀ (L:List Value) (w:World) (o:Nat),Ext w (w.setCells b o L) (b_ b o L.length)
 | [],w,o=>Ext.refl _ _
 | v::L,w,o=>by
  have ih:=li (b:=b) (o:=o+1) L (w.setCell ⟨b,o,none⟩ v) (o+1)
  have h1:Ext w (w.setCell ⟨b,o,none⟩ v) (b_ b o (L.length+1)):=by
   refine ⟨by simp,λb' i hb hz u hu=>?_,λb' n hn=>?_,λb' i hb=>by simp,rfl,rfl,rfl,λb' hb hz=>?_,aN _⟩
   ·refine Pp (λe=>?_) hu;obtain ⟨e1,e2⟩:=e;subst e1;subst e2;simp[b_] at hz
   ·obtain ⟨c,e,fr,h1,h2,h3⟩:=hn;by_cases yM:b=b'
    ·subst yM;exact ⟨c.setIfInBounds o v,e,fr,by simp[World.setCell,dJ,h1],by simp[h2],h3⟩
    ·exact ⟨c,e,fr,by simp[World.setCell,dJ,yM,h1],h2,h3⟩
   ·have fq:b≠b':=λe=>by
     subst e;have:=hz o;simp[b_] at this
    simp[World.setCell,dJ,fq]
  exact h1.trans ih λb' i hb hz=>by
   simp only[b_] at hz ⊢;split at hz
   ·cases hz
   ·rename_i hn;rw[bB];omega
theorem oI {w:World} {b o:Nat} {L:List Value} (h:∀ j,j < L.length->(w.cell? ⟨b,o+j,none⟩).isSome=true) (mN:∀ u ∈ L,u.oneCell'=true):Has (w.setCells b o L) b o L:=by
 intro j u hu
 have hj:=(aM.1 hu)
 obtain ⟨hj,e⟩:=hj;refine Ey ?_ (mN u (cA hu));rw[World.cell?_setCells_in b L o w h j hj,e]
theorem Pq (h:dt P C A σ a w F) (kq:∀ i T,E.TI i=some T->be P T (.inl i)=true) {t:Nat} {y z:Operand} (ho:o.op=.store t y z) (hd:o.dst=none) (bc:dm P y=true/\dm P z=true) {mv:Bool} {K:St->Option R}
  (hk:Km E σ t (dq σ y) (dq σ z) mv K=some x):o.wp P a w (Nx P C K x) Q:=by
 unfold Km at hk;obtain ⟨T,hT,hk⟩:=fu hk;have gj:=kq _ _ hT
 rcases eu h bc.1 with hs | ⟨xs,e⟩
 rotate_left
 ·rw[e] at hk;cases hk
 split at hk
 ·rename_i r p snap hv;rw[hv] at hs;split at hk
  ·rename_i ou;split at hk
   ·obtain ⟨pl,b,off,g1,g2,g3,g4⟩:=hs.2 ou
    rcases eu h bc.2 with hz | ⟨xs,e⟩
    rotate_left
    ·rw[e] at hk;simp[mV] at hk
    obtain ⟨A',σ',F',m,v,cs,Fv,k1,k2,k3,k4,kr,k5,k6⟩:=tI h hz hk;obtain ⟨hr,m2,H2,v2,cz,wI,F2,q1,q2,q3,q4,q5,q6⟩:=Bz k3 k1
    have ir:wI=some (b,off):=by
     unfold place at g1 q2
     cases hR:c9 w (tmp a r) (σ'.get r) with
     | none=>rw[hR] at q2;cases q2
     | some R1=>
      rw[hR] at q2;obtain ⟨H0,vg⟩:=kr w (tmp a r) r R1 hR;rw[vg] at g1;have:=(Z1 p R1.t g1 q2).2.2;simp only at this;rw[this,g2]
    subst ir;obtain ⟨yy,nZ⟩:=q5 b off rfl;have hl:=ap.length _ k6;have tH:=ap.length _ q3;have mN:=ap.one _ k6;have Z8:=ap.one _ q3
    have yc:∀ j,j < cs.length->(w.cell? ⟨b,off+j,none⟩).isSome=true:=λj hj=>by
     rw[qU (yy j _ (aB (by omega))) (Z8 _ (aS _))];rfl
    have cu:=run_storeCells_cells (P:=P) b off cs 0 w (by simpa using yc) (λj hj=>by simpa using nZ j (by omega)) mN;have VS:(ci T cs).cells.toList=cs:=lh hl mN;have ko:(ci T cs).cells.size=T.sz:=by rw[<-hl,<- iX,VS]
    have gc:(execOp a.eval o).run P w=.ok .skip (w.setCells b off cs):=by
     simp[execOp,ho,g3,k5,Instr.storeAt,Instr.sureAddr,storeVar,run_sizeOf gj,ko,VS,cu]
    refine KN gc hd ?_
    have e_:ap P (w.setCells b off cs) A' T m [] v cs Fv:=by
     refine ap.mono (λ_ _ h=>h) (λb' i ha u hu=>?_) (li (b:=b) (o:=off) cs w off).ub _ k6 (λ_ _=>aN _) (λb' i hp u hu=>?_)
     ·refine (li (b:=b) (o:=off) cs w off).cell b' i (k3.kP b' i (.inr ha)) ?_ u hu;have h1:=q4 b' i;have h2:=cy F' hr b' i
      rcases bF (jd (some (b,off)) T.sz b' i) with h0 | h0
      ·rw[hl];exact h0
      ·exact absurd ha (k3.pW b' i (by omega))
     ·have h1:=q4 b' i;have h2:=cy F' hr b' i;have h3:=k3.o5 b' i
      refine (li (b:=b) (o:=off) cs w off).cell b' i (k3.kP b' i (.inl (by omega))) ?_ u hu;rw[hl];show jd (some (b,off)) T.sz b' i=0;omega
    have dr:Ext w (w.setCells b off cs) (λb' i=>(0+Fv b' i)+(F2 b' i+jd (some (b,off)) T.sz b' i)):=(li (b:=b) (o:=off) cs w off).mono λb' i hz=>by
     have:jd (some (b,off)) T.sz b' i=0:=by have hz:(0+Fv b' i)+(F2 b' i+jd (some (b,off)) T.sz b' i)=0:=hz;omega
     rw[hl];exact this
    obtain ⟨A3,yN,Fr,n1,n2,n3,_⟩:=q6 (w.setCells b off cs) A' cs Fv (λ_ _=>0) dr (λ_ _ h=>h) (λ_ _ h=>.inl h) (λb i=>by omega) (λb' o' e=>by
      simp only[aP,bS] at e;obtain ⟨rfl,rfl⟩:=e;exact oI yc mN) (λe=>by cases e) e_
    exact ⟨yN,n1,A3,_,n3⟩
   ·cases hk
  ·cases hk
 ·cases hk
end
end OT
namespace OT
open Go
section
variable {P:Program} {w:World} {A:Cells}
theorem Pr:∀ (p q:Path) (t:Ty) {H:List Path} {cs:List Value} {ad:Option (Nat×Nat)},bk w (p++q) t H cs ad=(bk w p t H cs ad).bind λpl=>bk w q pl.t pl.H pl.cs pl.ad:=by
 intro p
 induction p with
 | nil=>intro q t H cs ad;rfl
 | cons s p ih=>
  intro q t H cs ad
  cases t with
  | pair a b=>
   cases s with
   | fst=>simp only[cO,bk];split;rfl;exact ih q a
   | snd=>simp only[cO,bk];split;rfl;exact ih q b
   | _=>simp[bk]
  | U e=>
   cases s with
   | idx i=>
    simp only[cO,bk];split
    ·rfl
    ·split
     ·split
      ·exact ih q e
      ·rfl
     ·rfl
   | _=>simp[bk]
  | arr n e=>
   cases s with
   | o4 i=>
    simp only[cO,bk];split
    ·split
     ·exact ih q e
     ·rfl
    ·rfl
   | _=>simp[bk]
  | _=>cases s <;> simp[bk]
theorem FE:∀ (p:Path) (t:Ty) {H:List Path} {cs:List Value} {ad:Option (Nat×Nat)} {pl:Pl},bk w p t H cs ad=some pl->A9 p t=some pl.t:=by
 intro p
 induction p with
 | nil=>intro t H cs ad pl h;simp only[bk,aP] at h;subst h;rfl
 | cons s p ih=>
  intro t H cs ad pl h
  cases t with
  | pair a b=>
   cases s with
   | fst=>simp only[bk] at h;split at h;cases h;exact ih a h
   | snd=>simp only[bk] at h;split at h;cases h;exact ih b h
   | _=>simp[bk] at h
  | U e=>
   cases s with
   | idx i=>
    simp only[bk] at h;split at h
    ·cases h
    ·split at h
     ·split at h
      ·exact ih e h
      ·cases h
     ·cases h
   | _=>simp[bk] at h
  | arr n e=>
   cases s with
   | o4 i=>
    simp only[bk] at h;split at h
    ·split at h
     ·exact ih e h
     ·cases h
    ·cases h
   | _=>simp[bk] at h
  | _=>cases s <;> simp[bk] at h
theorem W3:∀ (q:Path) (t:Ty) {m:Md} {H:List Path} {v:t.den} {cs:List Value} {F:FP} {ad:Option (Nat×Nat)} {pl:Pl},ap P w A t m H v cs F->bk w q t H cs ad=some pl ->
  ∃ (m':Md) (v':pl.t.den) (F':FP),ap P w A pl.t m' pl.H v' pl.cs F':=by
 intro q
 induction q with
 | nil=>intro t m H v cs F ad pl hr h;simp only[bk,aP] at h;subst h;exact ⟨m,v,F,hr⟩
 | cons s q ih=>
  intro t m H v cs F ad pl hr h
  cases t with
  | pair a b=>
   obtain ⟨h0,F1,F2,hs,h1,h2⟩:=hr
   cases s with
   | fst=>simp only[bk,h0,aL] at h;exact ih a h1 h
   | snd=>simp only[bk,h0,aL] at h;exact ih b h2 h
   | _=>simp[bk] at h
  | U e=>
   cases s with
   | idx i=>
    simp only[ap] at hr;simp only[bk] at h;split at h
    ·cases h
    ·rename_i hh;rw[bB hh] at hr;split at hr
     ·obtain ⟨a,cap,rfl,h2,h3,h4,h5⟩:=hr
      cases a with
      | none=>cases h
      | some fh=>
       obtain ⟨g1,g2,g3,Fi,g4,g5⟩:=h5 fh rfl;simp only at h;split at h
       ·rename_i hi;obtain ⟨L,hl,hL,e_⟩:=g5 i _ (aB hi);rw[g1,bE,dx hL hl] at h;exact ih e e_ h
       ·cases h
     ·obtain ⟨rfl,qt,a,cap,rfl,h2,h3,h4⟩:=hr
      cases a with
      | none=>cases h
      | some fh=>
       simp only at h;split at h
       ·rename_i hi;obtain ⟨L,hl,hL,e_⟩:=(h4 fh rfl).2 i _ (aB hi);rw[dx (λj u hu=>(hL j u hu).1) hl] at h;exact ih e (Ro.rep e (λ_ _=>0) qt e_) h
       ·cases h
   | _=>simp[bk] at h
  | arr n e=>
   cases s with
   | o4 i=>
    obtain ⟨rfl,hf,hl,hlen,hr⟩:=hr;simp only[bk,cT,aI] at h;split at h
    ·rename_i hi;exact ih e (Ro.flat e (m:=.leaf) (λ_ _=>0) hf (hr i _ (aB (by rw[hl];exact hi)))) h
    ·cases h
   | _=>simp[bk] at h
  | _=>cases s <;> simp[bk] at h
def jh:Nat->Ty->Nat
 | j+1,.pair a b=>a.sz+jh j b
 | _,_=>0
theorem M3 (ad:Option (Nat×Nat)):gf ad 0=ad:=by cases ad <;> simp[gf]
theorem Ps (ad:Option (Nat×Nat)) (j k:Nat):gf (gf ad j) k=gf ad (j+k):=by cases ad <;> simp[gf,cE]
theorem Oh:∀ (j:Nat) (S:Ty) {t':Ty} {m:Md} {H:List Path} {v:S.den} {cs:List Value} {F:FP} {ad:Option (Nat×Nat)},ap P w A S m H v cs F->t_ j S=some t' ->
  ∃ H',bk w (oc j) S H cs ad=some ⟨t',H',(cs.drop (jh j S)).take t'.sz,gf ad (jh j S)⟩:=by
 intro j
 induction j with
 | zero=>
  intro S t' m H v cs F ad hr h
  cases S with
  | pair a b=>
   injection h with h;subst h;obtain ⟨h0,F1,F2,hs,h1,h2⟩:=hr;exact ⟨_,by simp only[oc,bk,h0,aF,aL,jh,eF,M3];rfl⟩
  | _=>cases h
 | succ j ih=>
  intro S t' m H v cs F ad hr h
  cases S with
  | pair a b=>
   obtain ⟨h0,F1,F2,hs,h1,h2⟩:=hr;obtain ⟨H',e⟩:=ih b (ad:=gf ad a.sz) h2 h;exact ⟨H',by simp only[oc,bk,h0,aF,aL,jh];rw[e,dA,Ps]⟩
  | _=>cases h
theorem TS:∀ (j:Nat) (T:Ty) {t:Ty},A9 (oc j) T=some t->∃ t2,t_ j T=some t2:=by
 intro j
 induction j with
 | zero=>intro T t h;cases T <;> first | exact ⟨_,rfl⟩ | (simp[oc,A9] at h;done)
 | succ j ih=>intro T t h;cases T <;> first | (simp[oc,A9] at h;done) | exact ih _ (by simpa [oc,A9] using h)
theorem Oi:∀ (j:Nat) (S:Ty) {t':Ty} {fs:List Field} {off:Nat},be P S (.inr (fs,off))=true->t_ j S=some t' ->
  ∃ f,fs[j]?=some f/\f.offset=off+jh j S/\be P t' (.inl f.type)=true/\1<=t'.sz:=by
 intro j
 induction j with
 | zero=>
  intro S t' fs off hl h
  cases S with
  | pair a b=>
   injection h with h;subst h
   cases fs with
   | nil=>simp[be] at hl
   | cons f r=>
    simp only[be,aE,eJ,dU] at hl;exact ⟨f,rfl,by simp[jh,hl.1.1.1],hl.1.2,hl.1.1.2⟩
  | _=>cases h
 | succ j ih=>
  intro S t' fs off hl h
  cases S with
  | pair a b=>
   cases fs with
   | nil=>simp[be] at hl
   | cons f r=>
    simp only[be,aE,eJ,dU] at hl;obtain ⟨f',h1,h2,h3⟩:=ih b hl.2 h;exact ⟨f',by simpa using h1,by rw[h2,jh];omega,h3⟩
  | _=>cases h
theorem GH {j:Nat} {S t':Ty} {i:TypeId} (hl:be P S (.inl i)=true) (h:t_ j S=some t') :
  ∃ fs f,P.underlying i=some (.struct fs)/\fs[j]?=some f/\f.offset=jh j S/\be P t' (.inl f.type)=true/\1<=t'.sz:=by
 cases S with
 | pair a b=>
  simp only[be,aE] at hl;have h2:=hl.2;split at h2
  ·rename_i fs hu;split at h2
   ·rename_i f r DF
    have h3:be P (.pair a b) (.inr (f::r,0))=true:=by
     simp only[be,bE];exact h2
    obtain ⟨f',q1,q2,q3,q4⟩:=Oi j (.pair a b) h3 h;refine ⟨fs,f',hu,?_,by omega,q3,q4⟩
    rw[<-DF] at q1
    simpa using q1
   ·cases h2
  ·cases h2
 | _=>cases j <;> cases h
theorem uu {t:Ty} {i:TypeId} (h:be P t (.inl i)=true) {cs:Array Value} {off:Nat} (hl:((cs.toList.drop off).take t.sz).length=t.sz):(part i cs off).run P w=.ok (ci t ((cs.toList.drop off).take t.sz)) w:=by
 unfold part;simp only[Sem.run_bind,wa h,Result.andThen_ok]
 cases ht:isAgg t with
 | true=>
  simp only[aI,Sem.run_bind,run_sizeOf h,Result.andThen_ok,Sem.run_pure,ci,ht];congr 2;apply eY;simp[Array.toList_extract,jL]
 | false=>
  have hs:=FC ht;rw[hs] at hl ⊢;have ho:off < cs.size:=by simp at hl;omega
  have e:(cs.toList.drop off).take 1=[cs[off]]:=by
   rw[List.take_one];simp[ho]
  simp only[aF,aL,ci,ht,e,List.headD_cons];simp[ho]
end
section
variable {P:Program} {C:Ctx} {A:Cells} {X:FP} {σ:St} {a:Act} {w:World} {F:Nat->FP} {R:Type} {x:R} {Q:Exit->Act->World->Prop} {o:Oper} {E:Env}
theorem I7 (h:Rel P C A X σ a w F) {r:Nat} {p:Path} {pl:Pl} (hp:place σ a w r p=some pl):∃ (m':Md) (v':pl.t.den) (F':FP),ap P w A pl.t m' pl.H v' pl.cs F':=by
 have am:=s8 hp;unfold place at hp
 cases hR:c9 w (tmp a r) (σ.get r) with
 | none=>rw[hR] at hp;cases hp
 | some R0=>
  rw[hR] at hp;obtain ⟨m0,v0,F1,q1,q2,q3,_⟩:=wD (h.g_ r am) hR;exact W3 p R0.t q1 hp
theorem sG (r:Nat) (p q:Path):place σ a w r (p++q)=(place σ a w r p).bind λpl=>bk w q pl.t pl.H pl.cs pl.ad:=by
 unfold place
 cases c9 w (tmp a r) (σ.get r) with
 | none=>rfl
 | some R0=>exact Pr p q R0.t
theorem GI {r:Nat} {p:Path} {pl:Pl} (hp:place σ a w r p=some pl):Ft σ r p=some pl.t:=by
 unfold place at hp;unfold Ft Kl
 cases hg:σ.get r with
 | own t m H v=>rw[hg] at hp;simp only[c9,aA] at hp;exact FE p t hp
 | box t m H v=>
  rw[hg] at hp;simp only[c9] at hp;split at hp
  ·exact FE p t hp
  ·cases hp
 | _=>rw[hg] at hp;simp[c9] at hp
theorem TT (p:Path) (j:Nat):dj (p++oc j)=dj p:=by
 induction p with
 | nil=>induction j with
  | zero=>rfl
  | succ j ih=>simpa [oc,dj] using ih
 | cons s p ih=>cases s <;> simp only[cO,dj,ih]
theorem I8 {A':Cells}:∀ (j:Nat) (S:Ty) {v:S.den} {K:(t':Ty)->t'.den->Option R} {cs:List Value},O8 j S v K=some x->Ro P w A' S v cs ->
  ∃ t' v',t_ j S=some t'/\K t' v'=some x/\Ro P w A' t' v' ((cs.drop (jh j S)).take t'.sz):=by
 intro j
 induction j with
 | zero=>
  intro S v K cs h hr
  cases S with
  | pair a b=>exact ⟨a,v.1,rfl,h,by simp only[jh,eF];exact hr.1⟩
  | _=>cases h
 | succ j ih=>
  intro S v K cs h hr
  cases S with
  | pair a b=>
   obtain ⟨t',v',h1,h2,h3⟩:=ih b (v:=v.2) h hr.2;exact ⟨t',v',h1,h2,by rw[jh,<- dA];exact h3⟩
  | _=>cases h
theorem JQ (h:dt P C A σ a w F) {y:Operand} (ho:o.op=.nilCheck y) (bc:dm P y=true) {K:St->Option R}
  (hk:(match dq σ y with
  | .ptr r p snap=>if σ.ok r snap then K (σ.b9 o.dst (.ptr r p snap)) else none
  | .cp t v=>K (σ.b9 o.dst (.cp t v))
  | .val .fn f=>K (σ.b9 o.dst (.val .fn f))
  | _=>none)=some x):Tk P o a w (Nx P C K x):=by
 rcases eu h bc with hs | ⟨xs,e⟩
 rotate_left
 ·rw[e] at hk;cases hk
 split at hk
 ·rename_i r p snap hv;rw[hv] at hs;split at hk
  ·rename_i ou;obtain ⟨pl,b,off,g1,g2,g3,g4⟩:=hs.2 ou;exact fx (v:=a.eval y) (by simp[execOp,ho,g3]) (cj h hk hs (λ_ _ _ _ e=>by cases e))
  ·cases hk
 ·rename_i t v hv;rw[hv] at hs;obtain ⟨ad,h1,_⟩:=id hs;simp only[cV,eE] at h1;exact fx (v:=a.eval y) (by simp[execOp,ho,h1]) (cj h hk hs (λ_ _ _ _ e=>by cases e))
 ·rename_i f hv;rw[hv] at hs;obtain ⟨cs,h1,yt,h2,_⟩:=id hs;subst h2;exact fx (v:=a.eval y) (by simp[execOp,ho,h1,ci,isAgg]) (cj h hk hs (λ_ _ _ _ e=>by cases e))
 ·cases hk
theorem Ii (h:dt P C A σ a w F) (kq:∀ i T,E.TI i=some T->be P T (.inl i)=true) {S:Nat} {y:Operand} {j:Nat} (ho:o.op=.fieldAddr S y j) (bc:dm P y=true) {K:St->Option R}
  (hk:BM E σ S (dq σ y) j o.dst K=some x):Tk P o a w (Nx P C K x):=by
 unfold BM at hk;obtain ⟨T,hT,hk⟩:=fu hk;have gj:=kq _ _ hT
 have run:∀ t' b off,t_ j T=some t'->a.eval y=.pointer (some ⟨b,off,none⟩)->∀ w',s9 o w w'->(execOp a.eval o).run P w'=.ok (.value (.pointer (some ⟨b,off+jh j T,none⟩))) w':=λt' b off ht hy w' _=>by
  obtain ⟨fs,f,h1,h2,h3,h4,h5⟩:=GH gj ht;have ko:=run_sizeOf (P:=P) (w:=w') h4;have fq:¬ t'.sz=0:=by omega
  simp[execOp,ho,hy,Instr.fieldAt,Instr.sureAddr,run_underlying h1,h2,fieldPlace,ko,fq,pu,h3]
 rcases eu h bc with hs | ⟨xs,e⟩
 rotate_left
 ·rw[e] at hk;cases hk
 split at hk
 ·rename_i t' v hv;rw[hv] at hs;split at hk
  ·rename_i e;subst e;obtain ⟨⟨b,off,sp⟩,h1,h2,L,h3,h4,h5⟩:=hs;simp only[cV,eE] at h1;simp only at h2;subst h2;obtain ⟨t2,v2,q1,q2,q3⟩:=I8 j t' hk h5;refine fx (run t2 b off q1 h1) (cj h q2 ⟨_,rfl,rfl,_,Ro.length _ q3,λk u hu=>?_,q3⟩ (λ_ _ _ _ e=>by cases e));rw[bJ] at hu;split at hu
   ·rw[bL] at hu;have:=h4 _ u hu
    simpa [cE] using this
   ·cases hu
  ·cases hk
 ·rename_i r p snap hv;rw[hv] at hs;split at hk
  ·rename_i ou;split at hk
   ·rename_i zL;split at hk
    ·rename_i hf;obtain ⟨pl,b,off,g1,g2,g3,g4⟩:=hs.2 ou;rw[GI g1] at zL;injection zL with zL;obtain ⟨t',C5⟩:=fZ.1 hf;refine fx (run t' b off C5 g3) (cj h hk ⟨hs.1,λ_=>?_⟩ (λ_ _ _ _ e=>by cases e));obtain ⟨m',v',F',e_⟩:=I7 h g1;obtain ⟨tp,Hp,VT,RA⟩:=pl;simp only at zL g2 e_;subst zL;obtain ⟨H',e⟩:=Oh (ad:=RA) j tp e_ C5;refine ⟨⟨t',H',(VT.drop (jh j tp)).take t'.sz,gf RA (jh j tp)⟩,b,off+jh j tp,?_,?_,rfl,by rw[TT];exact g4⟩
     ·rw[sG,g1];exact e
     ·simp[gf,g2]
    ·cases hk
   ·cases hk
  ·cases hk
 ·cases hk
theorem Pt (h:dt P C A σ a w F) (kq:∀ i T,E.TI i=some T->be P T (.inl i)=true) {S:Nat} {y:Operand} {j:Nat} (ho:o.op=.field S y j) (bc:dm P y=true) {K:St->Option R}
  (hk:H6 E σ S (dq σ y) j o.dst K=some x):Tk P o a w (Nx P C K x):=by
 unfold H6 at hk;obtain ⟨T,hT,hk⟩:=fu hk;have gj:=kq _ _ hT
 have run:∀ t' cs,t_ j T=some t'->a.eval y=ci T cs->((cs.drop (jh j T)).take t'.sz).length=t'.sz->∀ w',s9 o w w'->(execOp a.eval o).run P w'=.ok (.value (ci t' ((cs.drop (jh j T)).take t'.sz))) w':=λt' cs ht hy hl w' _=>by
  obtain ⟨fs,f,h1,h2,h3,h4,h5⟩:=GH gj ht
  have aa7:ci T cs=.agg cs.toArray:=by cases T <;> first | rfl | (cases j <;> cases ht)
  have:=uu (P:=P) (w:=w') h4 (cs:=cs.toArray) (off:=jh j T) (by simpa using hl);simp only[List.toList_toArray] at this;simp[execOp,ho,hy,aa7,Instr.field,run_underlying h1,h2,asAgg,h3,this]
 rcases eu h bc with hs | ⟨xs,e⟩
 rotate_left
 ·rw[e] at hk;cases hk
 split at hk
 ·rename_i t' v hv;rw[hv] at hs;split at hk
  ·rename_i e;subst e;obtain ⟨cs,h1,h2⟩:=hs;obtain ⟨t2,v2,q1,q2,q3⟩:=I8 j t' hk h2;exact fx (run t2 cs q1 h1 (Ro.length _ q3)) (cj h q2 ⟨_,rfl,q3⟩ (λ_ _ _ _ e=>by cases e))
  ·cases hk
 ·rename_i r p snap hv;rw[hv] at hs;split at hk
  ·rename_i ou;split at hk
   ·rename_i zL;obtain ⟨hr,t',m',H',v',br,cr,F',h1,h2,h3,h4,h5,h6⟩:=lK h hk;obtain ⟨pl,g1,g2,g3⟩:=hs.2 ou;rw[GI g1] at zL;injection zL with zL;obtain ⟨m0,v0,F0,e_⟩:=I7 h g1;obtain ⟨tp,Hp,VT,RA⟩:=pl;simp only at zL g2 e_;subst zL
    have hf:∃ t2,t_ j tp=some t2:=by
     have h7:=h3;rw[sG,g1] at h7;exact TS j tp (FE _ _ h7)
    obtain ⟨t2,VU⟩:=hf;obtain ⟨H2,e⟩:=Oh (ad:=RA) j tp e_ VU;have ir:place σ a w r (p++oc j)=some ⟨t2,H2,(VT.drop (jh j tp)).take t2.sz,gf RA (jh j tp)⟩:=by rw[sG,g1];exact e
    rw[ir] at h3;injection h3 with h3;simp only[Pl.mk.injEq] at h3;obtain ⟨rfl,rfl,rfl,rfl⟩:=h3;refine fx (run t2 VT VU g2 (ap.length _ h4)) ?_;split at h1
    ·rename_i hc;split at h1
     ·rename_i hH;have hH:=bN.1 hH;subst hH;refine cj h h1 ⟨_,rfl,?_⟩ (λ_ _ _ _ e=>by cases e);simp only[cY,bM] at hc;rcases hc with hc | hc
      ·exact ap.flat _ hc h4
      ·subst hc;exact ap.ro _ (f_ _) h4
     ·cases h1
    ·exact cj h h1 (B6 h ir) (λ_ _ _ _ e=>by cases e)
   ·cases hk
  ·cases hk
 ·cases hk
end
end OT
namespace OT
open Go
section
variable {P:Program} {C:Ctx} {A:Cells} {X:FP} {σ:St} {a:Act} {w:World} {F:Nat->FP} {R:Type} {x:R} {Q:Exit->Act->World->Prop} {o:Oper} {E:Env}
theorem FF {n:Int} {len:Nat} {K:Nat->Option R} (h:Rd n len K=some x):0<=n/\n < (len:Int)/\K n.toNat=some x:=by
 unfold Rd at h;split at h
 ·rename_i hc;exact ⟨hc.1,hc.2,h⟩
 ·cases h
theorem bind_some {α:Type} {o:Option α} {K:α->Option R} (h:o.bind K=some x):∃ y,o=some y/\K y=some x:=by
 cases o with
 | none=>cases h
 | some y=>exact ⟨y,rfl,h⟩
theorem tT {e:Ty} {i:TypeId} (h:be P (.U e) (.inl i)=true):∃ el,P.underlying i=some (.slice el)/\1<=e.sz/\be P e (.inl el)=true:=by
 simp only[be,aE] at h;have h2:=h.2;split at h2
 ·rename_i el hu;simp only[aE,dU] at h2;exact ⟨el,hu,h2.1,h2.2⟩
 ·cases h2
theorem Oj {n:Nat} {e:Ty} {i:TypeId} (h:be P (.arr n e) (.inl i)=true):∃ el,P.underlying i=some (.array n el)/\1<=e.sz/\be P e (.inl el)=true:=by
 simp only[be,aE] at h;have h2:=h.2;split at h2
 ·rename_i n' el hu;simp only[aE,dU,eJ] at h2;rw[h2.1.1];exact ⟨el,hu,h2.1.2,h2.2⟩
 ·cases h2
theorem m7 {i:TypeId} (h:be P .str (.inl i)=true):P.underlying i=some .string:=by
 simp only[be,aE] at h;have h2:=h.2;split at h2
 ·assumption
 ·cases h2
theorem pw {k:IntKind} {i:TypeId} (h:be P (.int k) (.inl i)=true):P.underlying i=some (.int k):=by
 simp only[be,aE] at h;have h2:=h.2;split at h2
 ·rename_i k' hu;simp only[bM] at h2;rw[h2];exact hu
 ·cases h2
theorem M4 (p q:Path):dj (p++q)=dj p+dj q:=by
 induction p with
 | nil=>simp[dj]
 | cons s p ih=>cases s <;> simp only[cO,dj,ih] <;> omega
theorem GJ (h:Rel P C A X σ a w F) {r:Nat} {p:Path} {pl:Pl} {b off:Nat} (hp:place σ a w r p=some pl) (fk:pl.ad=some (b,off)):By σ a w (.pointer (some ⟨b,off,none⟩)) r p (vY σ r p):=by
 have h5:=h.mf r;refine ⟨?_,λ_=>⟨pl,b,off,hp,fk,rfl,by unfold vY;rw[bP,h5];omega⟩⟩
 unfold vY;intro j y hj;rw[bJ] at hj;split at hj;exact ⟨y,hj,aN _⟩;cases hj
theorem Ij (h:dt P C A σ a w F) (kq:∀ i T,E.TI i=some T->be P T (.inl i)=true) {t:Nat} {y z:Operand} (ho:o.op=.indexAddr t y z) (bc:dm P y=true/\dm P z=true) {K:St->Option R}
  (hk:BN E σ t (dq σ y) (dq σ z) o.dst K=some x):Tk P o a w (Nx P C K x):=by
 unfold BN at hk;obtain ⟨T,hT,hk⟩:=fu hk;have gj:=kq _ _ hT
 rcases eu h bc.2 with hz | ⟨xs,e⟩
 rotate_left
 ·rw[e] at hk;cases hk
 obtain ⟨kz,n,KO,hk⟩:=sS hz hk
 have DG:∀ e ad len cap,T=.U e->a.eval y=.slice (some ad) len cap->ad.spot=none->0<=n->n < (len:Int)->∀ w',s9 o w w'->(execOp a.eval o).run P w'=.ok (.value (.pointer (some ⟨ad.block,ad.off+n.toNat*e.sz,none⟩))) w':=λe ad len cap rg hy n8 h0 h1 w' _=>by
  subst rg;obtain ⟨el,hu,_,hle⟩:=tT gj;obtain ⟨b,off,sp⟩:=ad;simp only at n8;subst n8;have ko:=run_sizeOf (P:=P) (w:=w') hle;simp[execOp,ho,hy,KO,Instr.indexAt,asIntOf,run_underlying hu,h0,h1,ko,pu]
 have Yf:∀ m e b off,T=.arr m e->a.eval y=.pointer (some ⟨b,off,none⟩)->0<=n->n < (m:Int)->∀ w',s9 o w w'->(execOp a.eval o).run P w'=.ok (.value (.pointer (some ⟨b,off+n.toNat*e.sz,none⟩))) w':=λm e b off rg hy h0 h1 w' _=>by
  subst rg;obtain ⟨el,hu,_,hle⟩:=Oj gj;have ko:=run_sizeOf (P:=P) (w:=w') hle;simp[execOp,ho,hy,KO,Instr.indexAt,asIntOf,run_underlying hu,h0,h1,ko,pu,Instr.sureAddr]
 have roS:∀ (e:Ty) (v:List e.den) (tv:Value) (yv:e.den),T=.U e->a.eval y=tv->Ro P w A (.U e) v [tv]->0<=n->v[n.toNat]?=some yv->K (σ.b9 o.dst (.cp e yv))=some x->Tk P o a w (Nx P C K x):=λe v tv yv rg hy sB h0 C6 hk=>by
  obtain ⟨xa,cap,h1,h2,h3,h4⟩:=sB;simp only[cV,eE] at h1;subst h1;have am:=(aM.1 C6).1
  cases xa with
  | none=>have:=h3 rfl;omega
  | some ad=>
   obtain ⟨g1,g2⟩:=h4 ad rfl;obtain ⟨L,l1,l2,l3⟩:=g2 _ _ C6;exact fx (DG e ad _ cap rg hy (g1 (by omega)) h0 (by omega)) (cj h hk ⟨_,rfl,rfl,L,l1,l2,l3⟩ (λ_ _ _ _ e=>by cases e))
 rcases eu h bc.1 with hs | ⟨xs,e⟩
 rotate_left
 ·rw[e] at hk;cases hk
 split at hk
 ·rename_i e v hv;rw[hv] at hs;split at hk
  ·rename_i rg;split at hk
   ·rename_i h0;obtain ⟨yv,C6,hk⟩:=bind_some hk;obtain ⟨cs,h1,h2⟩:=hs;have hl:=Ro.length _ h2
    match cs,hl with
    | [tv],_=>exact roS e v tv yv rg (by rw[h1,db _ _ rfl]) h2 h0 C6 hk
   ·cases hk
  ·cases hk
 ·rename_i m e v hv;rw[hv] at hs;split at hk
  ·rename_i rg;split at hk
   ·rename_i h0;obtain ⟨yv,C6,hk⟩:=bind_some hk;obtain ⟨⟨b,off,sp⟩,h1,h2,L,h3,h4,h5⟩:=hs;simp only[cV,eE] at h1;simp only at h2;subst h2;obtain ⟨q1,q2,q3,q4⟩:=h5;have am:n.toNat < m:=q2 ▸ (aM.1 C6).1;have sB:=q4 _ _ C6;refine fx (Yf m e b off rg h1 h0 (by omega)) (cj h hk ⟨_,rfl,rfl,_,Ro.length _ sB,λk u hu=>?_,sB⟩ (λ_ _ _ _ e=>by cases e));rw[bJ] at hu;split at hu
    ·rw[bL] at hu;have:=h4 _ u hu;simp only[<-cE] at this;exact this
    ·cases hu
   ·cases hk
  ·cases hk
 ·rename_i r p snap hv;rw[hv] at hs;split at hk
  ·rename_i ou;obtain ⟨hr,t',m',H',v',br,cr,F',h1,h2,h3,h4,h5,h6⟩:=lK h hk;obtain ⟨pl,g1,g2,g3⟩:=hs.2 ou;rw[h3] at g1;injection g1 with g1;subst g1;simp only at g2;split at h1
   ·cases h1
   ·rename_i hH;have hH:hole H'=false:=gR.2 hH;split at h1
    ·rename_i rg;split at h1
     ·rename_i e KP;have hl:=ap.length _ h4;split at h1
      ·rename_i fa;obtain ⟨i0,i1,h1⟩:=FF h1;have e_:=h4;simp only[ap,hH,aF,aL,fa,aI] at e_;obtain ⟨xa,cap,rfl,q2,q3,q4,q5⟩:=e_
       cases xa with
       | none=>have:=q4 rfl;omega
       | some fh=>
        obtain ⟨r1,r2,r3,Fi,r4,r5⟩:=q5 fh rfl;rw[db _ _ rfl] at g2;have am:n.toNat < List.length KP:=by omega
        refine fx (DG e fh _ cap rg.symm g2 r2 i0 i1) (cj h h1 (GJ (pl:=⟨e,H'.filterMap (ld n.toNat),rd w fh.block (fh.off+n.toNat*e.sz) e.sz,some (fh.block,fh.off+n.toNat*e.sz)⟩) h ?_ rfl) (λ_ _ _ _ e=>by cases e));rw[sG,h3];simp only[aA,bk,hH,aF,aL,am,aI]
      ·rename_i fa;split at h1
       ·rename_i h0;obtain ⟨yv,C6,h1⟩:=bind_some h1;have e_:=h4;simp only[ap,hH,aF,aL,fa] at e_
        match br,hl with
        | [tv],_=>
         rw[db _ _ rfl] at g2;exact roS e KP tv yv rg.symm g2 e_.2.2 h0 C6 h1
       ·cases h1
     ·cases h1
    ·cases h1
  ·cases hk
 ·rename_i r p snap lo hi hv;rw[hv] at hs;split at hk
  ·rename_i ou;obtain ⟨hr,t',m',H',v',br,cr,F',h1,h2,h3,h4,h5,h6⟩:=lK h hk;obtain ⟨pl,e,xa,len,cap,vh,cap',g1,g2,g3,g4,g5,g6,g7,KM,g8,g9,g10⟩:=hs.2 ou;rw[h3] at g1;injection g1 with g1;subst g1;simp only at g2 g3;subst g2;subst g3;split at h1
   ·cases h1
   ·rename_i hH;have hH:hole H'=false:=gR.2 hH;split at h1
    ·rename_i rg;obtain ⟨i0,i1,h1⟩:=FF h1
     have vk:∃ fh,xa=some fh/\fh.spot=none:=by
      simp only[ap,hH,aF,aL] at h4
      cases xa with
      | none=>
       split at h4
       ·obtain ⟨Ol,B7,q1,q2,q3,q4,_⟩:=h4;simp only[cV,Value.slice.injEq,eE] at q1;have:=q4 q1.1.symm;omega
       ·obtain ⟨_,_,Ol,B7,q1,q2,q3,_⟩:=h4;simp only[cV,Value.slice.injEq,eE] at q1;have:=q3 q1.1.symm;omega
      | some fh=>
       refine ⟨fh,rfl,?_⟩
       split at h4
       ·obtain ⟨Ol,B7,q1,q2,q3,q4,q5⟩:=h4;simp only[cV,Value.slice.injEq,eE] at q1;exact (q5 fh q1.1.symm).2.1
       ·obtain ⟨_,_,Ol,B7,q1,q2,q3,q4⟩:=h4;simp only[cV,Value.slice.injEq,eE] at q1;exact (q4 fh q1.1.symm).1 (by have:=q1.2.1;have:=q1.2.2;omega)
     obtain ⟨fh,rfl,n8⟩:=vk;obtain ⟨Av,e1,e2,e3,e4⟩:=g9 fh rfl;subst e1;have e4:=e4 (by omega);refine fx (DG e Av _ cap' rg.symm g6 (e2.trans n8) i0 i1) ?_
     have KQ:(⟨Av.block,Av.off+n.toNat*e.sz,none⟩:Addr)=⟨fh.block,fh.off+(lo+n.toNat)*e.sz,none⟩:=by
      rw[e3,e4,cI,cE]
     rw[KQ];have am:lo+n.toNat < len:=by omega
     refine cj h h1 (GJ (pl:=⟨e,H'.filterMap (ld (lo+n.toNat)),rd w fh.block (fh.off+(lo+n.toNat)*e.sz) e.sz,some (fh.block,fh.off+(lo+n.toNat)*e.sz)⟩) h ?_ rfl) (λ_ _ _ _ e=>by cases e);rw[sG,h3];simp only[aA,bk,hH,aF,aL,am,aI]
    ·cases h1
  ·cases hk
 ·rename_i r p snap hv;rw[hv] at hs;split at hk
  ·rename_i ou;obtain ⟨hr,t',m',H',v',br,cr,F',h1,h2,h3,h4,h5,h6⟩:=lK h hk;obtain ⟨pl,b,off,g1,g2,g3,g4⟩:=hs.2 ou;rw[h3] at g1;injection g1 with g1;subst g1;simp only at g2;subst g2;split at h1
   ·rename_i rg;split at h1
    ·rename_i m e KP;obtain ⟨i0,i1,h1⟩:=FF h1;obtain ⟨hH,hf,hl,hlen,sB⟩:=h4;subst hH;have am:n.toNat < m:=by omega
     refine fx (Yf m e b off rg.symm g3 i0 (by omega)) (cj h h1 ⟨hs.1,λ_=>⟨⟨e,[],(br.drop (n.toNat*e.sz)).take e.sz,some (b,off+n.toNat*e.sz)⟩,b,off+n.toNat*e.sz,?_,rfl,rfl,?_⟩⟩ (λ_ _ _ _ e=>by cases e))
     ·rw[sG,h3];simp only[aA,bk,cT,aI,am,gf,cC]
     ·rw[M4];exact g4
    ·cases h1
   ·cases h1
  ·cases hk
 ·cases hk
end
end OT
namespace OT
open Go
section
variable {P:Program} {C:Ctx} {A:Cells} {X:FP} {σ:St} {a:Act} {w:World} {F:Nat->FP} {R:Type} {x:R} {Q:Exit->Act->World->Prop} {o:Oper} {E:Env}
theorem RB (s:List UInt8) (n:Nat):(⟨s.toArray⟩:ByteArray)[n]?=s[n]?:=by
 by_cases h:n < s.length
 ·have h1:n < (⟨s.toArray⟩:ByteArray).size:=by simpa [ByteArray.size] using h
  rw[getElem?_pos _ n h1,aB h];rfl
 ·have h1:¬ n < (⟨s.toArray⟩:ByteArray).size:=by simpa [ByteArray.size] using h
  rw[getElem?_neg _ n h1,cW (fH h)]
theorem Pu (h:dt P C A σ a w F) (kq:∀ i T,E.TI i=some T->be P T (.inl i)=true) {t:Nat} {y z:Operand} (ho:o.op=.index t y z) (bc:dm P y=true/\dm P z=true) {K:St->Option R}
  (hk:Kn E σ t (dq σ y) (dq σ z) o.dst K=some x):Tk P o a w (Nx P C K x):=by
 unfold Kn at hk;have C7:=fu hk;clear hk;obtain ⟨T,hT,mw⟩:=C7;have gj:=kq _ _ hT
 rcases eu h bc.2 with hz | ⟨xs,e⟩
 rotate_left
 ·rw[e] at mw;cases mw
 have hk3:=sS hz mw;clear mw;obtain ⟨kz,n,KO,hk⟩:=hk3
 rcases eu h bc.1 with hs | ⟨xs,e⟩
 rotate_left
 ·rw[e] at hk;cases hk
 split at hk
 ·rename_i s hv;rw[hv] at hs;split at hk
  ·rename_i rg;subst rg;split at hk
   ·rename_i h0;obtain ⟨c,hc,hk⟩:=bind_some hk;obtain ⟨cs,h1,h2⟩:=hs;simp only[Ro] at h2;subst h2;have hb:=RB s n.toNat;rw[hc] at hb;refine fx (v:=.int .u8 c.toNat) ?_ (cj h hk ⟨[_],rfl,rfl⟩ (λ_ _ _ _ e=>by cases e));simp[execOp,ho,h1,ci,isAgg,KO,Instr.index,asIntOf,run_underlying (m7 gj),h0,hb]
   ·cases hk
  ·cases hk
 ·rename_i m e v hv;rw[hv] at hs;split at hk
  ·rename_i rg;subst rg;split at hk
   ·rename_i h0;obtain ⟨yv,C6,hk⟩:=bind_some hk;obtain ⟨cs,h1,h2⟩:=hs;obtain ⟨q1,q2,q3,q4⟩:=id h2;obtain ⟨el,hu,_,hle⟩:=Oj gj;have am:n.toNat < m:=q2 ▸ (aM.1 C6).1;have sZ:n < (m:Int):=by omega
    have sB:=q4 _ _ C6;refine fx (v:=ci e ((cs.drop (n.toNat*e.sz)).take e.sz)) (λw' _=>?_) (cj h hk ⟨_,rfl,sB⟩ (λ_ _ _ _ e=>by cases e));have hp:=uu (P:=P) (w:=w') hle (cs:=cs.toArray) (off:=n.toNat*e.sz) (by simpa using Ro.length _ sB);simp only[List.toList_toArray] at hp;have ko:=run_sizeOf (P:=P) (w:=w') hle;simp[execOp,ho,h1,ci,isAgg,KO,Instr.index,asIntOf,run_underlying hu,h0,sZ,ko,hp]
   ·cases hk
  ·cases hk
 ·cases hk
theorem zM {t:Ty} {m:Md} {H:List Path} {e:Ty} {v:List e.den} {cs:List Value} {G:FP} (h:ap P w A (.U e) m H v cs G) (hH:hole H=false) :
  ∃ xa cap,cs=[.slice xa (List.length v) cap]/\List.length v<=cap/\(xa=none->List.length v=0):=by
 simp only[ap,hH,aF,aL] at h;split at h
 ·obtain ⟨xa,cap,q1,q2,q3,q4,q5⟩:=h;exact ⟨xa,cap,q1,q2,λe=>by have:=q4 e;omega⟩
 ·obtain ⟨_,_,xa,cap,q1,q2,q3,q4⟩:=h;exact ⟨xa,cap,q1,q2,q3⟩
theorem zN {t:Nat} {y:Operand} (ho:o.op=.call { callee:=.builtin .len,args:=#[y],argTypes:=#[t] }) :
  (execOp a.eval o).run P w=((Builtin.len_ #[t] o.type #[a.eval y]).run P w).andThen λv w'=>.ok (.value v) w':=by
 unfold execOp;simp only[ho,resolve,invoke,builtin,Sem.run_bind,Sem.run_pure,Result.andThen_ok,List.map_toArray,cS,fU]
theorem TU (h:dt P C A σ a w F) (kq:∀ i T,E.TI i=some T->be P T (.inl i)=true) {t:Nat} {y:Operand} (ho:o.op=.call { callee:=.builtin .len,args:=#[y],argTypes:=#[t] }) (bc:dm P y=true) {K:St->Option R}
  (hk:TJ E σ t (dq σ y) (λn=>K (σ.b9 o.dst (.val (.int .i64) (n:Int))))=some x):Tk P o a w (Nx P C K x):=by
 unfold TJ at hk;obtain ⟨T,hT,hk⟩:=fu hk;have gj:=kq _ _ hT
 rcases eu h bc with hs | ⟨xs,e⟩
 rotate_left
 ·rw[e] at hk;split at hk <;> cases hk
 have fin:∀ n:Nat,K (σ.b9 o.dst (.val (.int .i64) (n:Int)))=some x->Nx P C K x (a.put o.dst (.int .i64 (n:Int))) w:=λn hk=>cj h hk ⟨[_],rfl,rfl⟩ (λ_ _ _ _ e=>by cases e);split at hk
 ·split at hk
  ·rename_i s hv;rw[hv] at hs;obtain ⟨cs,h1,h2⟩:=hs;simp only[Ro] at h2;subst h2;refine fx (v:=.int .i64 (s.length:Int)) (λw' _=>?_) (fin _ hk);have e:a.eval y=.string ⟨List.toArray s⟩:=h1;have e2:(⟨List.toArray s⟩:ByteArray).size=s.length:=rfl;rw[zN ho,e];unfold Builtin.len_;simp only[gQ,eN,Sem.run_bind,run_underlying (m7 gj),Result.andThen_ok,Sem.run_pure,goInt,e2]
  ·cases hk
 ·rename_i e;obtain ⟨el,hu,_,hle⟩:=tT gj
  have run:∀ xa n cap,a.eval y=.slice xa n cap->∀ w',s9 o w w'->(execOp a.eval o).run P w'=.ok (.value (.int .i64 (n:Int))) w':=λxa n cap hy w' _=>by
   rw[zN ho];simp[Builtin.len_,hy,run_underlying hu,goInt]
  split at hk
  ·rename_i e' v hv;rw[hv] at hs;obtain ⟨cs,h1,xa,cap,h2,_⟩:=hs;subst h2;exact fx (run xa _ cap h1) (fin _ hk)
  ·rename_i hv;rw[hv] at hs;exact fx (run none 0 0 hs) (fin _ hk)
  ·rename_i r p snap hv;rw[hv] at hs;split at hk
   ·rename_i ou;obtain ⟨hr,t',m',H',v',br,cr,F',h1,h2,h3,h4,h5,h6⟩:=lK h hk;obtain ⟨pl,g1,g2,g3⟩:=hs.2 ou;rw[h3] at g1;injection g1 with g1;subst g1;simp only at g2;split at h1
    ·cases h1
    ·rename_i hH;have hH:hole H'=false:=gR.2 hH;split at h1
     ·rename_i e' KP;obtain ⟨xa,cap,q1,q2,q3⟩:=zM (t:=.unit) h4 hH;subst q1;exact fx (run xa _ cap g2) (fin _ h1)
     ·cases h1
   ·cases hk
  ·rename_i r p snap lo hi hv;rw[hv] at hs;split at hk
   ·rename_i ou;obtain ⟨pl,e',xa,len,cap,vh,cap',g1,g2,g3,g4,g5,g6,g7,KM,g8,g9,g10⟩:=hs.2 ou;exact fx (run vh _ cap' g6) (fin _ hk)
   ·cases hk
  ·cases hk
 ·cases hk
theorem RD {len cap:Nat} {lo hi:Option Operand} {K:Nat->Nat->Option R} (ke:len<=cap) (vv:∀ y,lo=some y->cv P A σ a w (a.eval y) (dq σ y) (λ_ _=>0)) (Om:∀ y,hi=some y->cv P A σ a w (a.eval y) (dq σ y) (λ_ _=>0))
  (hk:tQ len (lo.map (dq σ)) (hi.map (dq σ)) K=some x):∃ l h,l<=h/\h<=len/\K l h=some x/\(∀ w',(Instr.sliceBounds true len cap (lo.map a.eval) (hi.map a.eval) none).run P w'=.ok (l,h,cap) w') /\
   (len=cap->∀ w',(Instr.sliceBounds false len cap (lo.map a.eval) (hi.map a.eval) none).run P w'=.ok (l,h,cap) w'):=by
 have kP:∀ (k:IntKind) (i:Int) (y:Nat) code,0<=i->i<=(y:Int)->∀ w',(Instr.sliceBound (.int k i) y code).run P w'=.ok i.toNat w':=λk i y code h0 h1 w'=>run_sliceBound w' k i y code h0 h1
 have two:∀ (RF lg:Option Value) (l h:Nat),(RF=none/\l=0\/∃ k n,RF=some (.int k n)/\0<=n/\n<=(h:Int)/\l=n.toNat)->(lg=none/\h=len\/∃ k n,lg=some (.int k n)/\0<=n/\n<=(len:Int)/\h=n.toNat) ->
   (∀ w',(Instr.sliceBounds true len cap RF lg none).run P w'=.ok (l,h,cap) w')/\(len=cap->∀ w',(Instr.sliceBounds false len cap RF lg none).run P w'=.ok (l,h,cap) w'):=λRF lg l h h1 h2=>by
  rcases h2 with ⟨rfl,rfl⟩ | ⟨k2,n2,rfl,b1,b2,rfl⟩
  ·rcases h1 with ⟨rfl,rfl⟩ | ⟨k1,n1,rfl,a1,a2,rfl⟩
   ·exact ⟨by simp[Instr.sliceBounds],λ_=>by simp[Instr.sliceBounds]⟩
   ·exact ⟨by simp[Instr.sliceBounds,kP k1 n1 _ .sliceB a1 a2],λ_=>by simp[Instr.sliceBounds,kP k1 n1 _ .sliceB a1 a2]⟩
  ·have c1:=kP k2 n2 cap .sliceAcap b1 (by omega);have c2:=kP k2 n2 cap .sliceAlen b1 (by omega)
   rcases h1 with ⟨rfl,rfl⟩ | ⟨k1,n1,rfl,a1,a2,rfl⟩
   ·exact ⟨by simp[Instr.sliceBounds,c1],λe=>by subst e;simp[Instr.sliceBounds,c2]⟩
   ·have c3:=kP k1 n1 _ .sliceB a1 a2;exact ⟨by simp[Instr.sliceBounds,c1,c3],λe=>by subst e;simp[Instr.sliceBounds,c2,c3]⟩
 unfold tQ at hk
 cases lo with
 | none=>
  cases hi with
  | none=>
   have:=two none none 0 len (.inl ⟨rfl,rfl⟩) (.inl ⟨rfl,rfl⟩);exact ⟨0,len,aY _,aN _,hk,this.1,this.2⟩
  | some yh=>
   obtain ⟨kh,nh,hv,hk⟩:=sS (Om yh rfl) hk;split at hk
   ·rename_i hc;have:=two none (some (a.eval yh)) 0 nh.toNat (.inl ⟨rfl,rfl⟩) (.inr ⟨kh,nh,by rw[hv],hc.1,hc.2,rfl⟩);exact ⟨0,nh.toNat,aY _,by omega,hk,this.1,this.2⟩
   ·cases hk
 | some yl=>
  cases hi with
  | none=>
   obtain ⟨kl,nl,hv,hk⟩:=sS (vv yl rfl) hk;split at hk
   ·rename_i hc;have:=two (some (a.eval yl)) none nl.toNat len (.inr ⟨kl,nl,by rw[hv],hc.1,hc.2,rfl⟩) (.inl ⟨rfl,rfl⟩);exact ⟨nl.toNat,len,by omega,aN _,hk,this.1,this.2⟩
   ·cases hk
  | some yh=>
   obtain ⟨kl,nl,hv,hk⟩:=sS (vv yl rfl) hk;obtain ⟨kh,nh,GK,hk⟩:=sS (Om yh rfl) hk;split at hk
   ·rename_i hc;have:=two (some (a.eval yl)) (some (a.eval yh)) nl.toNat nh.toNat (.inr ⟨kl,nl,by rw[hv],hc.1,by omega,rfl⟩) (.inr ⟨kh,nh,by rw[GK],by omega,hc.2.2,rfl⟩);exact ⟨nl.toNat,nh.toNat,by omega,by omega,hk,this.1,this.2⟩
   ·cases hk
theorem JR (s:List UInt8) (l h:Nat) (hl:l<=h) (hh:h<=s.length):(⟨s.toArray⟩:ByteArray).extract l h=⟨((s.take h).drop l).toArray⟩:=by
 apply ByteArray.ext;rw[ByteArray.data_extract];apply eY;simp[jL];rw[eO]
theorem Pv (h:dt P C A σ a w F) (kq:∀ i T,E.TI i=some T->be P T (.inl i)=true) {t:Nat} {y:Operand} {lo hi:Option Operand} (ho:o.op=.slice t y lo hi none)
  (bc:dm P y=true/\(∀ z,lo=some z->dm P z=true)/\(∀ z,hi=some z->dm P z=true)) {K:St->Option R}
  (hk:Ko E σ t (dq σ y) (lo.map (dq σ)) (hi.map (dq σ)) o.dst K=some x):Tk P o a w (Nx P C K x):=by
 unfold Ko at hk;have C7:=fu hk;clear hk;obtain ⟨T,hT,hk⟩:=C7;have gj:=kq _ _ hT
 have VV:∀ z,dm P z=true->(∀ xs,dq σ z≠.rB xs)->cv P A σ a w (a.eval z) (dq σ z) (λ_ _=>0):=λz hz hn=>by
  rcases eu h hz with hs | ⟨xs,e⟩
  ·exact hs
  ·exact absurd e (hn xs)
 have bound:∀ (len cap:Nat) (K':Nat->Nat->Option R),len<=cap->tQ len (lo.map (dq σ)) (hi.map (dq σ)) K'=some x->∃ l h,l<=h/\h<=len/\K' l h=some x/\(∀ w',(Instr.sliceBounds true len cap (lo.map a.eval) (hi.map a.eval) none).run P w'=.ok (l,h,cap) w') /\
   (len=cap->∀ w',(Instr.sliceBounds false len cap (lo.map a.eval) (hi.map a.eval) none).run P w'=.ok (l,h,cap) w'):=λlen cap K' hc hb=>by
  refine RD hc (λz hz=>VV z (bc.2.1 z hz) λxs e=>?_) (λz hz=>VV z (bc.2.2 z hz) λxs e=>?_) hb
  ·subst hz;unfold tQ at hb;cases hi <;> simp only[cC,hY,e,vP] at hb <;> cases hb
  ·subst hz;unfold tQ at hb
   cases lo with
   | none=>simp only[cC,hY,e,vP] at hb;cases hb
   | some yl=>
    simp only[cC,e] at hb;unfold vP at hb;split at hb <;> cases hb
 have DG:∀ e xa len cap l h,T=.U e->a.eval y=.slice xa len cap->l<=cap->(∀ ad,xa=some ad->0 < cap->ad.spot=none)->(∀ w',(Instr.sliceBounds true len cap (lo.map a.eval) (hi.map a.eval) none).run P w'=.ok (l,h,cap) w') ->
   ∀ w',s9 o w w'->(execOp a.eval o).run P w'=.ok (.value (.slice (if cap=l then xa else xa.map λad=>⟨ad.block,ad.off+l*e.sz,none⟩) (h - l) (cap - l))) w':=λe xa len cap l h rg hy hlc n8 hb w' _=>by
  have hb:=hb w';subst rg;obtain ⟨el,hu,_,hle⟩:=tT gj;have ko:=run_sizeOf (P:=P) (w:=w') hle;unfold execOp;simp only[ho,hY,Instr.sliceAt,Instr.slice,Sem.run_bind,run_underlying hu,Result.andThen_ok,hy,hb,ko,Sem.run_pure];by_cases wb:cap=l
  ·simp[wb]
  ·congr 4
   cases xa with
   | none=>rfl
   | some ad=>
    obtain ⟨b,off,sp⟩:=ad;have:=n8 _ rfl (by omega);simp only at this;subst this;simp[pu]
 have addr:∀ (xa:Option Addr) (cap l h n:Nat) (e:Ty),l<=h->h<=n->n<=cap->(∀ ad,xa=some ad->0 < cap->ad.spot=none) ->
   (xa=none->(if cap=l then xa else xa.map λad=>⟨ad.block,ad.off+l*e.sz,none⟩)=none) /\
   (∀ ad,xa=some ad->∃ cr,(if cap=l then xa else xa.map λad=>⟨ad.block,ad.off+l*e.sz,none⟩)=some cr/\cr.spot=ad.spot/\cr.block=ad.block/\(l < h->cr.off=ad.off+l*e.sz)) /\
   (l=0->(if cap=l then xa else xa.map λad=>(⟨ad.block,ad.off+l*e.sz,none⟩:Addr))=xa):=λxa cap l h n e h1 h2 h3 n8=>by
  refine ⟨λe=>by subst e;split <;> rfl,λad e=>?_,λe0=>?_⟩
  ·subst e;split
   ·exact ⟨ad,rfl,rfl,rfl,λ_=>by omega⟩
   ·exact ⟨_,rfl,(n8 ad rfl (by omega)).symm,rfl,λ_=>rfl⟩
  ·subst e0;split
   ·rfl
   ·cases xa with
    | none=>rfl
    | some ad=>
     obtain ⟨b,off,sp⟩:=ad;have:=n8 _ rfl (by omega);simp only at this;subst this;simp
 have VW:∀ {e:Ty} {v:List e.den} {m:Md} {H:List Path} {xa n cap} {G:FP},ap P w A (.U e) m H v [.slice xa n cap] G->hole H=false->∀ ad,xa=some ad->0 < cap->ad.spot=none:=λ{e v m H xa n cap G} e_ hH ad x_ DH=>by
  simp only[ap,hH,aF,aL] at e_;split at e_
  ·obtain ⟨Ol,B7,q1,q2,q3,q4,q5⟩:=e_;simp only[cV,Value.slice.injEq,eE] at q1;exact (q5 ad (q1.1.symm.trans x_)).2.1
  ·obtain ⟨_,_,Ol,B7,q1,q2,q3,q4⟩:=e_;simp only[cV,Value.slice.injEq,eE] at q1;exact (q4 ad (q1.1.symm.trans x_)).1 (by omega)
 rcases eu h bc.1 with hs | ⟨xs,e⟩
 rotate_left
 ·rw[e] at hk;cases hk
 split at hk
 ·rename_i s hv;rw[hv] at hs;split at hk
  ·rename_i rg;have VX:=gj;rw[rg] at VX;obtain ⟨l,h',b1,b2,hk,b3,b4⟩:=bound s.length s.length _ (aN _) hk;obtain ⟨cs,h1,h2⟩:=hs;simp only[Ro] at h2;subst h2;have e1:a.eval y=.string ⟨List.toArray s⟩:=h1;have e2:(⟨List.toArray s⟩:ByteArray).size=s.length:=rfl;refine fx (v:=.string ⟨((s.take h').drop l).toArray⟩) (λw' _=>?_) (cj h hk ⟨[_],rfl,rfl⟩ (λ_ _ _ _ e=>by cases e));unfold execOp;simp only[ho,hY,Instr.sliceAt,Instr.slice,Sem.run_bind,run_underlying (m7 VX),Result.andThen_ok,e1,eP,aF,aL,e2,b4 rfl w',Sem.run_pure,JR s l h' b1 b2]
  ·cases hk
 ·rename_i e v hv;rw[hv] at hs;split at hk
  ·rename_i rg;obtain ⟨cs,h1,h2⟩:=hs;obtain ⟨xa,cap,q1,q2,q3,q4⟩:=id h2;subst q1;rw[db _ _ rfl] at h1;obtain ⟨l,h',b1,b2,hk,b3,_⟩:=bound (List.length v) cap _ q2 hk;obtain ⟨r1,r2,r3⟩:=addr xa cap l h' _ e b1 b2 q2 (λad e=>(q4 ad e).1);exact fx (DG e xa _ cap l h' rg h1 (by omega) (λad e=>(q4 ad e).1) b3) (cj h hk ⟨_,(db (.U e) _ rfl).symm,Ro.piece h2 b1 b2 (by omega) r1 r2⟩ (λ_ _ _ _ e=>by cases e))
  ·cases hk
 ·rename_i r p snap hv;rw[hv] at hs;split at hk
  ·rename_i ou;obtain ⟨hr,t',m',H',v',br,cr,F',h1,h2,h3,h4,h5,h6⟩:=lK h hk;obtain ⟨pl,g1,g2,g3⟩:=hs.2 ou;rw[h3] at g1;injection g1 with g1;subst g1;simp only at g2 g3;split at h1
   ·cases h1
   ·rename_i hH;have hH:hole H'=false:=gR.2 hH;split at h1
    ·rename_i rg;split at h1
     ·rename_i e KP;obtain ⟨xa,cap,q1,q2,q3⟩:=zM (t:=.unit) h4 hH;subst q1;rw[db _ _ rfl] at g2;have n8:=VW h4 hH;split at h1
      ·obtain ⟨l,h',b1,b2,h1,b3,_⟩:=bound (List.length KP) cap _ q2 h1;obtain ⟨r1,r2,r3⟩:=addr xa cap l h' _ e b1 b2 q2 n8;refine fx (DG e xa _ cap l h' rg.symm g2 (by omega) n8 b3) (cj h h1 ⟨hs.1,λ_=>⟨_,e,xa,_,cap,_,cap - l,h3,rfl,rfl,b1,b2,rfl,by omega,r3,r1,r2,?_⟩⟩ (λ_ _ _ _ e=>by cases e));exact g3.imp (·.2) id
      ·rename_i fa;obtain ⟨l,h',b1,b2,h1,b3,_⟩:=bound (List.length KP) cap _ q2 h1;obtain ⟨r1,r2,r3⟩:=addr xa cap l h' _ e b1 b2 q2 n8;simp only[ap,hH,aF,aL,fa] at h4;exact fx (DG e xa _ cap l h' rg.symm g2 (by omega) n8 b3) (cj h h1 ⟨_,(db (.U e) _ rfl).symm,Ro.piece h4.2.2 b1 b2 (by omega) r1 r2⟩ (λ_ _ _ _ e=>by cases e))
     ·cases h1
    ·cases h1
  ·cases hk
 ·rename_i r p snap l0 h0 hv;rw[hv] at hs;split at hk
  ·rename_i ou;obtain ⟨hr,t',m',H',v',br,cr,F',h1,h2,h3,h4,h5,h6⟩:=lK h hk;obtain ⟨pl,e,xa,n,cap,vh,cap',g1,g2,g3,g4,g5,g6,g7,KM,g8,g9,g10⟩:=hs.2 ou;have g1':=g1;rw[h3] at g1;injection g1 with g1;subst g1;simp only at g2 g3;subst g2;subst g3;split at h1
   ·cases h1
   ·rename_i hH;have hH:hole H'=false:=gR.2 hH;split at h1
    ·rename_i rg;obtain ⟨Ol,B7,q1,q2,q3⟩:=zM (t:=.unit) h4 hH;simp only[cV,Value.slice.injEq,eE] at q1;obtain ⟨rfl,rfl,rfl⟩:=q1;have n8:=VW h4 hH
     have Yg:∀ ad,vh=some ad->0 < cap'->ad.spot=none:=λad e' DH=>by
      cases x_:xa with
      | none=>rw[g8 x_] at e';cases e'
      | some fh=>
       obtain ⟨Av,e1,e2,_⟩:=g9 fh x_;rw[e'] at e1;injection e1 with e1;subst e1;exact e2.trans (n8 fh x_ (by omega))
     obtain ⟨l,h',b1,b2,h1,b3,_⟩:=bound (h0 - l0) cap' _ (by omega) h1;obtain ⟨r1,r2,r3⟩:=addr vh cap' l h' _ e b1 b2 (by omega) Yg;refine fx (DG e vh _ cap' l h' rg.symm g6 (by omega) Yg b3) (cj h h1 ⟨hs.1,λ_=>⟨⟨.U e,H',[.slice xa (List.length v') cap],cr⟩,e,xa,List.length v',cap,(if cap'=l then vh else vh.map λad=>⟨ad.block,ad.off+l*e.sz,none⟩),cap' - l,h3,rfl,rfl,by omega,by omega,?_,by omega,λe0=>?_,λe'=>?_,λad e'=>?_,g10⟩⟩ (λ_ _ _ _ e=>by cases e))
     ·rw[show l0+h' - (l0+l)=h' - l by omega]
     ·rw[r3 (by omega),KM (by omega)]
     ·exact r1 (g8 e')
     ·obtain ⟨Av,e1,e2,e3,e4⟩:=g9 ad e';obtain ⟨wI,f1,f2,f3,f4⟩:=r2 Av e1;exact ⟨wI,f1,f2.trans e2,f3.trans e3,λam=>by rw[f4 (by omega),e4 (by omega),cI,cE]⟩
    ·cases h1
  ·cases hk
 ·cases hk
end
end OT
namespace OT
open Go
theorem rF (k:IntKind) (n:Int):pG k (CY k n)=k.wrap n:=by
 cases k <;> first | rfl | skip
 show ((UInt8.ofNat (n % 2 ^ 8).toNat).toNat:Int)=_;rw[UInt8.toNat_ofNat'];simp[IntKind.wrap,IntKind.bits,IntKind.signed];omega
theorem Ik (k:IntKind) (n:Int) (h:k=.u8->0<=n/\n < 256):pG k (VD k n)=n:=by
 cases k <;> first | rfl | skip
 obtain ⟨h1,h2⟩:=h rfl;show ((UInt8.ofNat (n % 2 ^ 8).toNat).toNat:Int)=_;rw[UInt8.toNat_ofNat'];omega
theorem RG (v:Bs .u8):0<=pG .u8 v/\pG .u8 v < 256:=by
 have:UInt8.toNat v < 256:=jV v;show 0<=((UInt8.toNat v:Nat):Int)/\((UInt8.toNat v:Nat):Int) < 256;omega
section
variable {P:Program} {C:Ctx} {A:Cells} {X:FP} {σ:St} {a:Act} {w:World} {F:Nat->FP} {R:Type} {x:R} {Q:Exit->Act->World->Prop} {o:Oper} {E:Env}
theorem W4 {op:BinOp} {k k':IntKind} {na nb:Int} {K:(t:Ty)->t.den->Option R} (hk:Kq op k na nb K=some x) (DB:k=k'\/op=.shl\/op=.shr) (hu:k=.u8->0<=na/\na < 256) (RH:k'=.u8->0<=nb/\nb < 256) (T:TypeId) :
  ∃ t v tv,K t v=some x/\Ro P w A t v [tv]/\isAgg t=false/\∀ w:World,(binOp op T (.int k na) (.int k' nb)).run P w=.ok tv w:=by
 have same:op≠.shl->op≠.shr->k=k':=λh1 h2=>by rcases DB with h | h | h;exact h;exact absurd h h1;exact absurd h h2
 unfold Kq at hk;split at hk
 ·have:=same (by simp) (by simp);subst this;exact ⟨_,_,.int k (k.wrap (na+nb)),hk,by simp only[Ro,rF],rfl,λw=>by simp[Go.binOp,Op.intArith]⟩
 ·have:=same (by simp) (by simp);subst this;exact ⟨_,_,.int k (k.wrap (na - nb)),hk,by simp only[Ro,rF],rfl,λw=>by simp[Go.binOp,Op.intArith]⟩
 ·have:=same (by simp) (by simp);subst this;exact ⟨_,_,.int k (k.wrap (na*nb)),hk,by simp only[Ro,rF],rfl,λw=>by simp[Go.binOp,Op.intArith]⟩
 ·have:=same (by simp) (by simp);subst this;split at hk
  ·cases hk
  ·rename_i Yh;exact ⟨_,_,.int k (k.wrap (na.tdiv nb)),hk,by simp only[Ro,rF],rfl,λw=>by simp[Go.binOp,Op.intDiv,Yh]⟩
 ·have:=same (by simp) (by simp);subst this;split at hk
  ·cases hk
  ·rename_i Yh;refine ⟨_,_,.int k (na.tmod nb),hk,?_,rfl,λw=>by simp[Go.binOp,Op.intDiv,Yh]⟩
   simp only[Ro];rw[Ik k _ (λe=>?_)];have h1:=hu e;have h2:=RH e
   have:=Int.tmod_nonneg nb h1.1;have h3:na.tmod nb < nb:=Int.tmod_lt_of_pos na (by omega);omega
 ·have:=same (by simp) (by simp);subst this;exact ⟨_,_,.int k (k.wrap ((BitVec.ofInt k.bits na &&& BitVec.ofInt k.bits nb).toNat:Int)),hk,by simp only[Ro,rF],rfl,λw=>by unfold Go.binOp;simp only[ne_eq,eU,aL,Op.intBits,Sem.run_pure]⟩
 ·have:=same (by simp) (by simp);subst this;exact ⟨_,_,.int k (k.wrap ((BitVec.ofInt k.bits na ||| BitVec.ofInt k.bits nb).toNat:Int)),hk,by simp only[Ro,rF],rfl,λw=>by unfold Go.binOp;simp only[ne_eq,eU,aL,Op.intBits,Sem.run_pure]⟩
 ·have:=same (by simp) (by simp);subst this;exact ⟨_,_,.int k (k.wrap ((BitVec.ofInt k.bits na ^^^ BitVec.ofInt k.bits nb).toNat:Int)),hk,by simp only[Ro,rF],rfl,λw=>by unfold Go.binOp;simp only[ne_eq,eU,aL,Op.intBits,Sem.run_pure]⟩
 ·split at hk
  ·cases hk
  ·rename_i hn;exact ⟨_,_,.int k (k.wrap (na*2 ^ (min nb.toNat k.bits))),hk,by simp only[Ro,rF],rfl,λw=>by simp[Go.binOp,Op.shift,hn]⟩
 ·split at hk
  ·cases hk
  ·rename_i hn;refine ⟨_,_,.int k (na.fdiv (2 ^ (min nb.toNat k.bits))),hk,?_,rfl,λw=>by simp[Go.binOp,Op.shift,hn]⟩
   simp only[Ro];rw[Ik k _ (λe=>?_)];have h1:=hu e;have hp:(0:Int) < 2 ^ (min nb.toNat k.bits):=Int.pow_pos (by omega);rw[gV _ (by omega)];have h2:=Int.ediv_nonneg h1.1 (Int.le_of_lt hp);have h3:=Int.ediv_le_self (2 ^ (min nb.toNat k.bits)) h1.1;omega
 ·have:=same (by simp) (by simp);subst this;exact ⟨.bool,decide (na=nb),_,hk,rfl,rfl,λw=>by simp[Go.binOp,Op.intCmp];rfl⟩
 ·have:=same (by simp) (by simp);subst this;exact ⟨.bool,!decide (na=nb),_,hk,rfl,rfl,λw=>by simp[Go.binOp,Op.intCmp,bne];rfl⟩
 ·have:=same (by simp) (by simp);subst this;exact ⟨.bool,decide (na < nb),_,hk,rfl,rfl,λw=>by simp[Go.binOp,Op.intCmp]⟩
 ·have:=same (by simp) (by simp);subst this;exact ⟨.bool,decide (na<=nb),_,hk,rfl,rfl,λw=>by simp[Go.binOp,Op.intCmp]⟩
 ·have:=same (by simp) (by simp);subst this;exact ⟨.bool,decide (nb < na),_,hk,rfl,rfl,λw=>by simp[Go.binOp,Op.intCmp]⟩
 ·have:=same (by simp) (by simp);subst this;exact ⟨.bool,decide (nb<=na),_,hk,rfl,rfl,λw=>by simp[Go.binOp,Op.intCmp]⟩
 ·cases hk
theorem W5 {op:BinOp} {s t:List UInt8} {K:(t:Ty)->t.den->Option R} (hk:TK op s t K=some x) (T:TypeId) :
  ∃ ty v tv,K ty v=some x/\Ro P w A ty v [tv]/\isAgg ty=false/\∀ w:World,(binOp op T (.string ⟨s.toArray⟩) (.string ⟨t.toArray⟩)).run P w=.ok tv w:=by
 have h0:∀ w:World,(binOp op T (.string ⟨s.toArray⟩) (.string ⟨t.toArray⟩)).run P w=(Op.stringOp op ⟨s.toArray⟩ ⟨t.toArray⟩).run P w:=λw=>by cases op <;> rfl
 simp only[h0];unfold TK at hk;split at hk
 ·split at hk
  ·rename_i hc;refine ⟨.str,s++t,.string ⟨(s++t).toArray⟩,hk,rfl,rfl,λw=>?_⟩
   rw[run_string_add_sum w _ _ (by simp only[ByteArray.size,dQ];simp only[cc] at hc;omega),ByteArray.mk_append_mk]
  ·cases hk
 ·exact ⟨.bool,decide (s=t),_,hk,rfl,rfl,λw=>by simp[Op.stringOp];exact fE.2 (by simp)⟩
 ·exact ⟨.bool,!decide (s=t),_,hk,rfl,rfl,λw=>by simp[Op.stringOp];exact fE.2 (by simp)⟩
 ·cases hk
theorem zm {tv:Value} {s:List UInt8} {G:FP} (h:cv P A σ a w tv (.val .str s) G):tv=.string ⟨s.toArray⟩:=by
 obtain ⟨cs,h1,h2⟩:=h;simp only[Ro] at h2;subst h2;exact h1
theorem zn {tv:Value} {k:IntKind} {n:Bs k} {G:FP} (h:cv P A σ a w tv (.val (.int k) n) G):tv=.int k (pG k n):=by
 obtain ⟨cs,h1,h2⟩:=h;simp only[Ro] at h2;subst h2;exact h1
theorem KR {tv:Value} {b:Bool} {G:FP} (h:cv P A σ a w tv (.val .bool b) G):tv=.bool b:=by
 obtain ⟨cs,h1,h2⟩:=h;simp only[Ro] at h2;subst h2;exact h1
theorem RI (h:dt P C A σ a w F) {op:UnOp} {t:Nat} {y:Operand} (ho:o.op=.unOp op t y) (bc:dm P y=true) {K:St->Option R}
  (hk:(match op,dq σ y with
  | .not,.val .bool b=>K (σ.b9 o.dst (.val .bool (!b)))
  | .neg,.val (.int k) n=>K (σ.b9 o.dst (.val (.int k) (CY k (0 - pG k n))))
  | _,_=>none)=some x):Tk P o a w (Nx P C K x):=by
 rcases eu h bc with hs | ⟨xs,e⟩
 rotate_left
 ·rw[e] at hk;split at hk <;> simp_all
 split at hk
 ·rename_i b ho hv;rw[hv] at hs;have e:=KR hs;exact fx (v:=.bool (!b)) (by simp[execOp,ho,e,Op.unary]) (cj h hk ⟨[_],rfl,rfl⟩ (λ_ _ _ _ e=>by cases e))
 ·rename_i k n ho hv;rw[hv] at hs;have e:=zn hs;exact fx (v:=.int k (k.wrap (0 - pG k n))) (by simp[execOp,ho,e,Op.unary,Op.intArith]) (cj h hk ⟨[_],rfl,by simp only[Ro,rF]⟩ (λ_ _ _ _ e=>by cases e))
 ·cases hk
end
end OT
namespace OT
open Go
section
variable {P:Program} {w:World} {A:Cells}
theorem VY:∀ (t:Ty),(∀ (i:TypeId) (d:Nat) (v1 v2:t.den) (oF cz:List Value),be P t (.inl i)=true->qM P t (.inl i)=true->dep t<=d->Ro P w A t v1 oF->Ro P w A t v2 cz->(Op.equalIn d i (ci t oF) (ci t cz)).run P w=.ok (t.eq v1 v2) w) /\
  (∀ (fs:List Field) (off d:Nat) (v1 v2:t.den) (xs ys:Array Value),be P t (.inr (fs,off))=true->qM P t (.inr fs)=true->dep t<=d+1->Ro P w A t v1 (xs.toList.drop off)->Ro P w A t v2 (ys.toList.drop off)->(Op.eqFields d xs ys fs).run P w=.ok (t.eq v1 v2) w):=by
 intro t
 induction t with
 | int k=>
  refine ⟨λi d v1 v2 oF cz hl he hd h1 h2=>?_,λfs off d v1 v2 xs ys hl=>by simp[be] at hl⟩
  simp only[Ro] at h1 h2;subst h1;subst h2
  cases d with
  | zero=>simp[dep] at hd
  | succ d=>
   rw[db _ _ rfl,db _ _ rfl,run_equalIn_int w d i k k _ _ (pw hl)];congr 1
   cases k with
   | u8=>exact fE.2 (by simp only[pG,Ty.eq,jQ];constructor;(intro h;exact jS.1 (by omega));(intro h;rw[h]))
   | _=>exact fE.2 (by simp[pG,Ty.eq])
 | bool=>
  refine ⟨λi d v1 v2 oF cz hl he hd h1 h2=>?_,λfs off d v1 v2 xs ys hl=>by simp[be] at hl⟩
  simp only[Ro] at h1 h2;subst h1;subst h2
  have hu:P.underlying i=some .bool:=by
   simp only[be,aE] at hl;have h2:=hl.2;split at h2
   ·assumption
   ·cases h2
  cases d with
  | zero=>simp[dep] at hd
  | succ d=>rw[db _ _ rfl,db _ _ rfl,run_equalIn_bool' w d i _ _ hu];rfl
 | str=>
  refine ⟨λi d v1 v2 oF cz hl he hd h1 h2=>?_,λfs off d v1 v2 xs ys hl=>by simp[be] at hl⟩
  simp only[Ro] at h1 h2;subst h1;subst h2
  cases d with
  | zero=>simp[dep] at hd
  | succ d=>
   rw[db _ _ rfl,db _ _ rfl,run_equalIn_string w d i _ _ (m7 hl),ByteArray.toList_mk,ByteArray.toList_mk];congr 1;exact fE.2 (by simp[Ty.eq])
 | unit=>
  refine ⟨λi d v1 v2 oF cz hl he hd h1 h2=>?_,λfs off d v1 v2 xs ys hl he hd h1 h2=>?_⟩
  ·simp only[Ro] at h1 h2;subst h1;subst h2;simp only[be,aE] at hl;have h3:=hl.2;split at h3
   ·rename_i fs hu;have hf:P.fieldsOf i=fs:=by simp[Program.fieldsOf,hu]
    cases d with
    | zero=>simp[dep] at hd
    | succ d=>
     have rh:fs.toList=[]:=bN.1 h3;simp only[qM,cM] at he;show (Op.equalIn (d+1) i (.agg #[]) (.agg #[])).run P w=_;rw[run_equalIn_struct w d i _ _ (by rw[hf];exact hu) he,hf,rh];rfl
   ·cases h3
  ·simp only[be,bN] at hl;subst hl;rfl
 | pair a b kO kD=>
  have second:∀ (fs:List Field) (off d:Nat) (v1 v2:(Ty.pair a b).den) (xs ys:Array Value),be P (.pair a b) (.inr (fs,off))=true->qM P (.pair a b) (.inr fs)=true->dep (.pair a b)<=d+1->Ro P w A (.pair a b) v1 (xs.toList.drop off)->Ro P w A (.pair a b) v2 (ys.toList.drop off)->(Op.eqFields d xs ys fs).run P w=.ok ((Ty.pair a b).eq v1 v2) w:=by
   intro fs off d v1 v2 xs ys hl he hd h1 h2
   cases fs with
   | nil=>simp[be] at hl
   | cons f r=>
    simp only[be,aE,eJ,dU] at hl;simp only[qM,aE,bne_iff_ne,ne_eq] at he;simp only[dep] at hd;obtain ⟨RJ,RK⟩:=h1;obtain ⟨h2a,h2b⟩:=h2;have p1:=uu (P:=P) (w:=w) hl.1.2 (cs:=xs) (off:=off) (Ro.length _ RJ);have p2:=uu (P:=P) (w:=w) hl.1.2 (cs:=ys) (off:=off) (Ro.length _ h2a);have e1:=kO.1 f.type d v1.1 v2.1 _ _ hl.1.2 he.1.2 (by omega) RJ h2a;rw[dA] at RK h2b;have e2:=kD.2 r (off+a.sz) d v1.2 v2.2 xs ys hl.2 he.2 (by omega) RK h2b;simp only[Op.eqFields,ne_eq,he.1.1,eV,aI,Sem.run_bind,hl.1.1.1,p1,p2,e1,Result.andThen_ok]
    cases hq:a.eq v1.1 v2.1 with
    | true=>simp[e2,Ty.eq,hq]
    | false=>simp[Ty.eq,hq]
  refine ⟨λi d v1 v2 oF cz hl he hd h1 h2=>?_,second⟩
  simp only[be,aE] at hl;simp only[qM,aE,cM] at he;have h3:=hl.2;have h4:=he.2;split at h3
  ·rename_i fs hu;rw[hu] at h4;simp only at h4;have hf:P.fieldsOf i=fs:=by simp[Program.fieldsOf,hu]
   split at h3
   ·rename_i f r DF;rw[DF] at h4;simp only at h4
    cases d with
    | zero =>have:1<=dep (.pair a b):=by simp only[dep];omega
             omega
    | succ d=>
     show (Op.equalIn (d+1) i (.agg oF.toArray) (.agg cz.toArray)).run P w=_;rw[run_equalIn_struct w d i _ _ (by rw[hf];exact hu) he.1,hf,DF];refine second (f::r) 0 d v1 v2 _ _ ?_ ?_ hd (by simpa using h1) (by simpa using h2)
     ·simp only[be,bE];exact h3
     ·simp only[qM];exact h4
   ·cases h3
  ·cases h3
 | arr n e ih=>
  refine ⟨λi d v1 v2 oF cz hl he hd h1 h2=>?_,λfs off d v1 v2 xs ys hl=>by simp[be] at hl⟩
  simp only[be,aE] at hl;have h3:=hl.2;simp only[qM] at he;split at h3
  ·rename_i n' el hu;simp only[aE,eJ,dU] at h3;obtain ⟨⟨rfl,_⟩,hle⟩:=h3;rw[hu] at he;simp only at he;obtain ⟨inf,i1,i2,_⟩:=ly (lH hle);have ko:P.cellsOf el=e.sz:=by simp[Program.cellsOf,i1,i2]
   obtain ⟨_,l1,_,r1⟩:=h1;obtain ⟨_,l2,_,r2⟩:=h2
   cases d with
   | zero=>simp[dep] at hd
   | succ d=>
    simp only[dep] at hd
    have key:∀ (m j:Nat),j+m=n->(Op.eqItems d el e.sz oF.toArray cz.toArray (List.range' j m)).run P w=.ok (((List.drop j v1).zip (List.drop j v2)).all λp=>e.eq p.1 p.2) w:=by
     intro m
     induction m with
     | zero=>
      intro j hj;rw[dR (by omega)];rfl
     | succ m RL=>
      intro j hj;have g1:=aB (l:=v1) (i:=j) (by omega);have g2:=aB (l:=v2) (i:=j) (by omega);have a1:=r1 j _ g1;have a2:=r2 j _ g2;have p1:=uu (P:=P) (w:=w) hle (cs:=oF.toArray) (off:=j*e.sz) (Ro.length _ a1);have p2:=uu (P:=P) (w:=w) hle (cs:=cz.toArray) (off:=j*e.sz) (Ro.length _ a2);have e1:=ih.1 el d _ _ _ _ hle he (by omega) a1 a2;rw[List.range'_succ,cZ (l:=v1) (i:=j) (by omega),cZ (l:=v2) (i:=j) (by omega)];simp only[Op.eqItems,Sem.run_bind,p1,p2,e1,Result.andThen_ok,iA,eH]
      cases hq:e.eq v1[j] v2[j] with
      | true=>simpa using RL (j+1) (by omega)
      | false=>simp
    show (Op.equalIn (d+1) i (.agg oF.toArray) (.agg cz.toArray)).run P w=_;rw[run_equalIn_array w d _ _ hu i1,ko,List.range_eq_range'];exact key n 0 (by omega)
  ·cases h3
 | _=>exact ⟨λi d v1 v2 oF cz hl he=>by simp[qM] at he,λfs off d v1 v2 xs ys hl he=>by simp[qM] at he⟩
end
section
variable {P:Program} {C:Ctx} {A:Cells} {X:FP} {σ:St} {a:Act} {w:World} {F:Nat->FP} {R:Type} {x:R} {Q:Exit->Act->World->Prop} {o:Oper} {E:Env}
def VZ (P:Program) (E:Env):Prop:=∀ i T,E.TI i=some T->T.n9=true->isAgg T=true->qM P T (.inl i)=true/\P.eqGuardType P.depth i=false/\dep T<=10000
theorem B8 {op:BinOp} {t:TypeId} {y z:Operand} {u v:Value} (h:¬ (∃ p q,u=.agg p/\v=.agg q)) (h2:u≠.nilIface):(eqGuard op t y z u v).run P w=.ok () w:=by
 cases op <;> first | rfl | skip
 all_goals
  unfold eqGuard
  cases u <;> cases v <;> first | rfl | (exact absurd rfl h2) | (exact absurd ⟨_,_,rfl,rfl⟩ h)
theorem Ro.n9 {w':World} {A':Cells}:∀ (t:Ty) {v:t.den} {cs:List Value},t.n9=true->Ro P w A t v cs->Ro P w' A' t v cs:=by
 intro t
 induction t with
 | pair a b kO kD=>
  intro v cs hq h;simp only[Ty.n9,aE] at hq;exact ⟨kO hq.1 h.1,kD hq.2 h.2⟩
 | arr n e ih=>intro v cs hq h;exact ⟨h.1,h.2.1,h.2.2.1,λi x hx=>ih hq (h.2.2.2 i x hx)⟩
 | U e ih=>intro v cs hq;simp[Ty.n9] at hq
 | ptr e ih=>intro v cs hq;simp[Ty.n9] at hq
 | fn=>intro v cs hq;simp[Ty.n9] at hq
 | map k v=>intro v cs hq;simp[Ty.n9] at hq
 | _=>intro v cs hq h;exact h
theorem Pw (h:dt P C A σ a w F) (kq:∀ i T,E.TI i=some T->be P T (.inl i)=true) (heq:VZ P E) {op:BinOp} {t t2:Nat} {y z:Operand} (ho:o.op=.binOp op t y z t2) (bc:dm P y=true/\dm P z=true) {K:St->Option R}
  (hk:Kr E t op (dq σ y) (dq σ z) (λt v=>K (σ.b9 o.dst (.val t v)))=some x):Tk P o a w (Nx P C K x):=by
 rcases eu h bc.1 with hy | ⟨xs,e⟩
 rotate_left
 ·rw[e] at hk;simp[Kr] at hk
 rcases eu h bc.2 with hz | ⟨xs,e⟩
 rotate_left
 ·rw[e] at hk;unfold Kr at hk;split at hk <;> simp_all
 have fin:∀ (ty:Ty) (v:ty.den) (tv:Value),K (σ.b9 o.dst (.val ty v))=some x->Ro P w A ty v [tv]->isAgg ty=false->(∀ w',s9 o w w'->(eqGuard op t y z (a.eval y) (a.eval z)).run P w'=.ok () w')->(∀ w',s9 o w w'->(binOp op t (a.eval y) (a.eval z)).run P w'=.ok tv w')->Tk P o a w (Nx P C K x):=λty v tv hk hr ha hg hb=>by
  refine fx (v:=tv) (λw' qN=>?_) (cj h hk ⟨[tv],(db ty tv ha).symm,hr⟩ (λ_ _ _ _ e=>by cases e));unfold execOp;simp only[ho,Sem.run_bind,hg w' qN,hb w' qN,Result.andThen_ok,Sem.run_pure]
 unfold Kr at hk;split at hk
 ·rename_i k n1 k' n2 GN GK;rw[GN] at hy;rw[GK] at hz;have e1:=zn hy;have e2:=zn hz;have hg:∀ w',s9 o w w'->(eqGuard op t y z (a.eval y) (a.eval z)).run P w'=.ok () w':=λw' _=>by rw[e1,e2];exact B8 (by rintro ⟨p,q,h,_⟩;cases h) (by intro h;cases h)
  have DB:(k=k'\/op=.shl\/op=.shr)/\Kq op k (pG k n1) (pG k' n2) (λt v=>K (σ.b9 o.dst (.val t v)))=some x:=by
   split at hk
   ·exact ⟨.inr (.inl rfl),hk⟩
   ·exact ⟨.inr (.inr rfl),hk⟩
   ·split at hk
    ·rename_i e;exact ⟨.inl e,hk⟩
    ·cases hk
  obtain ⟨ty,v,tv,q1,q2,q3,q4⟩:=W4 (P:=P) (A:=A) (w:=w) DB.2 DB.1 (λe=>by subst e;exact RG n1) (λe=>by subst e;exact RG n2) t;exact fin ty v tv q1 q2 q3 hg (λw' _=>by rw[e1,e2];exact q4 w')
 ·rename_i s1 s2 GN GK;rw[GN] at hy;rw[GK] at hz;have e1:=zm hy;have e2:=zm hz;have hg:∀ w',s9 o w w'->(eqGuard op t y z (a.eval y) (a.eval z)).run P w'=.ok () w':=λw' _=>by rw[e1,e2];exact B8 (by rintro ⟨p,q,h,_⟩;cases h) (by intro h;cases h)
  obtain ⟨ty,v,tv,q1,q2,q3,q4⟩:=W5 (P:=P) (A:=A) (w:=w) hk t;exact fin ty v tv q1 q2 q3 hg (λw' _=>by rw[e1,e2];exact q4 w')
 ·rename_i ty v1 ty' v2 Yi hns GN GK;rw[GN] at hy;rw[GK] at hz
  have main:∀ (e:ty=ty') (hq:ty.n9=true) (hT:E.TI t=some ty) (w':World),s9 o w w'->(eqGuard op t y z (a.eval y) (a.eval z)).run P w'=.ok () w'/\(∀ b,b=ty.eq v1 (e ▸ v2)->(op=.eql->(binOp op t (a.eval y) (a.eval z)).run P w'=.ok (.bool b) w')/\(op=.neq->(binOp op t (a.eval y) (a.eval z)).run P w'=.ok (.bool (!b)) w')):=λe hq hT w' qN=>by
   subst e;obtain ⟨oF,e1,r1⟩:=hy;obtain ⟨cz,e2,r2⟩:=hz;have r1:=Ro.n9 (w':=w') (A':=A) _ hq r1;have r2:=Ro.n9 (w':=w') (A':=A) _ hq r2;have gj:=kq _ _ hT
   cases V0:isAgg ty with
   | true=>
    obtain ⟨q1,q2,q3⟩:=heq _ _ hT hq V0;have TV:=(VY (P:=P) (w:=w') (A:=A) ty).1 t 10000 v1 v2 oF cz gj q1 q3 r1 r2;have m1:ci ty oF=.agg oF.toArray:=by simp[ci,V0]
    have m2:ci ty cz=.agg cz.toArray:=by simp[ci,V0]
    rw[m1,m2] at TV;rw[e1,e2,m1,m2];refine ⟨run_eqGuard_agg w' op t y z _ _ q2,λb hb=>⟨λh=>?_,λh=>?_⟩⟩
    ·subst h;subst hb;rw[run_eql_struct,TV];rfl
    ·subst h;subst hb;rw[run_neq_struct,TV];rfl
   | false=>
    cases ty with
    | int k=>exact (Yi k v1 k v2 rfl HEq.rfl rfl HEq.rfl).elim
    | str=>exact (hns v1 v2 rfl HEq.rfl rfl HEq.rfl).elim
    | bool=>
     simp only[Ro] at r1 r2;subst r1;subst r2;rw[db _ _ rfl] at e1 e2
     have hu:P.underlying t=some .bool:=by
      simp only[be,aE] at gj;have h2:=gj.2;split at h2
      ·assumption
      ·cases h2
     rw[e1,e2];refine ⟨B8 (by rintro ⟨p,q,h,_⟩;cases h) (by intro h;cases h),λb hb=>⟨λh=>?_,λh=>?_⟩⟩
     ·subst h;subst hb;have:=run_equalIn_bool' (P:=P) w' 9999 t v1 v2 hu;simp only[Go.binOp,Op.equal,Op.maxDepth,Sem.run_bind,this,Result.andThen_ok,Sem.run_pure];rfl
     ·subst h;subst hb;have:=run_equalIn_bool' (P:=P) w' 9999 t v1 v2 hu;simp only[Go.binOp,Op.equal,Op.maxDepth,Sem.run_bind,this,Result.andThen_ok,Sem.run_pure];rfl
    | _=>first | (simp[Ty.n9] at hq;done) | (simp[isAgg] at V0;done)
  split at hk
  ·split at hk
   ·rename_i hq;obtain ⟨T,hT,hk⟩:=fu hk;split at hk
    ·rename_i e;subst e;obtain ⟨e,hk⟩:=ct hk;have m:=main e.symm hq hT;subst e;exact fin .bool _ _ hk rfl rfl (λw' qN=>(m w' qN).1) (λw' qN=>((m w' qN).2 _ rfl).1 rfl)
    ·cases hk
   ·cases hk
  ·split at hk
   ·rename_i hq;obtain ⟨T,hT,hk⟩:=fu hk;split at hk
    ·rename_i e;subst e;obtain ⟨e,hk⟩:=ct hk;have m:=main e.symm hq hT;subst e;exact fin .bool _ _ hk rfl rfl (λw' qN=>(m w' qN).1) (λw' qN=>((m w' qN).2 _ rfl).2 rfl)
    ·cases hk
   ·cases hk
  ·cases hk
 ·rename_i e v GN GK;rw[GN] at hy;rw[GK] at hz;obtain ⟨T,hT,hk⟩:=fu hk;split at hk
  ·rename_i eT;subst eT
   obtain ⟨te,hu⟩:∃ te,P.underlying t=some (.slice te):=by
    have gj:=kq _ _ hT;simp only[be,aE] at gj;have h2:=gj.2;split at h2
    ·rename_i el pH;exact ⟨el,pH⟩
    ·cases h2
   obtain ⟨cs,h1,a0,cap,h2,h3,h4,h5⟩:=hy;subst h2;rw[db _ _ rfl] at h1;have KS:a.eval z=.slice none 0 0:=hz;have hg:∀ w',s9 o w w'->(eqGuard op t y z (a.eval y) (a.eval z)).run P w'=.ok () w':=λw' _=>by rw[h1,KS];exact B8 (by rintro ⟨p,q,h,_⟩;cases h) (by intro h;cases h)
   have key:∀ (b:Bool),BO v (K (σ.b9 o.dst (.val .bool b))) (K (σ.b9 o.dst (.val .bool !b)))=some x->K (σ.b9 o.dst (.val .bool (if a0.isNone then b else !b)))=some x:=λb hb=>by
    cases v with
    | nil=>
     simp only[BO,both] at hb;split at hb
     ·rename_i e;split
      ·exact hb
      ·rw[<-e];exact hb
     ·cases hb
    | cons y v=>
     have:a0.isNone=false:=by
      cases a0 with
      | none=>have:=h4 rfl;simp at this
      | some _=>rfl
     rw[this];exact hb
   unfold XS at hk;split at hk
   ·refine fin .bool _ (.bool a0.isNone) (key true hk) ?_ rfl hg λw' _=>?_
    ·cases a0 <;> rfl
    ·rw[h1,KS];have:=run_equal_slice_nil (P:=P) w' t te a0 (List.length v) cap hu;simp only[Go.binOp,Sem.run_bind,this,Result.andThen_ok,Sem.run_pure]
   ·refine fin .bool _ (.bool !a0.isNone) (key false hk) ?_ rfl hg λw' _=>?_
    ·cases a0 <;> rfl
    ·rw[h1,KS];exact run_neq_slice_nil (P:=P) w' t te a0 (List.length v) cap hu
   ·cases hk
  ·cases hk
 ·cases hk
end
end OT
namespace OT
open Go
section
variable {P:Program} {C:Ctx} {A:Cells} {X:FP} {σ:St} {a:Act} {w:World} {F:Nat->FP} {R:Type} {x:R} {Q:Exit->Act->World->Prop} {o:Oper} {E:Env}
theorem nG (w:World) (ob:Obj):Ext w (w.alloc ob) (λ_ _=>0):=by
 refine ⟨by simp,λb i hb _ u hu=>?_,λb n hn=>?_,λb i hb=>World.frozen?_alloc_old w ob _ (by simp;omega),rfl,rfl,rfl,λb hb _=>?_,aN _⟩
 ·rw[xr (w:=w) (by simp only[World.alloc,iY];rw[bB (by omega)])];exact hu
 ·obtain ⟨c,e,fr,h1,h2,h3⟩:=hn;refine ⟨c,e,fr,?_,h2,h3⟩
  have hb:=(bQ.1 h1).1;simp only[World.alloc,iY];rw[bB (by omega)];exact h1
 ·simp only[World.alloc,iY];rw[bB (by omega)]
theorem uw (w:World):Ext w w.drew (λ_ _=>0):=⟨aN _,λ_ _ _ _ _ h=>h,λ_ _ h=>h,λ_ _ _=>rfl,rfl,rfl,rfl,λ_ _ _=>rfl,Nat.le_succ _⟩
theorem wc (w:World) (c:Array Value) (e:TypeId) (fr:Nat×Nat) (u:Bool) (nZ:(u=true/\c.size<=fr.1)\/fr.2<=fr.1):ge (w.alloc (.cells c e fr)) w.heap.size (c.size,u):=
 ⟨c,e,fr,heap_alloc_new w _,rfl,λi hi=>by simp only at hi;omega,λhu=>by simp only at hu ⊢;subst hu;rcases nZ with ⟨h,_⟩ | h;cases h;omega⟩
theorem wd (w:World) (c:Array Value) (e:TypeId) (fr:Nat×Nat) {k:Nat} {L:List Value} (hL:∀ j u,L[j]?=some u->c[k+j]?=some u) (mN:∀ u ∈ L,u.oneCell'=true):Has (w.alloc (.cells c e fr)) w.heap.size k L:=by
 intro j u hu;have:=hL j u hu;refine Ey ?_ (mN u (cA hu));unfold World.cell?;simp only[heap_alloc_new,eP,aF,aL,this]
theorem Rel.alloc (h:Rel P C A X σ a w F) (c:Array Value) (e:TypeId) (fr:Nat×Nat):Rel P C A (λb i=>X b i+b_ w.heap.size 0 c.size b i) σ a (w.alloc (.cells c e fr)) F:=by
 refine h.grow (nG w _) (λ_ _ h=>h) (λ_ _ h=>.inl h) (λb i=>?_);by_cases hb:b=w.heap.size
 ·subst hb;right
  have hx:X w.heap.size i=0:=by
   rcases bF (X w.heap.size i) with h0 | h0
   ·exact h0
   ·have:=h.kP w.heap.size i (.inl (by omega));omega
  exact ⟨aN _,by simp,by rw[hx];simp only[b_];split <;> omega⟩
 ·left;simp[b_,hb]
theorem Rel.drew (h:Rel P C A X σ a w F):Rel P C A X σ a w.drew F:=h.grow (uw w) (λ_ _ h=>h) (λ_ _ h=>.inl h) (λ_ _=>.inl (aN _))
theorem ap.alloc (h:Rel P C A X σ a w F) {t:Ty} {m:Md} {H:List Path} {v:t.den} {cs:List Value} {G:FP} (hr:ap P w A t m H v cs G) (hG:∀ b i,1<=G b i->b < w.heap.size) {w':World} (hw:Ext w w' (λ_ _=>0)):ap P w' A t m H v cs G:=
 ap.mono (λ_ _ h=>h) (λb i ha u hu=>hw.cell b i (h.kP b i (.inr ha)) rfl u hu) hw.ub t hr (λ_ _=>aN _) (λb i hp u hu=>hw.cell b i (hG b i hp) rfl u hu)
theorem On (h:Rel P C A X σ a w F) {K:St->Option R} {d:Option Tmp} {t:Ty} {m:Md} {v:t.den} {cs:List Value} {Fv:FP} (e:TypeId) (hk:K (σ.b9 d (.box t m [] v))=some x)
  (hr:ap P w A t m [] v cs Fv) (hX:∀ b i,Fv b i<=X b i):∃ A' F',Rel P C A' (λ_ _=>0) (σ.b9 d (.box t m [] v)) (a.put d (.pointer (some ⟨w.heap.size,0,none⟩))) (w.alloc (.cells cs.toArray e)) F':=by
 have hl:=ap.length t hr;have h1:=h.alloc cs.toArray e (0,0);have fa:=wc w cs.toArray e (0,0) false (.inr (aN _));simp only[dQ,hl] at fa h1;have un:=ap.alloc h hr (λb i hp=>h.kP b i (.inl (by have:=hX b i;omega))) (nG w (.cells cs.toArray e))
 obtain ⟨F',hF⟩:=h1.b9 d (s:=.box t m [] v) (v:=.pointer (some ⟨w.heap.size,0,none⟩)) (Fd:=λb i=>b_ w.heap.size 0 t.sz b i+Fv b i) (X':=λ_ _=>0)
  ⟨w.heap.size,0,cs,Fv,rfl,hl,wd w cs.toArray e (0,0) (λj u hu=>by simpa using hu) (ap.one _ hr),λj hj=>by rw[bE];exact fa.frozen hj,λ_ _=>aN _,un⟩
  (λb i=>by have:=hX b i;omega) (λt' m' H' v' e'=>by injection e' with e1;subst e1;exact ⟨_,rfl,fa⟩)
 exact ⟨A,F',hF⟩
theorem ux:∀ (t:Ty),t.ve=true->∃ L,zc t=some L:=by
 intro t
 induction t with
 | pair a b kO kD=>
  intro h;simp only[Ty.ve,aE] at h;obtain ⟨x,hx⟩:=kO h.1;obtain ⟨y,hy⟩:=kD h.2;exact ⟨x++y,by simp[zc,hx,hy]⟩
 | arr n e ih=>
  intro h;obtain ⟨x,hx⟩:=ih h;exact ⟨(List.replicate n x).flatten,by simp only[zc,hx]⟩
 | ptr e ih=>intro h;cases h
 | fn=>intro h;cases h
 | map k v=>intro h;cases h
 | _=>intro h;exact ⟨_,rfl⟩
theorem RM (h:dt P C A σ a w F) (kq:∀ i T,E.TI i=some T->be P T (.inl i)=true) {t:Nat} (ho:o.op=.alloc t) {K:St->Option R}
  (hk:(pV E t λT=>if T.ve then K (σ.b9 o.dst (.box T (an T) [] T.zero)) else none)=some x):o.wp P a w (λa' w'=>Nx P C K x a' w'/\Ext w w' (λ_ _=>0)) Q:=by
 obtain ⟨T,hT,hk⟩:=fu hk;split at hk
 ·rename_i EW;have gj:=kq _ _ hT;obtain ⟨L,hL⟩:=ux T EW;obtain ⟨z,wJ,zO⟩:=yz (P:=P) (w:=w) gj hL;obtain ⟨r1,r2,r3⟩:=Ax (P:=P) (w:=w) (A:=A) T hL gj;refine ot (v:=.pointer (some ⟨w.heap.size,0,none⟩)) (w':=w.alloc (.cells L.toArray t)) ?_ ?_
  ·have:z.cells=L.toArray:=by apply eY;simpa using zO
   unfold execOp;simp[ho,Instr.alloc,wJ,newVar,newRow,this]
  ·obtain ⟨A',F',hF⟩:=On h t hk r1 (λ_ _=>aN _);exact ⟨⟨_,hk,A',F',hF⟩,nG w _⟩
 ·cases hk
end
end OT
namespace OT
open Go
section
variable {P:Program} {C:Ctx} {A:Cells} {X:FP} {σ:St} {a:Act} {w:World} {F:Nat->FP} {R:Type} {x:R} {Q:Exit->Act->World->Prop} {o:Oper} {E:Env}
theorem ED (h:Rel P C A X σ a w F) {K:St->Option R} {d:Option Tmp} {e:Ty} {m:Md} {v:List e.den} {c:Array Value} {cap:Nat} {el:TypeId} {fr:Nat×Nat} {Fi:Nat->FP} (nZ:(xt e=true/\c.size<=fr.1)\/fr.2<=fr.1)
  (hk:K (σ.b9 d (.own (.U e) (.U true m) [] v))=some x) (hc:c.size=cap*e.sz) (ke:cap<=maxLen) (hv:List.length v<=cap) (hX:∀ b i,a_ (List.length v) Fi b i<=X b i)
  (pH:∀ (i:Nat) (y:e.den),v[i]?=some y->∃ L:List Value,L.length=e.sz/\(∀ j u,L[j]?=some u->c[i*e.sz+j]?=some u)/\ap P w A e m [] y L (Fi i)) :
  Nx P C K x (a.put d (.slice (some ⟨w.heap.size,0,none⟩) (List.length v) cap)) (w.alloc (.cells c el fr)):=by
 have h1:=h.alloc c el fr;have fa:=wc w c el fr (xt e) nZ;rw[hc] at fa h1;refine pv h1 hk (Fd:=λb i=>b_ w.heap.size 0 (cap*e.sz) b i+a_ (List.length v) Fi b i) ⟨_,(db (.U e) _ rfl).symm,?_⟩ (λb i=>by have:=hX b i;omega) (λ_ _ _ _ e=>by cases e);simp only[ap,hole,bU,aF,aL,Md.own,aI,Md.e];refine ⟨_,cap,rfl,hv,ke,(λe=>by cases e),λad fk=>?_⟩
 injection fk with fk;subst fk;refine ⟨rfl,rfl,fa,Fi,λ_ _=>aN _,λi y hy=>?_⟩
 obtain ⟨L,l1,l2,l3⟩:=pH i y hy;have hi:=(aM.1 hy).1;refine ⟨L,l1,wd w c el fr l2 (ap.one _ l3),?_⟩
 simp only[eQ];exact ap.alloc h l3 (λb k hp=>h.kP b k (.inl (by have:=hX b k;have:=cy Fi hi b k;omega))) (nG w _)
theorem JS (h:dt P C A σ a w F) (kq:∀ i T,E.TI i=some T->be P T (.inl i)=true) {t:Nat} {y z:Operand} (ho:o.op=.makeSlice t y z) (bc:dm P y=true/\dm P z=true) {K:St->Option R}
  (hk:(pV E t λt=>match t with
  | .U e=>vP (dq σ y) λn=>vP (dq σ z) λc=>
   if e.ve then (if 0<=n/\n<=c/\c<=(cc:Int) then K (σ.b9 o.dst (.own (.U e) (an (.U e)) [] (List.replicate n.toNat e.zero))) else none) else none
  | _=>none)=some x):o.wp P a w (λa' w'=>Nx P C K x a' w'/\Ext w w' (λ_ _=>0)) Q:=by
 obtain ⟨T,hT,hk⟩:=fu hk;have gj:=kq _ _ hT;split at hk
 ·rename_i e
  rcases eu h bc.1 with hy | ⟨xs,e'⟩
  rotate_left
  ·rw[e'] at hk;cases hk
  obtain ⟨k1,n,hn,hk⟩:=sS hy hk
  rcases eu h bc.2 with hz | ⟨xs,e'⟩
  rotate_left
  ·rw[e'] at hk;cases hk
  obtain ⟨k2,c,hc,hk⟩:=sS hz hk;split at hk
  ·rename_i EW;split at hk
   ·rename_i hb;obtain ⟨el,hu,ko,hle⟩:=tT gj;obtain ⟨inf,i1,i2,i3,i4⟩:=ly (lH hle);obtain ⟨L,hL⟩:=ux e EW;obtain ⟨zv,z1,z2⟩:=i4 L hL;obtain ⟨r1,r2,r3⟩:=Ax (P:=P) (w:=w) (A:=A) e hL hle
    have KU:(inf.bytes:Int)*c<=281474976710656:=by
     have h1:(inf.bytes:Int)<=512:=by omega
     have h2:(inf.bytes:Int)*c<=512*c:=Int.mul_le_mul_of_nonneg_right h1 (by omega);simp only[cc] at hb;omega
    have gc:=run_make (P:=P) w t el inf zv hu i1 z1 k1 k2 n c hb.1 hb.2.1 KU (by simp only[cc] at hb;omega);have hzs:zv.cells.size=e.sz:=by rw[<-iX,z2,r3]
    have hlen:List.length (List.replicate n.toNat e.zero)=n.toNat:=by simp
    refine ot (v:=.slice (some ⟨w.heap.size,0,none⟩) n.toNat c.toNat) (w':=w.alloc (.cells (madeCells zv.cells (c.toNat*inf.size)) el)) ?_ ?_
    ·unfold execOp;simp only[ho,hn,hc,Sem.run_bind,gc,Result.andThen_ok,Sem.run_pure]
    ·refine ⟨?_,nG w _⟩
     have hnx:=ED h (K:=K) (d:=o.dst) (v:=List.replicate n.toNat e.zero) (c:=madeCells zv.cells (c.toNat*inf.size)) (cap:=c.toNat) (el:=el) (fr:=(0,0)) (m:=an e) (Fi:=λ_ _ _=>0) (.inr (aN _)) hk
      (by rw[size_madeCells,i2]) (by simp only[cc] at hb;simp only[maxLen];omega) (by rw[hlen];omega) (λb i=>by rw[mK];exact aN _)
      (λi y hy=>by
       have hi:i < n.toNat:=by have:=(aM.1 hy).1;simpa using this
       have hy:y=e.zero:=by simp only[gB,hi,aI,aP] at hy;exact hy.symm
       subst hy;refine ⟨L,r3,λj u hu=>?_,r1⟩
       have hj:j < e.sz:=r3 ▸ (aM.1 hu).1
       have am:i*e.sz+j < c.toNat*e.sz:=by
        have:(i+1)*e.sz<=c.toNat*e.sz:=bD _ (by omega);rw[cI] at this;omega
       have TW:(i*e.sz+j) % e.sz=j:=by rw[fT,Nat.mul_add_mod];exact Nat.mod_eq_of_lt hj
       have hzu:zv.cells[j]?=some u:=by rw[<-dD,z2];exact hu
       obtain ⟨KV,aa8⟩:=bQ.1 hzu;unfold madeCells;rw[i2,Array.getElem?_map,Array.getElem?_range];simp only[am,aI,cC,hzs,TW]
       rw[gI _ j KV,aa8])
     rw[hlen] at hnx;exact hnx
   ·cases hk
  ·cases hk
 ·cases hk
theorem KW (h:dt P C A σ a w F) (kq:∀ i T,E.TI i=some T->be P T (.inl i)=true) {s t:Nat} {y:Operand} (ho:o.op=.convert s t y) (bc:dm P y=true) (I9:∀ T,E.TI t=some T->T.flat=true) {K:St->Option R}
  (hk:BP E σ s t (dq σ y) o.dst K=some x):Tk P o a w (Nx P C K x):=by
 unfold BP at hk;obtain ⟨S,hS,hk⟩:=fu hk;obtain ⟨T,hT,hk⟩:=fu hk;have zG:=kq _ _ hS;have zP:=kq _ _ hT
 rcases eu h bc with hs | ⟨xs,e⟩
 rotate_left
 ·rw[e] at hk;split at hk <;> first | (cases hk;done) | (split at hk <;> first | (cases hk;done) | (simp[rx] at hk;done))
 split at hk
 ·rename_i k;split at hk
  ·rename_i k' n hv;rw[hv] at hs;have e:=zn hs;split at hk
   ·rename_i V1;obtain ⟨dS,hd,_⟩:=yU zG;refine fx (v:=.int k (k.wrap (pG k' n))) (λw' _=>?_) (cj h hk ⟨[_],rfl,by simp only[Ro,rF]⟩ (λ_ _ _ _ e=>by cases e));unfold execOp;simp only[ho,e,Sem.run_bind]
    have:(convert s t (.int k' (pG k' n))).run P w'=.ok (.int k (k.wrap (pG k' n))) w':=by
     unfold convert;simp only[Sem.run_bind,run_underlying hd,run_underlying (pw zP),Result.andThen_ok];cases dS <;> rfl
    simp only[this,Result.andThen_ok,Sem.run_pure]
   ·cases hk
  ·cases hk
 ·split at hk
  ·split at hk
   ·rename_i b hv;rw[hv] at hs;have e:=zm hs;refine fx (v:=.string ⟨List.toArray b⟩) (λw' _=>?_) (cj h hk ⟨[_],rfl,rfl⟩ (λ_ _ _ _ e=>by cases e));unfold execOp
    have:(convert s t (.string ⟨List.toArray b⟩)).run P w'=.ok (.string ⟨List.toArray b⟩) w':=by
     unfold convert;simp only[Sem.run_bind,run_underlying (m7 zG),run_underlying (m7 zP),Result.andThen_ok];rfl
    simp only[ho,e,Sem.run_bind,this,Result.andThen_ok,Sem.run_pure]
   ·cases hk
  ·obtain ⟨v,cs,hk,h1,h2⟩:=Of h hs hk;obtain ⟨el,hu,_,hle⟩:=tT zG;obtain ⟨xa,cap,q1,q2,q3,q4⟩:=h2;subst q1;rw[db _ _ rfl] at h1;have v8:List UInt8:=v
   have gc:∀ w',s9 o w w'->(convert s t (a.eval y)).run P w'=.ok (.string ⟨List.toArray v⟩) w':=λw' qN=>by
    have qN:=qN (by rw[ho];rfl);rw[h1]
    cases xa with
    | none=>
     have:v=[]:=bH (q3 rfl);subst this;exact run_convert_bytes_nil w' s el hu (pw hle) _ _ t (m7 zP)
    | some ad=>
     obtain ⟨g1,g2⟩:=q4 _ rfl;refine run_convert_bytes_back w' s t el _ cap v hu (pw hle) (m7 zP) λj hj=>?_;obtain ⟨L,l1,l2,l3⟩:=g2 j _ (aB hj);simp only[Ro] at l3;subst l3;have:=(l2 0 _ rfl).1;obtain ⟨b,off,sp⟩:=ad;have n8:=g1 (by omega);simp only at n8;subst n8;rw[pu];simp only[Ty.sz,iT,dG] at this;exact qU (qN.cell _ _ (wH this) rfl _ this) rfl
   refine fx (v:=.string ⟨List.toArray v⟩) (λw' qN=>?_) (cj h hk ⟨[_],rfl,rfl⟩ (λ_ _ _ _ e=>by cases e));unfold execOp;simp only[ho,Sem.run_bind,gc w' qN,Result.andThen_ok,Sem.run_pure]
  ·cases hk
 ·have:=I9 _ hT;simp[Ty.flat] at this
 ·cases hk
theorem GO (h:dt P C A σ a w F) (kq:∀ i T,E.TI i=some T->be P T (.inl i)=true) {s t:Nat} {y:Operand} (ho:o.op=.convert s t y) (bc:dm P y=true) (I9:∀ T,E.TI t=some T->T.flat=true) (DI:(match dq σ y with | .val (.int _) _=>true | .val .str _=>true | .val (.U (.int .u8)) _=>true | _=>false)=true) {K:St->Option R}
  (hk:BP E σ s t (dq σ y) o.dst K=some x) :
  ∃ v,(∀ w',(∀ b i,A b i->∀ u,ce w b i=some u->ce w' b i=some u)->(execOp a.eval o).run P w'=.ok (.value v) w')/\Nx P C K x (a.put o.dst v) w:=by
 unfold BP at hk;obtain ⟨S,hS,hk⟩:=fu hk;obtain ⟨T,hT,hk⟩:=fu hk;have zG:=kq _ _ hS;have zP:=kq _ _ hT
 rcases eu h bc with hs | ⟨xs,e⟩
 rotate_left
 ·rw[e] at hk;split at hk <;> first | (cases hk;done) | (split at hk <;> first | (cases hk;done) | (simp[rx] at hk;done))
 split at hk
 ·rename_i k;split at hk
  ·rename_i k' n hv;rw[hv] at hs;have e:=zn hs;split at hk
   ·rename_i V1;obtain ⟨dS,hd,_⟩:=yU zG;refine ⟨.int k (k.wrap (pG k' n)),(λw' _=>?_),cj h hk ⟨[_],rfl,by simp only[Ro,rF]⟩ (λ_ _ _ _ e=>by cases e)⟩
    unfold execOp;simp only[ho,e,Sem.run_bind]
    have:(convert s t (.int k' (pG k' n))).run P w'=.ok (.int k (k.wrap (pG k' n))) w':=by
     unfold convert;simp only[Sem.run_bind,run_underlying hd,run_underlying (pw zP),Result.andThen_ok];cases dS <;> rfl
    simp only[this,Result.andThen_ok,Sem.run_pure]
   ·cases hk
  ·cases hk
 ·split at hk
  ·split at hk
   ·rename_i b hv;rw[hv] at hs;have e:=zm hs;refine ⟨.string ⟨List.toArray b⟩,(λw' _=>?_),cj h hk ⟨[_],rfl,rfl⟩ (λ_ _ _ _ e=>by cases e)⟩
    unfold execOp
    have:(convert s t (.string ⟨List.toArray b⟩)).run P w'=.ok (.string ⟨List.toArray b⟩) w':=by
     unfold convert;simp only[Sem.run_bind,run_underlying (m7 zG),run_underlying (m7 zP),Result.andThen_ok];rfl
    simp only[ho,e,Sem.run_bind,this,Result.andThen_ok,Sem.run_pure]
   ·cases hk
  ·have KX:∃ v',dq σ y=.val (.U (.int .u8)) v':=by
    split at DI
    ·rename_i e;rw[e] at hk;simp[rx,jy] at hk
    ·rename_i e;rw[e] at hk;simp[rx,jy] at hk
    ·rename_i v' e;exact ⟨v',e⟩
    ·cases DI
   obtain ⟨v,hv⟩:=KX;rw[hv] at hs hk;simp only[rx] at hk;obtain ⟨_,hk⟩:=ct hk;obtain ⟨cs,h1,h2⟩:=hs;obtain ⟨el,hu,_,hle⟩:=tT zG;obtain ⟨xa,cap,q1,q2,q3,q4⟩:=h2;subst q1;rw[db _ _ rfl] at h1;have v8:List UInt8:=v
   have gc:∀ w',(∀ b i,A b i->∀ u,ce w b i=some u->ce w' b i=some u)->(convert s t (a.eval y)).run P w'=.ok (.string ⟨List.toArray v⟩) w':=λw' qN=>by
    rw[h1]
    cases xa with
    | none=>
     have:v=[]:=bH (q3 rfl);subst this;exact run_convert_bytes_nil w' s el hu (pw hle) _ _ t (m7 zP)
    | some ad=>
     obtain ⟨g1,g2⟩:=q4 _ rfl;refine run_convert_bytes_back w' s t el _ cap v hu (pw hle) (m7 zP) λj hj=>?_;obtain ⟨L,l1,l2,l3⟩:=g2 j _ (aB hj);simp only[Ro] at l3;subst l3;have tH:=l2 0 _ rfl;obtain ⟨b,off,sp⟩:=ad;have n8:=g1 (by omega);simp only at n8;subst n8;rw[pu];simp only[Ty.sz,iT,dG] at tH;exact qU (qN _ _ tH.2 _ tH.1) rfl
   refine ⟨.string ⟨List.toArray v⟩,(λw' qN=>?_),cj h hk ⟨[_],rfl,rfl⟩ (λ_ _ _ _ e=>by cases e)⟩
   unfold execOp;simp only[ho,Sem.run_bind,gc w' qN,Result.andThen_ok,Sem.run_pure]
  ·cases hk
 ·have:=I9 _ hT;simp[Ty.flat] at this
 ·cases hk
theorem M5 (h:dt P C A σ a w F) (kq:∀ i T,E.TI i=some T->be P T (.inl i)=true) {s t:Nat} {y:Operand} (ho:o.op=.convert s t y) (bc:dm P y=true) {K:St->Option R}
  (hk:BP E σ s t (dq σ y) o.dst K=some x):o.wp P a w (λa' w'=>Nx P C K x a' w'/\Ext w w' (λ_ _=>0)) Q:=by
 unfold BP at hk;obtain ⟨S,hS,hk⟩:=fu hk;obtain ⟨T,hT,hk⟩:=fu hk;have zG:=kq _ _ hS;have zP:=kq _ _ hT
 rcases eu h bc with hs | ⟨xs,e⟩
 rotate_left
 ·rw[e] at hk;split at hk <;> first | (cases hk;done) | (split at hk <;> first | (cases hk;done) | (simp[rx] at hk;done))
 split at hk
 ·rename_i k;split at hk
  ·rename_i k' n hv;rw[hv] at hs;have e:=zn hs;split at hk
   ·rename_i V1;obtain ⟨dS,hd,_⟩:=yU zG;refine ot (v:=.int k (k.wrap (pG k' n))) (w':=w) ?_ ⟨cj h hk ⟨[_],rfl,by simp only[Ro,rF]⟩ (λ_ _ _ _ e=>by cases e),Ext.refl _ _⟩;unfold execOp;simp only[ho,e,Sem.run_bind]
    have:(convert s t (.int k' (pG k' n))).run P w=.ok (.int k (k.wrap (pG k' n))) w:=by
     unfold convert;simp only[Sem.run_bind,run_underlying hd,run_underlying (pw zP),Result.andThen_ok];cases dS <;> rfl
    simp only[this,Result.andThen_ok,Sem.run_pure]
   ·cases hk
  ·cases hk
 ·split at hk
  ·split at hk
   ·rename_i b hv;rw[hv] at hs;have e:=zm hs;refine ot (v:=.string ⟨List.toArray b⟩) (w':=w) ?_ ⟨cj h hk ⟨[_],rfl,rfl⟩ (λ_ _ _ _ e=>by cases e),Ext.refl _ _⟩;unfold execOp
    have:(convert s t (.string ⟨List.toArray b⟩)).run P w=.ok (.string ⟨List.toArray b⟩) w:=by
     unfold convert;simp only[Sem.run_bind,run_underlying (m7 zG),run_underlying (m7 zP),Result.andThen_ok];rfl
    simp only[ho,e,Sem.run_bind,this,Result.andThen_ok,Sem.run_pure]
   ·cases hk
  ·obtain ⟨v,cs,hk,h1,h2⟩:=Of h hs hk;obtain ⟨el,hu,_,hle⟩:=tT zG;obtain ⟨xa,cap,q1,q2,q3,q4⟩:=h2;subst q1;rw[db _ _ rfl] at h1;have v8:List UInt8:=v
   have gc:(convert s t (a.eval y)).run P w=.ok (.string ⟨List.toArray v⟩) w:=by
    rw[h1]
    cases xa with
    | none=>
     have:v=[]:=bH (q3 rfl);subst this;exact run_convert_bytes_nil w s el hu (pw hle) _ _ t (m7 zP)
    | some ad=>
     obtain ⟨g1,g2⟩:=q4 _ rfl;refine run_convert_bytes_back w s t el _ cap v hu (pw hle) (m7 zP) λj hj=>?_;obtain ⟨L,l1,l2,l3⟩:=g2 j _ (aB hj);simp only[Ro] at l3;subst l3;have:=(l2 0 _ rfl).1;obtain ⟨b,off,sp⟩:=ad;have n8:=g1 (by omega);simp only at n8;subst n8;rw[pu];simp only[Ty.sz,iT,dG] at this;exact qU (this) rfl
   refine ot (v:=.string ⟨List.toArray v⟩) (w':=w) ?_ ⟨cj h hk ⟨[_],rfl,rfl⟩ (λ_ _ _ _ e=>by cases e),Ext.refl _ _⟩;unfold execOp;simp only[ho,Sem.run_bind,gc,Result.andThen_ok,Sem.run_pure]
  ·cases hk
 ·split at hk
  ·rename_i b hv;rw[hv] at hs;have e:=zm hs;split at hk
   ·rename_i V1;rw[V1] at zG;split at hk;rotate_left
    ·cases hk
    rename_i ke;obtain ⟨el,hu,_,hle⟩:=tT zP;have gc:=run_bytes_of_string (P:=P) w s t el ⟨List.toArray b⟩ (m7 zG) hu (pw hle);have hlen:(⟨List.toArray b⟩:ByteArray).size=List.length b:=rfl;have DJ:=grownCap_ge w (List.length b) 0 el;have KA:=grownCap_le_maxLen w (List.length b) 0 el (by simp only[cc] at ke;simp only[maxLen];omega);rw[hlen] at gc
    have ko:(bytesRow ⟨List.toArray b⟩ (grownCap w (List.length b) 0 el)).size=grownCap w (List.length b) 0 el:=by
     simp[bytesRow,ByteArray.size];omega
    refine ot ?_ ⟨ED (h.drew) (K:=K) (d:=o.dst) (e:=.int .u8) (v:=b) (m:=.leaf) (Fi:=λ_ _ _=>0) (cap:=grownCap w (List.length b) 0 el) (el:=el) (fr:=((bytesRow ⟨List.toArray b⟩ (grownCap w (List.length b) 0 el)).size,(bytesRow ⟨List.toArray b⟩ (grownCap w (List.length b) 0 el)).size+1)) (c:=bytesRow ⟨List.toArray b⟩ (grownCap w (List.length b) 0 el)) (.inl ⟨rfl,aN _⟩) hk
     (by rw[ko];simp[Ty.sz]) KA DJ (λb i=>by rw[mK];exact aN _) (λi y hy=>?_),(uw w).trans (nG w.drew _) (λ_ _ _ _=>rfl)⟩
    ·unfold execOp;simp only[ho,e,Sem.run_bind,gc,Result.andThen_ok,Sem.run_pure];rfl
    ·have hi:=(aM.1 hy).1;have hb:=bytesRow_at ⟨List.toArray b⟩ (grownCap w (List.length b) 0 el) i (by simpa using hi);refine ⟨[.int .u8 (UInt8.toNat y)],rfl,λj u hu=>?_,rfl⟩
     have hj:j=0:=by have:=(aM.1 hu).1;simpa using this
     subst hj;simp only[Ty.sz,iT,dG,hb];have:=(aM.1 hy).2;simp at hu ⊢;rw[this,hu]
   ·cases hk
  ·cases hk
 ·cases hk
end
end OT
namespace OT
open Go
section
variable {P:Program} {C:Ctx} {A:Cells} {X:FP} {σ:St} {a:Act} {w:World} {F:Nat->FP} {R:Type} {x:R} {Q:Exit->Act->World->Prop} {o:Oper} {E:Env}
theorem KY (h:dt P C A σ a w F) {i j:Nat} (ho:o.op=.extract (.tmp i) j) {K:St->Option R}
  (hk:(match σ.get i with
   | .rB xs=>match xs[j]? with
    | some x=>if x.t=.unit then none else K ((σ.put i (.rB (xs.set j ⟨.unit,.leaf,()⟩))).b9 o.dst (laid x.t x.m x.v))
    | none=>none
   | _=>none)=some x):Tk P o a w (Nx P C K x):=by
 split at hk
 ·rename_i xs hg;split at hk
  ·rename_i y hy;split at hk
   ·cases hk
   ·rename_i hnu
    have hi:i < σ.n:=by
     rcases bZ i σ.n with hi | hi
     ·exact hi
     ·rw[lQ (dN.2 hi)] at hg;cases hg
    have hs:=h.g_ i hi;rw[hg] at hs;obtain ⟨vs,Fi,h1,h2,h3⟩:=hs;obtain ⟨v,h4,h5⟩:=h3 j y hy
    rcases h5 with h5 | ⟨cs,h6,h7⟩
    ·exact absurd h5 hnu
    have hj:=(aM.1 hy).1
    have ut:=h.put hi (s:=.rB (xs.set j ⟨.unit,.leaf,()⟩)) (v:=tmp a i) (Fd:=a_ xs.length (fb Fi j λ_ _=>0)) (X':=Fi j)
     ⟨vs,fb Fi j λ_ _=>0,h1,λb k=>by rw[cX];exact aN _,λk y' Bx=>by
      rw[fL] at Bx;split at Bx
      ·rename_i e;subst e;injection Bx with Bx;subst Bx;exact ⟨v,h4,.inl rfl⟩
      ·rename_i fq;obtain ⟨v',g1,g2⟩:=h3 k y' Bx;refine ⟨v',g1,?_⟩
       have:fb Fi j (λ_ _=>0) k=Fi k:=by simp only[fb];rw[bB (λe=>fq e.symm)]
       rw[this];exact g2⟩
     (λb k=>by have:=sX Fi hj (λ_ _=>0) b k;have:=h2 b k;omega) (λt m H v e=>by cases e)
    rw[rf] at ut;refine fx (v:=v) ?_ ?_
    ·unfold execOp;have e:a.eval (.tmp i)=.tuple vs:=h1;simp[ho,e,Instr.extract,h4]
    ·rw[h6];exact zK ut hk h7 (λb i=>aN _)
  ·cases hk
 ·cases hk
theorem Rel.aa9 (h:Rel P C A X σ a w F) {d n:Nat} (hd:∀ R,c9 w (tmp a d) (σ.get d)=some R->ci R.t R.cs=C.args.getD n undef):Rel P C A X { σ with az:=(d,n,true)::σ.az } a w F:=by
 have nF:xu σ a w { σ with az:=(d,n,true)::σ.az } a w:=λr p snap hb=>⟨hb,λbc=>⟨bc,λhl pl ir=>⟨pl.H,pl.cs,ir,λ_=>rfl⟩⟩⟩
 refine ⟨h.size,h.defers,λi hi=>cv.mW nF (λ_ _ h=>h) (λ_ _ _ _ h=>h) (λ_ _ h=>h) (λ_ _ _=>⟨λ_ h=>h,rfl⟩) (h.g_ i hi),λd r p snap hm=>q_.mW nF (h.gh d r p snap hm),h.o5,h.pW,h.kP,h.mf,h.ext,h.own,h.a0,h.a1,λj k hm=>?_,λr t m H v hg hl=>h.whole r t m H v hg λk hm=>hl k (aW _ hm),λj k hm R hR=>?_,h.tab⟩
 ·rcases aX.1 hm with e | hm
  ·injection e with e1 e2;injection e2 with e2 e3;cases e3
  ·exact h.oA j k hm
 ·rcases aX.1 hm with e | hm
  ·injection e with e1 e2;injection e2 with e2 e3;subst e1;subst e2;exact hd R hR
  ·exact h.ny j k hm R hR
theorem Px {l:List (Nat×Nat×Bool)} {i n:Nat} (h:Gk l i=some n):(i,n,true) ∈ l:=by
 induction l with
 | nil=>cases h
 | cons y l ih=>
  obtain ⟨k,m,b⟩:=y;simp only[Gk] at h;split at h
  ·rename_i hc;simp only[aE,eJ] at hc;injection h with h;rw[<-hc.1,<- h,hc.2];exact bG
  ·exact aW _ (ih h)
theorem W6 (h:dt P C A σ a w F) {t:Nat} {y:Operand} (ho:o.op=.box t y) (bc:dm P y=true) {mv:Bool} {K:St->Option R}
  (hk:(pV E t λt=>mV σ (dq σ y) mv t λm v σ'=>K (Kt σ y o.dst (σ'.b9 o.dst (.box t m [] v))))=some x):o.wp P a w (λa' w'=>Nx P C K x a' w'/\Ext w w' (λ_ _=>0)) Q:=by
 obtain ⟨T,hT,hk⟩:=fu hk
 rcases eu h bc with hs | ⟨xs,e⟩
 rotate_left
 ·rw[e] at hk;simp[mV] at hk
 have GP:=hk;obtain ⟨A',σ',F',m,v,cs,Fv,k1,k2,k3,k4,kr,k5,k6⟩:=tI h hs hk;have hl:=ap.length _ k6;have mN:=ap.one _ k6;have VS:(ci T cs).cells=cs.toArray:=by apply eY;simpa using lh hl mN
 obtain ⟨A2,F2,hF⟩:=On k3 (K:=λs=>some s) (x:=σ'.b9 o.dst (.box T m [] v)) (d:=o.dst) t rfl k6 (λb i=>by omega);refine ot (v:=.pointer (some ⟨w.heap.size,0,none⟩)) (w':=w.alloc (.cells cs.toArray t)) ?_ ?_
 ·unfold execOp;simp[ho,Instr.box,newVar,newRow,k5,VS]
 ·refine ⟨⟨_,k1,A2,F2,?_⟩,nG w _⟩
  clear hk;unfold Kt;split
  ·rename_i i d hd;split
   ·rename_i t0 m0 H0 v0 hg;split
    ·rename_i n hn;rw[hd] at hF ⊢;refine Rel.aa9 hF λR hR=>?_;have lj:=h.ny i n (Px hn) ⟨t0,H0,(tmp a i).cells.toList,none⟩ (by rw[hg];rfl);have kq:tmp a i=ci T cs:=k5
     have ht0:t0=T:=by
      simp only[dq,hg] at GP;unfold mV at GP;simp only at GP;split at GP
      ·simp only[pp,wx,hg,n_] at GP;split at GP
       ·exact (ct GP).1
       ·cases GP
      ·cases GP
     subst ht0;simp only[kq,lh hl mN] at lj;simp only[St.b9,xv] at hR;split at hR
     ·rename_i hc
      have htd:tmp (a.put (some d) (.pointer (some ⟨w.heap.size,0,none⟩))) d=.pointer (some ⟨w.heap.size,0,none⟩):=by
       rw[oq,aV ⟨rfl,by rw[h.size,<- k4];exact hc.2⟩]
      rw[htd] at hR;simp only[c9,aP] at hR;subst hR;have hh:=wd w cs.toArray t (0,0) (k:=0) (L:=cs) (λj u hu=>by simpa using hu) mN;show ci _ (rd _ _ _ _)=_;rw[dx hh hl];exact lj
     ·rename_i hc
      have DJ:σ'.n<=d:=by
       rcases bZ d σ'.n with h1 | h1
       ·exact absurd (by simpa using h1) hc
       ·exact h1
      rw[lQ (dN.2 DJ)] at hR;cases hR
    ·exact hF
   ·exact hF
  ·exact hF
end
end OT
namespace OT
open Go
section
variable {P:Program} {C:Ctx} {A:Cells} {X:FP} {σ:St} {a:Act} {w:World} {F:Nat->FP} {R:Type} {x:R} {Q:Exit->Act->World->Prop} {o:Oper} {E:Env}
theorem Rel.giveUp (h:Rel P C A X σ a w F) {A1:Cells} {X1:FP} (hA:∀ b i,A b i->A1 b i) (DC:∀ b i,A1 b i->A b i\/(1<=X b i/\X1 b i=0)) (hX:∀ b i,X1 b i<=X b i):Rel P C A1 X1 σ a w F:=by
 have nF:xu σ a w σ a w:=λr p snap hb=>⟨hb,λbc=>⟨bc,λhl pl ir=>⟨pl.H,pl.cs,ir,λ_=>rfl⟩⟩⟩
 refine ⟨h.size,h.defers,λi hi=>cv.mW nF hA (λ_ _ _ _ h=>h) (λ_ _ h=>h) (λ_ _ _=>⟨λ_ h=>h,rfl⟩) (h.g_ i hi),h.gh,λb i=>by have:=h.o5 b i;have:=hX b i;omega,
  λb i hp ha=>?_,λb i hp=>?_,h.mf,h.ext,λb i hp=>h.own b i (by have:=hX b i;omega),λb i ha=>hA b i (h.a0 b i ha),λb i ha=>?_,h.oA,h.whole,h.ny,h.tab⟩
 ·rcases DC b i ha with ha | ha
  ·exact h.pW b i (by have:=hX b i;omega) ha
  ·have:=h.o5 b i;omega
 ·rcases hp with hp | ha
  ·exact h.kP b i (.inl (by have:=hX b i;omega))
  ·rcases DC b i ha with ha | ha
   ·exact h.kP b i (.inr ha)
   ·exact h.kP b i (.inl (by omega))
 ·rcases DC b i ha with ha | ha
  ·exact h.a1 b i ha
  ·exact .inr (h.own b i (by omega))
theorem RN {off:Nat} {l cs:List Value} (h:off+l.length<=cs.length) :
  ((l.toArray.zipIdx).foldl (λcs (x:Value×Nat)=>cs.setIfInBounds (off+x.2) x.1) cs.toArray)=(cs.take off++l++cs.drop (off+l.length)).toArray:=by
 obtain ⟨h1,h2⟩:=Great.foldl_set off l 0 cs.toArray;have e:(l.toArray.zipIdx).foldl (λcs (x:Value×Nat)=>cs.setIfInBounds (off+x.2) x.1) cs.toArray=(l.zipIdx 0).foldl (λcs (x:Value×Nat)=>cs.setIfInBounds (off+x.2) x.1) cs.toArray:=by simp
 rw[e];apply Array.ext_getElem?;intro k;rw[h2 k];simp only[dG,dQ,gQ];by_cases hk:k < off
 ·rw[bB (by omega),bK,bW (by simp;omega),eW hk]
 ·by_cases mw:k < off+l.length
  ·rw[aV (by omega),bK,bV (by simp;omega)];have:(cs.take off).length=off:=by simp;omega
   rw[this,bW (by omega)]
  ·rw[bB (by omega),bV (by simp;omega)];have:(cs.take off++l).length=off+l.length:=by simp;omega
   rw[this,bL];congr 1;omega
theorem DK {pl:Nat->Option (Nat×Nat)} {j off sz:Nat} (hp:pl j=some (off,sz)) {t:Ty} {l cs:List Value} (hl:l.length=sz) (h1:(ci t l).cells.toList=l) (h:off+sz<=cs.length) (rest:List (Nat×Value)) :
  Instr.fill pl cs.toArray ((j,ci t l)::rest)=Instr.fill pl (cs.take off++l++cs.drop (off+sz)).toArray rest:=by
 have hc:(ci t l).cells=l.toArray:=eY (by simpa using h1);rw[Instr.fill,hp];simp only[hc,dQ,hl,ne_eq,eU,aC,dY];rw[bB (by simp;omega)];have:=RN (off:=off) (l:=l) (cs:=cs) (by omega);rw[hl] at this;rw[<-this]
theorem RP:∀ (n:Nat) (t:Ty) {t':Ty} {m m':Md} {v:t.den} {y:t'.den} {cs ys:List Value} {G H:FP} {K:Md->t.den->Option R},ap P w A t m [] v cs G->ap P w A t' m' [] y ys H ->
  Dk n t m v t' m' y K=some x->∃ m2 v2,K m2 v2=some x/\ap P w A t m2 [] v2 (cs.take (jh n t)++ys++cs.drop (jh n t+t'.sz)) (λb i=>G b i+H b i)/\jh n t+t'.sz<=cs.length:=by
 intro n
 induction n with
 | zero=>
  intro t t' m m' v y cs ys G H K hr hy hk
  cases t with
  | pair a b=>
   simp only[Dk] at hk;obtain ⟨e,hk⟩:=ct hk;subst e;have hl:=ap.length _ hr;have Oo:=ap.length _ hy;obtain ⟨h0,F1,F2,hs,h1,h2⟩:=hr;refine ⟨_,_,hk,⟨rfl,H,F2,λb i=>by have:=hs b i;show H b i+F2 b i<=G b i+H b i;omega,?_,?_⟩,?_⟩
   ·simp only[jh,jH,bT,bE,eQ,Md.l];rw[fN Oo];exact hy
   ·simp only[jh,jH,bT,bE,eQ,Md.r];rw[fO Oo];exact h2
   ·simp only[jh,Ty.sz] at hl ⊢;omega
  | _=>cases hk
 | succ n ih=>
  intro t t' m m' v y cs ys G H K hr hy hk
  cases t with
  | pair a b=>
   simp only[Dk] at hk;have hl:=ap.length _ hr;obtain ⟨h0,F1,F2,hs,h1,h2⟩:=hr;obtain ⟨m2,v2,k1,k2,k3⟩:=ih b h2 hy hk;simp only[bI] at k3;simp only[Ty.sz] at hl;refine ⟨_,_,k1,⟨rfl,F1,λb i=>F2 b i+H b i,λb i=>by have:=hs b i;show F1 b i+(F2 b i+H b i)<=G b i+H b i;omega,?_,?_⟩,?_⟩
   ·simp only[jh,eQ,Md.l]
    have:(cs.take (a.sz+jh n b)++ys++cs.drop (a.sz+jh n b+t'.sz)).take a.sz=cs.take a.sz:=by
     rw[bK,dK (by simp;omega),fK,fF (by omega)]
    rw[this];exact h1
   ·simp only[jh,eQ,Md.r]
    have:(cs.take (a.sz+jh n b)++ys++cs.drop (a.sz+jh n b+t'.sz)).drop a.sz=(cs.drop a.sz).take (jh n b)++ys++(cs.drop a.sz).drop (jh n b+t'.sz):=by
     rw[bK,dL (by simp;omega),eO,dA,bK];rw[show a.sz+jh n b - a.sz=jh n b by omega,show a.sz+(jh n b+t'.sz)=a.sz+jh n b+t'.sz by omega]
    rw[this];exact k2
   ·simp only[jh];omega
  | _=>cases hk
theorem KZ {α β:Type} (g:α->Option β):∀ (l:List α) (ps:List β),l.mapM g=some ps->∀ (j:Nat) (f:α),l[j]?=some f->ps[j]?=g f
 | [],ps,h,j,f,hf=>by cases hf
 | y::l,ps,h,j,f,hf=>by
  simp only[List.mapM_cons,Option.bind_eq_bind,Option.pure_def] at h
  cases hy:g y with
  | none=>simp[hy] at h
  | some z=>
   cases hr:l.mapM g with
   | none=>simp[hy,hr] at h
   | some r=>
    simp only[hy,hr,aA,aP] at h;subst h
    cases j with
    | zero=>injection hf with hf;subst hf;exact hy.symm
    | succ j=>exact KZ g l r hr j f hf
theorem Py:∀ (t:Ty) {fs:List Field} {off:Nat},be P t (.inr (fs,off))=true->∃ ps,fs.mapM (λf=>(P.info? f.type).map λi=>(f.offset,i.size))=some ps:=by
 intro t
 induction t with
 | unit=>
  intro fs off h;simp only[be,bN] at h;subst h;exact ⟨[],rfl⟩
 | pair a b kO kD=>
  intro fs off h
  cases fs with
  | nil=>simp[be] at h
  | cons f r=>
   simp only[be,aE] at h;obtain ⟨ps,uy⟩:=kD h.2;obtain ⟨inf,hi,_⟩:=ly (lH h.1.2);exact ⟨(f.offset,inf.size)::ps,by simp[hi,uy]⟩
 | _=>intro fs off h;simp[be] at h
theorem JT {T:Ty} {i:TypeId} (hl:be P T (.inl i)=true) {j:Nat} {t':Ty} (hj:t_ j T=some t') :
  ∃ fs ps,P.underlying i=some (.struct fs)/\fs.toList.mapM (λf=>(P.info? f.type).map λi=>(f.offset,i.size))=some ps/\∀ j t',t_ j T=some t'->ps.toArray[j]?=some (jh j T,t'.sz):=by
 cases T with
 | pair a b=>
  have hl0:=hl;simp only[be,aE] at hl;have h2:=hl.2;split at h2
  ·rename_i fs hu;split at h2
   ·rename_i f r DF
    have h3:be P (.pair a b) (.inr (f::r,0))=true:=by
     simp only[be,bE];exact h2
    obtain ⟨ps,uy⟩:=Py _ h3;refine ⟨fs,ps,hu,by rw[DF];exact uy,λj t' hj=>?_⟩
    obtain ⟨f',q1,q2,q3,q4⟩:=Oi j (.pair a b) h3 hj;have:=KZ _ _ _ uy j f' q1;obtain ⟨inf,hi,hs,_⟩:=ly (lH q3);simp only[gQ,this,hi,cC,hs,q2,bE]
   ·cases h2
  ·cases h2
 | _=>cases j <;> cases hj
theorem RR {T:Ty} {fz:Nat->Bool} {pl:Nat->Option (Nat×Nat)} (ir:∀ j t',t_ j T=some t'->pl j=some (jh j T,t'.sz)) {K:Md->T.den->St->Option R} :
  ∀ (ps:List (Nat×Operand)) {n:Nat} {σ:St} {A:Cells} {X:FP} {F:Nat->FP} {m:Md} {v:T.den} {cs:List Value},ps.all (λp=>dm P p.2)=true->Rel P C A X σ a w F->ap P w A T m [] v cs X ->
   Dl E σ T fz ps n m v K=some x->∃ A' σ' F' m' v' br X',K m' v' σ'=some x/\Rel P C A' X' σ' a w F'/\ap P w A' T m' [] v' br X'/\Instr.fill pl cs.toArray (ps.map λp=>(p.1,a.eval p.2))=some br.toArray:=by
 intro ps
 induction ps with
 | nil=>intro n σ A X F m v cs bc h hr hk;exact ⟨A,σ,F,m,v,cs,X,hk,h,hr,rfl⟩
 | cons p ps ih=>
  intro n σ A X F m v cs bc h hr hk;obtain ⟨j,y⟩:=p;simp only[eH,aE] at bc;simp only[Dl] at hk;split at hk
  ·rename_i t' C5
   rcases eu h bc.1 with hs | ⟨xs,e⟩
   rotate_left
   ·rw[e] at hk;simp[mV] at hk
   obtain ⟨A1,ov,F1,m1,v1,oF,Fv,k1,k2,k3,k4,kr,k5,k6⟩:=tI h hs hk;have un:=ap.mono (P:=P) (A':=A1) k2 (λ_ _ _ _ h=>h) (λ_ _ h=>h) T hr (λ_ _=>aN _) (λ_ _ _ _ h=>h);obtain ⟨m2,v2,q1,q2,q3⟩:=RP j T un k6 k1;obtain ⟨A',σ',F',m',v',br,X',g1,g2,g3,g4⟩:=ih bc.2 k3 q2 q1;refine ⟨A',σ',F',m',v',br,X',g1,g2,g3,?_⟩
   rw[cS,k5,DK (ir j t' C5) (ap.length _ k6) (lh (ap.length _ k6) (ap.one _ k6)) q3];exact g4
  ·cases hk
theorem W7 {n j:Nat} {e:Ty} {v:List e.den} {y:e.den} {cs ys:List Value} (h:Ro P w A (.arr n e) v cs) (hy:Ro P w A e y ys) (hj:j < v.length) :
  Ro P w A (.arr n e) (v.set j y) (cs.take (j*e.sz)++ys++cs.drop (j*e.sz+e.sz))/\j*e.sz+e.sz<=cs.length:=by
 obtain ⟨h1,h2,h3,h4⟩:=h;have Oo:=Ro.length _ hy
 have hle:j*e.sz+e.sz<=cs.length:=by
  rw[h3,<- fB];exact bD _ (by omega)
 refine ⟨⟨h1,by simpa using h2,by simp only[aR,bP,bI,Oo];omega,λi z hz=>?_⟩,hle⟩
 rw[fL] at hz;split at hz
 ·rename_i e1;subst e1
  first
   | rw[aV hj] at hz
   | skip
  injection hz with hz;subst hz;rw[bK,fO (by simp;omega),fN Oo];exact hy
 ·rename_i fq;have h5:=h4 i z hz
  have:((cs.take (j*e.sz)++ys++cs.drop (j*e.sz+e.sz)).drop (i*e.sz)).take e.sz=(cs.drop (i*e.sz)).take e.sz:=by
   rcases bZ i j with oE | oE
   ·have h6:i*e.sz+e.sz<=j*e.sz:=by rw[<-fB];exact bD _ (by omega)
    rw[bK,dL (by simp;omega),dK (by simp;omega),eO,fK,fF (by omega)]
   ·have h6:j*e.sz+e.sz<=i*e.sz:=by rw[<-fB];exact bD _ (by omega)
    have h7:(cs.take (j*e.sz)++ys).length=j*e.sz+e.sz:=by simp[Oo];omega
    rw[gY,h7,dR (by omega),bT,dA];congr 2;omega
  rw[this];exact h5
theorem W8 {n0:Nat} {e:Ty} {fz:Nat->Bool} (hf:e.flat=true) {K:List e.den->St->Option R} :
  ∀ (ps:List (Nat×Operand)) {n:Nat} {σ:St} {A:Cells} {F:Nat->FP} {v:List e.den} {cs:List Value},ps.all (λp=>dm P p.2)=true->dt P C A σ a w F->Ro P w A (.arr n0 e) v cs ->
   Kp σ e fz ps n v K=some x->∃ A' σ' F' v' br,K v' σ'=some x/\dt P C A' σ' a w F'/\Ro P w A' (.arr n0 e) v' br/\Instr.fill (λi=>some (i*e.sz,e.sz)) cs.toArray (ps.map λp=>(p.1,a.eval p.2))=some br.toArray:=by
 intro ps
 induction ps with
 | nil=>intro n σ A F v cs bc h hr hk;exact ⟨A,σ,F,v,cs,hk,h,hr,rfl⟩
 | cons p ps ih=>
  intro n σ A F v cs bc h hr hk;obtain ⟨j,y⟩:=p;simp only[eH,aE] at bc;simp only[Kp] at hk
  rcases eu h bc.1 with hs | ⟨xs,e⟩
  rotate_left
  ·rw[e] at hk;simp[mV] at hk
  obtain ⟨A1,ov,F1,m1,v1,oF,Fv,k1,k2,k3,k4,kr,k5,k6⟩:=tI h hs hk;split at k1
  ·rename_i hj;have un:Ro P w A1 (.arr n0 e) v cs:=Ro.mono (λ_ _ _ _ h=>h) k2 _ hr;obtain ⟨q1,q2⟩:=W7 un (ap.flat _ hf k6) hj;obtain ⟨A',σ',F',v',br,g1,g2,g3,g4⟩:=ih bc.2 (k3.less (X':=λ_ _=>0) λ_ _=>aY _) q1 k1;refine ⟨A',σ',F',v',br,g1,g2,g3,?_⟩
   rw[cS,k5,DK (pl:=λi=>some (i*e.sz,e.sz)) rfl (ap.length _ k6) (lh (ap.length _ k6) (ap.one _ k6)) q2];exact g4
  ·cases k1
theorem Pz (h:dt P C A σ a w F) (kq:∀ i T,E.TI i=some T->be P T (.inl i)=true) {t:Nat} {ps:Array (Nat×Operand)} {fz:Nat->Bool} (ho:o.op=.build t ps) (bc:ps.toList.all (λp=>dm P p.2)=true) {K:St->Option R}
  (hk:(pV E t λt=>match t with
  | .arr n e=>if e.ve then Kp σ e fz ps.toList 0 (Ty.arr n e).zero λv σ=>K (σ.b9 o.dst (laid (.arr n e) (an (.arr n e)) v)) else none
  | .pair t1 t2=>if (Ty.pair t1 t2).ve then Dl E σ (.pair t1 t2) fz ps.toList 0 (an (.pair t1 t2)) (Ty.pair t1 t2).zero λm v σ=>K (σ.b9 o.dst (laid (.pair t1 t2) m v)) else none
  | _=>none)=some x):Tk P o a w (Nx P C K x):=by
 obtain ⟨T,hT,hk⟩:=fu hk;have gj:=kq _ _ hT
 have run:∀ (cells:Array Value),P.built t (ps.map λ(i,x)=>(i,a.eval x)).toList=some cells->∀ w',s9 o w w'->(execOp a.eval o).run P w'=.ok (.value (.agg cells)) w':=λcells hc w' _=>by
  simp[execOp,ho,run_build w' t _ cells hc]
 have uy:(ps.map λ(i,x)=>(i,a.eval x)).toList=ps.toList.map λp=>(p.1,a.eval p.2):=by simp
 rw[uy] at run;split at hk
 ·rename_i n e;split at hk
  ·rename_i hz
   have V2:e.flat=true:=by
    have hl:=gj;simp only[be,aE] at hl;exact hl.1.2
   obtain ⟨L,hL⟩:=ux (.arr n e) (by simpa [Ty.ve] using hz);obtain ⟨r1,r2,r3⟩:=Ax (P:=P) (w:=w) (A:=A) _ hL gj;obtain ⟨inf,i1,i2,i3,i4⟩:=ly (lH gj);obtain ⟨z,z1,z2⟩:=i4 L hL;obtain ⟨A',σ',F',v',br,g1,g2,g3,g4⟩:=W8 V2 ps.toList bc h r2 hk
   have hu:∃ el ie,P.underlying t=some (.array n el)/\P.info? el=some ie/\ie.size=e.sz:=by
    have hl:=gj;simp only[be,aE] at hl;have h2:=hl.2;split at h2
    ·rename_i n' el hu;simp only[aE,eJ] at h2;obtain ⟨ie,j1,j2,_⟩:=ly (lH h2.2);exact ⟨el,ie,by rw[hu,h2.1.1],j1,j2⟩
    ·cases h2
   obtain ⟨el,ie,u1,u2,u3⟩:=hu;have KS:z.cells=L.toArray:=eY (by simpa using z2);have e1:ci (.arr n e) br=.agg br.toArray:=rfl;refine fx (v:=ci (.arr n e) br) (run _ ?_) ?_
   ·unfold Program.built;simp only[i1,u1,z1,u2,u3,KS];exact g4
   ·exact zK g2 g1 (Ro.flat _ (λ_ _=>0) (by simpa [Ty.flat] using V2) g3) (λ_ _=>aN _)
  ·cases hk
 ·rename_i t1 t2;split at hk
  ·rename_i hz;obtain ⟨L,hL⟩:=ux (.pair t1 t2) hz;obtain ⟨r1,r2,r3⟩:=Ax (P:=P) (w:=w) (A:=A) _ hL gj;obtain ⟨inf,i1,i2,i3,i4⟩:=ly (lH gj);obtain ⟨z,z1,z2⟩:=i4 L hL;have KS:z.cells=L.toArray:=eY (by simpa using z2);obtain ⟨fs,pls,u1,u2,u3⟩:=JT gj (j:=0) rfl;obtain ⟨A',σ',F',m',v',br,X',g1,g2,g3,g4⟩:=RR (pl:=λj=>pls.toArray[j]?) u3 ps.toList bc h r1 hk;refine fx (v:=ci (.pair t1 t2) br) (run _ ?_) (zK g2 g1 g3 (λ_ _=>aN _));unfold Program.built;simp only[i1,u1,z1,u2,KS];exact g4
  ·cases hk
 ·cases hk
theorem W9 {e:Ty} {fz:Nat->Bool} (ko:1<=e.sz) {K:Md->List e.den->St->Option R} :
  ∀ (ps:List (Nat×Operand)) {n:Nat} {σ:St} {A:Cells} {X:FP} {F:Nat->FP} {m:Md} {v:List e.den} {L Z:List Value} {Fi:Nat->FP},ps.all (λp=>dm P p.2)=true->Rel P C A X σ a w F ->
   List.length v=n->L.length=n*e.sz->Z.length=ps.length*e.sz->(∀ b i,a_ n Fi b i<=X b i)->(∀ (i:Nat) (y:e.den),v[i]?=some y->ap P w A e m [] y ((L.drop (i*e.sz)).take e.sz) (Fi i)) ->
   Fu σ e fz ps n m v K=some x->∃ (A':Cells) (σ':St) (F':Nat->FP) (m':Md) (v':List e.den) (L':List Value) (X':FP) (GQ:Nat->FP),K m' v' σ'=some x/\Rel P C A' X' σ' a w F'/\List.length v'=n+ps.length/\L'.length=(n+ps.length)*e.sz/\(∀ b i,a_ (n+ps.length) GQ b i<=X' b i) /\
    (∀ (i:Nat) (y:e.den),v'[i]?=some y->ap P w A' e m' [] y ((L'.drop (i*e.sz)).take e.sz) (GQ i))/\Instr.fill (λi=>some (i*e.sz,e.sz)) (L++Z).toArray (ps.map λp=>(p.1,a.eval p.2))=some L'.toArray:=by
 intro ps
 induction ps with
 | nil=>
  intro n σ A X F m v L Z Fi bc h hv hL hZ hX hr hk;have:Z=[]:=by simpa using hZ
  subst this;exact ⟨A,σ,F,m,v,L,X,Fi,hk,h,hv,hL,hX,hr,by simp[Instr.fill]⟩
 | cons p ps ih=>
  intro n σ A X F m v L Z Fi bc h hv hL hZ hX hr hk;obtain ⟨j,y⟩:=p;simp only[eH,aE] at bc;simp only[Fu] at hk;split at hk
  ·rename_i hj;have hj:j=n:=by simpa using hj
   subst hj
   rcases eu h bc.1 with hs | ⟨xs,e⟩
   rotate_left
   ·rw[e] at hk;simp[mV] at hk
   obtain ⟨A1,ov,F1,m1,v1,oF,Fv,k1,k2,k3,k4,kr,k5,k6⟩:=tI h hs hk;have uz:=ap.length _ k6;have hZ1:Z.length=e.sz+ps.length*e.sz:=by rw[hZ,aO,cI];omega
   have hgo:∀ {A2:Cells} {X2:FP} {m2:Md} {K1:Nat->FP},Rel P C A2 X2 ov a w F1->(∀ b i,a_ (j+1) K1 b i<=X2 b i)->(∀ (i:Nat) (y:e.den),v[i]?=some y->ap P w A2 e m2 [] y ((L.drop (i*e.sz)).take e.sz) (K1 i)) ->
     ap P w A2 e m2 [] v1 oF (K1 j)->Fu ov e fz ps (j+1) m2 (v++[v1]) K=some x ->
     ∃ (A':Cells) (σ':St) (F':Nat->FP) (m':Md) (v':List e.den) (L':List Value) (X':FP) (GQ:Nat->FP),K m' v' σ'=some x/\Rel P C A' X' σ' a w F'/\List.length v'=j+(ps.length+1)/\L'.length=(j+(ps.length+1))*e.sz/\(∀ b i,a_ (j+(ps.length+1)) GQ b i<=X' b i) /\
      (∀ (i:Nat) (y:e.den),v'[i]?=some y->ap P w A' e m' [] y ((L'.drop (i*e.sz)).take e.sz) (GQ i))/\Instr.fill (λi=>some (i*e.sz,e.sz)) (L++Z).toArray ((j,a.eval y)::ps.map λp=>(p.1,a.eval p.2))=some L'.toArray:=by
    intro A2 X2 m2 K1 h2 hX2 vt EV mw
    obtain ⟨A',σ',F',m',v',L',X',GQ,g1,g2,g3,g4,g5,g6,g7⟩:=ih (L:=L++oF) (Z:=Z.drop e.sz) (Fi:=K1) bc.2 h2 (by simp[hv]) (by simp[hL,uz,cI]) (by simp[hZ1]) hX2 (λi z hz=>by
     by_cases hi:i=j
     ·subst hi;rw[bV (by omega)] at hz;simp only[hv,Nat.sub_self,eN,aP] at hz;subst hz;rw[fO hL,iH (by omega)];exact EV
     ·have am:i < j:=by
       have:=(aM.1 hz).1;simp only[aR,List.length_singleton,hv] at this;omega
      rw[bW (by omega)] at hz;have h6:i*e.sz+e.sz<=j*e.sz:=by rw[<-fB];exact bD _ (by omega)
      rw[dL (by omega),dK (by simp;omega)]
      exact vt i z hz) mw
    refine ⟨A',σ',F',m',v',L',X',GQ,g1,g2,by omega,by rw[g4];congr 1;omega,λb i=>by have:=g5 b i;rw[show j+(ps.length+1)=j+1+ps.length by omega];exact this,g6,?_⟩
    rw[k5,DK (pl:=λi=>some (i*e.sz,e.sz)) rfl uz (lh uz (ap.one _ k6)) (by simp[hL,hZ1])];rw[fN hL,show j*e.sz+e.sz=L.length+e.sz by omega,gY,dR (by omega),bT,iE];exact g7
   have un:∀ (i:Nat) (y:e.den),v[i]?=some y->ap P w A1 e m [] y ((L.drop (i*e.sz)).take e.sz) (Fi i):=λi y hy=>ap.mono (P:=P) (A':=A1) k2 (λ_ _ _ _ h=>h) (λ_ _ h=>h) e (hr i y hy) (λ_ _=>aN _) (λ_ _ _ _ h=>h);split at k1
   ·rename_i hm;subst hm;refine hgo (K1:=fb Fi j Fv) k3 (λb i=>?_) (λi y hy=>?_) (by simp only[fb,aI];exact k6) k1
    ·have h1:=sY j 1 (fb Fi j Fv) b i;have h2:a_ j (fb Fi j Fv) b i=a_ j Fi b i:=by rw[Ky Fi (aN j)]
     have h3:a_ 1 (λk=>fb Fi j Fv (j+k)) b i=Fv b i:=by simp[a_,fb]
     have:=hX b i;omega
    ·have:i≠j:=by have:=(aM.1 hy).1;omega
     simp only[fb];rw[bB this];exact un i y hy
   ·
    have sB:∃ A2:Cells,(∀ b i,A1 b i->A2 b i)/\Rel P C A2 (λ_ _=>0) ov a w F1/\Ro P w A2 e v1 oF/\∀ (i:Nat) (y:e.den),v[i]?=some y->Ro P w A2 e y ((L.drop (i*e.sz)).take e.sz):=by
     refine ⟨λb i=>A1 b i\/1<=X b i+Fv b i,λ_ _ h=>.inl h,k3.giveUp (λ_ _ h=>.inl h) (λb i ha=>ha.imp id λhp=>⟨hp,rfl⟩) (λ_ _=>aY _),ap.wA (λ_ _ h=>.inl h) e k6 (λb i hp=>.inr (by omega)),λi y hy=>?_⟩
     have hi:=(aM.1 hy).1;exact ap.wA (λ_ _ h=>.inl h) e (un i y hy) (λb k hp=>.inr (by have:=cy Fi (show i < j by omega) b k;have:=hX b k;omega))
    obtain ⟨A2,a1,a2,a3,a4⟩:=sB;exact hgo (K1:=λ_ _ _=>0) a2 (λb i=>by rw[mK];exact aY _) (λi y hy=>Ro.rep _ _ (f_ _) (a4 i y hy)) (Ro.rep _ _ (f_ _) a3) k1
  ·cases hk
theorem Il (h:dt P C A σ a w F) (kq:∀ i T,E.TI i=some T->be P T (.inl i)=true) {t n:Nat} {ps:Array (Nat×Operand)} {fz:Nat->Bool} (ho:o.op=.buildSlice t n ps) (bc:ps.toList.all (λp=>dm P p.2)=true) {K:St->Option R}
  (hk:(pV E t λt=>match t with
  | .U e=>if Nat.beq n ps.size&&e.ve&&Nat.ble (n*e.sz) 16777216 then Fu σ e fz ps.toList 0 (an e) [] λm v σ=>K (σ.b9 o.dst (.own (.U e) (.U true m) [] v)) else none
  | _=>none)=some x):o.wp P a w (λa' w'=>Nx P C K x a' w'/\Ext w w' (λ_ _=>0)) Q:=by
 obtain ⟨T,hT,hk⟩:=fu hk;have gj:=kq _ _ hT;split at hk
 ·rename_i e;split at hk
  ·rename_i hc;simp only[aE,eJ,dU] at hc;obtain ⟨⟨hn,hz⟩,ke⟩:=hc;have hl:=gj;simp only[be,aE] at hl;have h2:=hl.2;split at h2
   ·rename_i el hu;simp only[aE,dU] at h2;obtain ⟨ko,pH⟩:=h2;obtain ⟨Lz,hLz⟩:=ux e hz;obtain ⟨r1,r2,r3⟩:=Ax (P:=P) (w:=w) (A:=A) _ hLz pH;obtain ⟨inf,i1,i2,i3,i4⟩:=ly (lH pH);obtain ⟨z,z1,z2⟩:=i4 Lz hLz;have hzl:z.cells.size=e.sz:=by rw[<-r3,<- z2];simp
    obtain ⟨A',σ',F',m',v',L',X',GQ,g1,g2,g3,g4,g5,g6,g7⟩:=W9 (P:=P) ko ps.toList (n:=0) (L:=[]) (Z:=((Array.range (n*e.sz)).map (z.cells[· % z.cells.size]!)).toList) (Fi:=λ_ _ _=>0) (m:=an e) bc h rfl (by simp) (by simp[hn]) (λb i=>by rw[mK];exact aY _) (λi y hy=>by cases hy) hk;simp only[bT,Array.toArray_toList] at g7;simp only[bE] at g3 g4 g5;have C8:ps.toList.length=n:=by simpa using hn.symm
    rw[C8] at g3 g4 g5
    have gc:(execOp a.eval o).run P w=.ok (.value (.slice (some ⟨w.heap.size,0,none⟩) n n)) (w.alloc (.cells L'.toArray el)):=by
     by_cases zQ:n*e.sz=0
     ·have:n=0:=by rcases Nat.mul_eq_zero.1 zQ with h | h <;> omega
      subst this;have uy:ps=#[]:=by apply fI;omega
      subst uy;have VJ:L'=[]:=by simpa using g4
      subst VJ;simp[execOp,ho,Instr.buildSlice,run_underlying hu,Go.sizeOf,typeInfo,i1,Instr.fill,newRow,show Array.range 0=#[] from rfl]
     ·have:=run_buildSlice (P:=P) w t el n (ps.map λ(i,x)=>(i,a.eval x)) L'.toArray inf z hu i1 z1 (by rw[i2];simp;omega) (by rw[i2];exact zQ) (by rw[i2];simpa using g7);simp only[execOp,ho,this,Sem.run_bind,Result.andThen_ok,Sem.run_pure]
    refine ot (w':=w.alloc (.cells L'.toArray el)) gc ?_
    have ou:=ED g2 (K:=K) (x:=x) (d:=o.dst) (e:=e) (m:=m') (v:=v') (c:=L'.toArray) (cap:=n) (el:=el) (fr:=(0,0)) (Fi:=GQ) (.inr (aN _)) g1 (by simp[g4]) (by simp only[maxLen];have:=Nat.le_mul_of_pos_right n ko;omega) (by omega)
     (λb i=>by rw[g3];exact g5 b i) (λi y hy=>⟨(L'.drop (i*e.sz)).take e.sz,ap.length _ (g6 i y hy),(λj u hu=>by
      rw[bJ] at hu;split at hu
      ·rw[bL] at hu;simpa using hu
      ·cases hu),g6 i y hy⟩)
    rw[g3] at ou;exact ⟨ou,nG w _⟩
   ·cases h2
  ·cases hk
 ·cases hk
end
end OT
namespace OT
open Go
section
variable {P:Program} {C:Ctx} {A:Cells} {X:FP} {σ:St} {a:Act} {w:World} {F:Nat->FP} {R:Type} {x:R} {Q:Exit->Act->World->Prop} {o:Oper} {E:Env}
theorem Rel.world (h:Rel P C A X σ a w F) {w1:World} {G:FP} (hw:Ext w w1 G) (hG:∀ b i,1<=G b i->1<=X b i):Rel P C A X σ a w1 F:=by
 have sC:∀ b i,A b i->∀ u,ce w b i=some u->ce w1 b i=some u:=λb i ha u hu=>by
  refine hw.cell b i (h.kP b i (.inr ha)) ?_ u hu;rcases bF (G b i) with h0 | h0
  ·exact h0
  ·exact absurd ha (h.pW b i (by have:=hG b i h0;omega))
 have DA:∀ j,j < σ.n->∀ b i,1<=F j b i->(∀ u,ce w b i=some u->ce w1 b i=some u)/\w1.frozen? ⟨b,i,none⟩=w.frozen? ⟨b,i,none⟩:=λj hj b i hp=>by
  have hs:=cy F hj b i;have hb:=h.kP b i (.inl (by omega));refine ⟨λu hu=>hw.cell b i hb ?_ u hu,hw.yw b i hb⟩
  rcases bF (G b i) with h0 | h0
  ·exact h0
  ·have:=hG b i h0;have:=h.o5 b i;omega
 have nF:xu σ a w σ a w1:=λr p snap hb=>⟨hb,λbc=>⟨bc,λhl pl ir=>⟨pl.H,pl.cs,by
  have am:=s8 ir
  exact vu (h.g_ r am) rfl rfl sC (λb i hp=>(DA r am b i hp).1) ir,λ_=>rfl⟩⟩⟩
 refine ⟨h.size,h.defers,λi hi=>cv.mW nF (λ_ _ h=>h) sC hw.ub (DA i hi) (h.g_ i hi),λd r p snap hm=>q_.mW nF (h.gh d r p snap hm),h.o5,h.pW,λb i hp=>cP (h.kP b i hp) hw.size,
  h.mf,h.ext.trans hw (λb i hb hz=>?_),h.own,h.a0,h.a1,h.oA,λr t m H v hg hl=>?_,λj k hm R' jv=>?_,h.tab⟩
 ·rcases bF (G b i) with h0 | h0
  ·exact h0
  ·rcases h.own b i (by have:=hG b i h0;omega) with h1 | h1 <;> omega
 ·obtain ⟨b,h1,h2⟩:=h.whole r t m H v hg hl;exact ⟨b,h1,hw.ub _ _ h2⟩
 ·rcases bZ j σ.n with hj | hj
  ·have oo:=h.g_ j hj
   cases vg:c9 w (tmp a j) (σ.get j) with
   | none=>exfalso;cases hg:σ.get j <;> rw[hg] at vg jv <;> simp only[c9] at vg jv <;> first | (cases jv;done) | (cases vg;done) | (split at vg <;> simp_all)
   | some R0=>
    rw[wE oo (λb i hp=>(DA j hj b i hp).1) vg] at jv;injection jv with jv;subst jv;exact h.ny j k hm _ vg
  ·rw[lQ (dN.2 hj)] at jv;cases jv
theorem GS {b o sz:Nat} {n:Nat} (h:∀ i,i < n->∃ L:List Value,L.length=sz/\Has w b (o+i*sz) L):Has w b o (rd w b o (n*sz))/\∀ i L,i < n->L.length=sz->Has w b (o+i*sz) L->((rd w b o (n*sz)).drop (i*sz)).take sz=L:=by
 have EE:∀ j,j < n*sz->(ce w b (o+j)).isSome=true:=λj hj=>by
  have ko:0 < sz:=by rcases bF sz with h0 | h0;(· subst h0;simp at hj);exact h0
  have hi:j / sz < n:=Nat.div_lt_of_lt_mul (by rw[fT];exact hj);obtain ⟨L,h1,h2⟩:=h _ hi;have hm:j % sz < L.length:=by rw[h1];exact iR _ ko
  have:=h2 (j % sz) _ (aB hm);have e:o+j / sz*sz+j % sz=o+j:=by have:=gL j sz;rw[fT] at this;omega
  rw[e] at this;rw[this];rfl
 refine ⟨λj u hu=>?_,λi L hi hl hL=>?_⟩
 ·have hj:=(aM.1 hu).1;rw[xX] at hj;unfold rd at hu;rw[eK,iW hj] at hu;simp only[cC,aP] at hu;obtain ⟨u',RH⟩:=fZ.1 (EE j hj);rw[RH] at hu ⊢;exact dE some hu
 ·have h6:i*sz+sz<=n*sz:=by rw[<-fB];exact bD _ (by omega)
  apply fS;intro j;rw[bJ,bL];by_cases hj:j < sz
  ·rw[aV hj];unfold rd;rw[eK,iW (by omega)];have:=hL j L[j] (aB (by omega));rw[show o+i*sz+j=o+(i*sz+j) by omega] at this;rw[aB (by omega)];simp[this]
  ·rw[bB hj,cW (by omega)]
theorem GT {e:Ty} {m:Md} {H:List Path} (hH:hole H=false) {v:List e.den} {cs:List Value} {Fv:FP} (hr:ap P w A (.U e) m H v cs Fv) :
  ∃ xa cap news Fi,cs=[.slice xa (List.length v) cap]/\(List.length v<=cap/\(xa=none->List.length v=0))/\(∀ ad,xa=some ad->(0 < cap->ad.spot=none)/\Has w ad.block ad.off news)/\news.length=List.length v*e.sz/\(∀ u ∈ news,u.oneCell'=true) /\
   (∀ (i:Nat) (y:e.den),v[i]?=some y->ap P w A e m.e (H.filterMap (ld i)) y ((news.drop (i*e.sz)).take e.sz) (Fi i))/\(∀ b i,a_ (List.length v) Fi b i<=Fv b i) /\
   (m.own=true->List.length v<=cap/\cap<=maxLen/\(xa=none->cap=0)/\∀ ad,xa=some ad->ad.off=0/\ad.spot=none/\ge w ad.block (cap*e.sz,xt e)/\∀ b i,b_ ad.block 0 (cap*e.sz) b i+a_ (List.length v) Fi b i<=Fv b i):=by
 have mN:∀ (news:List Value) (Fi:Nat->FP),news.length=List.length v*e.sz->(∀ (i:Nat) (y:e.den),v[i]?=some y->ap P w A e m.e (H.filterMap (ld i)) y ((news.drop (i*e.sz)).take e.sz) (Fi i))->∀ u ∈ news,u.oneCell'=true:=by
  intro news Fi hl pH u hu;obtain ⟨j,hj,rfl⟩:=dC.1 hu;have ko:0 < e.sz:=by rcases bF e.sz with h0 | h0;(· rw[hl,h0] at hj;simp at hj);exact h0
  have hi:j / e.sz < List.length v:=Nat.div_lt_of_lt_mul (by rw[fT,<- hl];exact hj);have h1:=ap.one _ (pH _ _ (aB hi));refine h1 _ (cA (i:=j % e.sz) ?_);rw[bJ,aV (iR _ ko),bL];have:j / e.sz*e.sz+j % e.sz=j:=by rw[fT];exact gL j e.sz
  rw[this,aB hj]
 simp only[ap,hH,aF,aL] at hr;split at hr
 ·rename_i fa;obtain ⟨xa,cap,rfl,h1,h2,h3,h4⟩:=hr
  cases xa with
  | none=>
   have ke:=h3 rfl;have Oq:List.length v=0:=by omega
   have hv:v=[]:=bH Oq;subst hv;exact ⟨none,cap,[],λ_ _ _=>0,rfl,⟨aY _,λ_=>rfl⟩,(λad e=>by cases e),by simp,(λu hu=>by cases hu),(λi y hy=>by cases hy),λb i=>by rw[mK];exact aY _,λ_=>⟨h1,h2,h3,λad e=>by cases e⟩⟩
  | some ad=>
   obtain ⟨g1,g2,g3,Fi,g4,g5⟩:=h4 ad rfl
   have hp:∀ i,i < List.length v->∃ L:List Value,L.length=e.sz/\Has w ad.block (0+i*e.sz) L:=λi hi=>by
    obtain ⟨L,l1,l2,_⟩:=g5 i _ (aB hi);exact ⟨L,l1,by rw[bE];exact l2⟩
   obtain ⟨p1,p2⟩:=GS hp
   have pH:∀ (i:Nat) (y:e.den),v[i]?=some y->ap P w A e m.e (H.filterMap (ld i)) y (((rd w ad.block 0 (List.length v*e.sz)).drop (i*e.sz)).take e.sz) (Fi i):=λi y hy=>by
    obtain ⟨L,l1,l2,l3⟩:=g5 i y hy;rw[p2 i L (aM.1 hy).1 l1 (by rw[bE];exact l2)];exact l3
   refine ⟨some ad,cap,rd w ad.block 0 (List.length v*e.sz),Fi,rfl,⟨h1,(λe=>by cases e)⟩,λcr e=>?_,xX _ _ _ _,mN _ _ (xX _ _ _ _) pH,pH,λb i=>by have:=g4 b i;omega,λ_=>⟨h1,h2,h3,λcr e=>?_⟩⟩
   ·injection e with e;subst e;exact ⟨λ_=>g2,by rw[g1];exact p1⟩
   ·injection e with e;subst e;exact ⟨g1,g2,g3,g4⟩
 ·rename_i fa;obtain ⟨rfl,qt,xa,cap,rfl,h1,h2,h3⟩:=hr
  cases xa with
  | none=>
   have hv:v=[]:=bH (h2 rfl);subst hv;exact ⟨none,cap,[],λ_ _ _=>0,rfl,⟨aY _,λ_=>rfl⟩,(λad e=>by cases e),by simp,(λu hu=>by cases hu),(λi y hy=>by cases hy),(λb i=>by rw[mK];exact aY _),λh=>absurd h fa⟩
  | some ad=>
   obtain ⟨g1,g2⟩:=h3 ad rfl
   have hp:∀ i,i < List.length v->∃ L:List Value,L.length=e.sz/\Has w ad.block (ad.off+i*e.sz) L:=λi hi=>by
    obtain ⟨L,l1,l2,_⟩:=g2 i _ (aB hi);exact ⟨L,l1,λj u hu=>(l2 j u hu).1⟩
   obtain ⟨p1,p2⟩:=GS hp
   have pH:∀ (i:Nat) (y:e.den),v[i]?=some y->ap P w A e m.e (([]:List Path).filterMap (ld i)) y (((rd w ad.block ad.off (List.length v*e.sz)).drop (i*e.sz)).take e.sz) (λ_ _=>0):=λi y hy=>by
    obtain ⟨L,l1,l2,l3⟩:=g2 i y hy;rw[p2 i L (aM.1 hy).1 l1 (λj u hu=>(l2 j u hu).1)];exact Ro.rep _ _ qt l3
   refine ⟨some ad,cap,rd w ad.block ad.off (List.length v*e.sz),λ_ _ _=>0,rfl,⟨h1,(λe=>by cases e)⟩,λcr e=>?_,xX _ _ _ _,mN _ _ (xX _ _ _ _) pH,pH,(λb i=>by rw[mK];exact aY _),λh=>absurd h fa⟩
   injection e with e;subst e;exact ⟨g1,p1⟩
theorem yd {e:Ty} {m:Md} {v:List e.den} {cs:List Value} {Fv:FP} (hr:ap P w A (.U e) m [] v cs Fv) :
  ∃ xa cap news Fi,cs=[.slice xa (List.length v) cap]/\(List.length v<=cap/\(xa=none->List.length v=0))/\(∀ ad,xa=some ad->(0 < cap->ad.spot=none)/\Has w ad.block ad.off news)/\news.length=List.length v*e.sz/\(∀ u ∈ news,u.oneCell'=true) /\
   (∀ (i:Nat) (y:e.den),v[i]?=some y->ap P w A e m.e [] y ((news.drop (i*e.sz)).take e.sz) (Fi i))/\(∀ b i,a_ (List.length v) Fi b i<=Fv b i) /\
   (m.own=true->List.length v<=cap/\cap<=maxLen/\(xa=none->cap=0)/\∀ ad,xa=some ad->ad.off=0/\ad.spot=none/\ge w ad.block (cap*e.sz,xt e)/\∀ b i,b_ ad.block 0 (cap*e.sz) b i+a_ (List.length v) Fi b i<=Fv b i):=
 GT rfl hr
theorem Im (h:Rel P C A X σ a w F) {s:Slot} {tv:Value} {G:FP} (hs:cv P A σ a w tv s G) {mv:Bool} {e:Ty} {tx:TypeId} (Ay:(∃ e',P.underlying tx=some (.slice e'))\/P.underlying tx=some .string)
  {K:Md->List e.den->St->Option R} (hk:Aq σ s e mv K=some x) :
  ∃ (A':Cells) (σ':St) (F':Nat->FP) (me:Md) (y:List e.den) (news:List Value) (Fv:FP) (Fi:Nat->FP),K me y σ'=some x/\(∀ b i,A b i->A' b i)/\Rel P C A' (λb i=>X b i+Fv b i) σ' a w F'/\qx σ σ' /\
   Src P e.sz tx tv (List.length y) news w/\(∀ k,k<=List.length y->(Builtin.firstCells e.sz k tv).run P w=.ok (news.take (k*e.sz)).toArray w)/\(∀ (i:Nat) (z:e.den),y[i]?=some z->ap P w A' e me [] z ((news.drop (i*e.sz)).take e.sz) (Fi i))/\∀ b i,a_ (List.length y) Fi b i<=Fv b i:=by
 unfold Aq at hk;split at hk
 ·rename_i s';obtain ⟨e1,hk⟩:=ct hk;injection e1 with e1;subst e1;obtain ⟨cs,h1,h2⟩:=hs;simp only[Ro] at h2;subst h2;have zJ:tv=.string ⟨List.toArray s'⟩:=h1;subst zJ;have hlen:(byteCells ⟨List.toArray s'⟩)=List.map (λ(b:UInt8)=>Value.int .u8 b.toNat) s':=by simp[byteCells]
  have ko:(⟨List.toArray s'⟩:ByteArray).size=List.length s':=rfl;refine ⟨A,σ,F,.leaf,s',byteCells ⟨List.toArray s'⟩,λ_ _=>0,λ_ _ _=>0,hk,λ_ _ h=>h,h,qx.refl σ,⟨Ay,λ_=>rfl,firstCells_string _ w,firstCells_string _ w.drew,by rw[byteCells_length,ko];simp[Ty.sz],λu hu=>?_⟩,λk hk=>?_,λi z hz=>?_,λb i=>by rw[mK];exact aY _⟩
  ·obtain ⟨_,_,rfl⟩:=fV.1 hu;rfl
  ·rw[hlen];have TX:((⟨List.toArray s'⟩:ByteArray).extract 0 k).data.toList=s'.take k:=by simp[ByteArray.data_extract]
   simp only[Builtin.firstCells,Sem.run_pure,Ty.sz,iT];congr 1;apply eY;simp only[Array.toList_map,TX,List.map_take]
  ·have:((byteCells ⟨List.toArray s'⟩).drop (i*Ty.sz (.int .u8))).take (Ty.sz (.int .u8))=[Value.int .u8 z.toNat]:=by
    show ((byteCells ⟨List.toArray s'⟩).drop (i*1)).take 1=_;rw[hlen,iT,List.take_one,List.head?_drop,eK,hz];rfl
   exact this
 ·rename_i s' hns;obtain ⟨A',σ',F',m,v,cs,Fv,k1,k2,k3,k4,kr,k5,k6⟩:=tI h hs hk;obtain ⟨xa,cap,news,Fi,r1,r2,r3,r4,r5,r6,r7,r8⟩:=yd k6;rw[r1,db _ _ rfl] at k5;subst k5
  have yc:∀ ad,xa=some ad->∀ j u,news[j]?=some u->w.cell? (ad.add j)=some u:=λad e1 j u hu=>by
   obtain ⟨g1,g2⟩:=r3 ad e1;have hj:=(aM.1 hu).1
   have DH:0 < cap:=by
    rcases bF cap with h0 | h0
    ·have:List.length v=0:=by have:=r2.1;omega
     rw[r4,this,gJ] at hj;omega
    ·exact h0
   obtain ⟨b,off,sp⟩:=ad;have:=g1 DH;simp only at this;subst this;rw[pu];exact qU (g2 j u hu) (r5 u (cA hu))
  refine ⟨A',σ',F',m.e,v,news,Fv,Fi,k1,k2,k3,kr,?_,?_,r6,r7⟩
  rotate_left
  ·intro k hk
   cases xa with
   | none=>
    have h0:=r2.2 rfl;have hn:news=[]:=bH (by rw[r4,h0,gJ]);subst hn;simp only[List.take_nil];exact run_firstCells_none w e.sz k (List.length v) cap
   | some ad=>
    have hc:=yc ad rfl;have hle:k*e.sz<=List.length v*e.sz:=bD _ hk
    have:=run_firstCells_some (P:=P) w e.sz k ad (List.length v) cap (news.take (k*e.sz)) (by simp;omega) (λj u hu=>by
     rw[bJ] at hu;split at hu
     ·exact hc j u hu
     ·cases hu)
    simpa [Builtin.firstCells] using this
  cases xa with
  | none=>
   have h0:=r2.2 rfl;have hn:news=[]:=bH (by rw[r4,h0,gJ]);subst hn;rw[h0];exact ⟨Ay,λ_=>rfl,run_firstCells_none w e.sz 0 0 cap,run_firstCells_none w.drew e.sz 0 0 cap,by simp,λu hu=>by cases hu⟩
  | some ad=>
   have hc:=yc ad rfl;exact ⟨Ay,λ_=>rfl,run_firstCells_some w e.sz (List.length v) ad (List.length v) cap news r4 hc,run_firstCells_some w.drew e.sz (List.length v) ad (List.length v) cap news r4 (by simpa using hc),r4,r5⟩
theorem FH {e:Ty} {me:Md} {v y:List e.den} {ey news:List Value} {Fi Gi:Nat->FP} (hl:ey.length=List.length v*e.sz)
  (h1:∀ (i:Nat) (z:e.den),v[i]?=some z->ap P w A e me [] z ((ey.drop (i*e.sz)).take e.sz) (Fi i)) (h2:∀ (i:Nat) (z:e.den),y[i]?=some z->ap P w A e me [] z ((news.drop (i*e.sz)).take e.sz) (Gi i)) :
  ∀ (i:Nat) (z:e.den),(v++y)[i]?=some z->ap P w A e me [] z (((ey++news).drop (i*e.sz)).take e.sz) (if i < List.length v then Fi i else Gi (i - List.length v)):=by
 intro i z hz;by_cases hi:i < List.length v
 ·rw[aV hi];rw[bW hi] at hz;have h6:i*e.sz+e.sz<=List.length v*e.sz:=by rw[<-fB];exact bD _ (by omega)
  rw[dL (by omega),dK (by simp;omega)];exact h1 i z hz
 ·rw[bB hi];rw[bV (by omega)] at hz;have h6:List.length v*e.sz<=i*e.sz:=bD _ (by omega);rw[gY,dR (by omega),bT,hl,<- gH];exact h2 _ z hz
theorem FI (n m:Nat) (Fi Gi:Nat->FP) (b i:Nat):a_ (n+m) (λi=>if i < n then Fi i else Gi (i - n)) b i=a_ n Fi b i+a_ m Gi b i:=by
 rw[sY];congr 1
 ·have:=qv (n:=n) (f:=λi=>if i < n then Fi i else Gi (i - n)) (g:=Fi) (λj hj=>by simp only[aV hj]);rw[this]
 ·have:=qv (n:=m) (f:=λj=>(λi=>if i < n then Fi i else Gi (i - n)) (n+j)) (g:=Gi) (λj hj=>by
   simp only;rw[bB (by omega),iE]);rw[this]
theorem Ro.indep {A':Cells}:∀ (t:Ty) {v:t.den} {cs:List Value},t.flat=true->t.rC=true->Ro P w A t v cs->Ro P w A' t v cs:=by
 intro t
 induction t with
 | pair a b kO kD=>
  intro v cs hf hn h;simp only[Ty.flat,Ty.rC,aE] at hf hn;exact ⟨kO hf.1 hn.1 h.1,kD hf.2 hn.2 h.2⟩
 | arr n e ih=>
  intro v cs hf hn h;exact ⟨h.1,h.2.1,h.2.2.1,λi x hx=>ih hf hn (h.2.2.2 i x hx)⟩
 | U e ih=>intro v cs hf;simp[Ty.flat] at hf
 | ptr e ih=>intro v cs hf;simp[Ty.flat] at hf
 | fn=>intro v cs hf hn;simp[Ty.rC] at hn
 | map k v=>intro v cs hf;simp[Ty.flat] at hf
 | _=>intro v cs hf hn h;exact h
theorem GU {A1 A2:Cells} {kW:St} {F2:Nat->FP} {t tx:Nat} {y z:Operand} (ho:o.op=.call { callee:=.builtin .append,args:=#[y,z],argTypes:=#[t,tx] }) {e:Ty} {el:Nat} (hu:P.underlying t=some (.slice el)) (pH:be P e (.inl el)=true)
  {m me:Md} {v yv:List e.den} {cs news:List Value} {Fv Fw:FP} {Gi:Nat->FP} {K:St->Option R} (fa:m.own=true) (k5:a.eval y=ci (.U e) cs) (k6:ap P w A1 (.U e) m [] v cs Fv) (ke:v.length+yv.length<=cc)
  (q1:K (kW.b9 o.dst (.own (.U e) (.U true (if me=m.e then me else ax e)) [] (v++yv)))=some x) (q2:∀ b i,A1 b i->A2 b i) (q3:Rel P C A2 (λb i=>0+Fv b i+Fw b i) kW a w F2)
  (q4:Src P e.sz tx (a.eval z) (List.length yv) news w) (q5:∀ (i:Nat) (z:e.den),yv[i]?=some z->ap P w A2 e me [] z ((news.drop (i*e.sz)).take e.sz) (Gi i)) (q6:∀ b i,a_ (List.length yv) Gi b i<=Fw b i):o.wp P a w (Nx P C K x) Q:=by
 obtain ⟨inf,zv,i1,i2,i3,i4,i5,_⟩:=vw (lH pH);obtain ⟨xa,cap,ey,Fi,r1,r2,r3,r4,r5,r6,r7,r8⟩:=yd k6;obtain ⟨c1,c2,c3,c4⟩:=r8 fa;rw[r1,db _ _ rfl] at k5;have r6':∀ (i:Nat) (z:e.den),v[i]?=some z->ap P w A2 e m.e [] z ((ey.drop (i*e.sz)).take e.sz) (Fi i):=λi z hz=>ap.mono (P:=P) (A':=A2) q2 (λ_ _ _ _ h=>h) (λ_ _ h=>h) e (r6 i z hz) (λ_ _=>aN _) (λ_ _ _ _ h=>h)
 have t7:∃ (A3:Cells) (X3:FP) (Hi:Nat->FP),Rel P C A3 X3 kW a w F2/\(∀ (i:Nat) (z:e.den),(v++yv)[i]?=some z->ap P w A3 e (if me=m.e then me else ax e) [] z (((ey++news).drop (i*e.sz)).take e.sz) (Hi i)) /\
   (∀ b i,a_ (List.length v+List.length yv) Hi b i<=X3 b i)/\∀ ad,xa=some ad->∀ b i,b_ ad.block 0 (cap*e.sz) b i+a_ (List.length v+List.length yv) Hi b i<=X3 b i:=by
  by_cases C3:me=m.e
  ·subst C3;refine ⟨A2,_,_,q3,by simp only[aI];exact FH r4 r6' q5,λb i=>?_,λad fk b i=>?_⟩
   ·rw[FI];have:=r7 b i;have:=q6 b i;omega
   ·rw[FI];have:=(c4 ad fk).2.2.2 b i;have:=q6 b i;omega
  ·simp only[bB C3]
   obtain ⟨B,Yj,zR,hB3⟩:∃ B:FP,(∀ b i,B b i+a_ (List.length v) Fi b i<=Fv b i)/\(∀ ad,xa=some ad->∀ b i,b_ ad.block 0 (cap*e.sz) b i=B b i)/\∀ b i,B b i<=1:=by
    cases xa with
    | none=>exact ⟨λ_ _=>0,λb i=>by show 0+_<=_;have:=r7 b i;omega,(λad e=>by cases e),λ_ _=>aY _⟩
    | some ad=>exact ⟨b_ ad.block 0 (cap*e.sz),(c4 ad rfl).2.2.2,(λcr e=>by injection e with e;subst e;exact λ_ _=>rfl),λb i=>by simp only[b_];split <;> omega⟩
   obtain ⟨A3,qK⟩:∃ A3:Cells,∀ b i,A3 b i↔(A2 b i\/(1<=0+Fv b i+Fw b i/\B b i=0)):=⟨λb i=>A2 b i\/(1<=0+Fv b i+Fw b i/\B b i=0),λ_ _=>jX⟩
   refine ⟨A3,B,λ_ _ _=>0,q3.giveUp (λb i h=>(qK b i).2 (.inl h)) (λb i ha=>(qK b i).1 ha) (λb i=>by have:=Yj b i;omega),?_,λb i=>by rw[mK];exact aY _,λad fk b i=>by rw[mK,zR ad fk];exact aN _⟩
   have pe:∀ b i,(0+Fv b i+Fw b i)+a_ kW.n F2 b i<=1:=λb i=>q3.o5 b i
   have hv3:∀ (i:Nat) (z:e.den),v[i]?=some z->ap P w A3 e (ax e) [] z ((ey.drop (i*e.sz)).take e.sz) (λ_ _=>0):=λi z hz=>Ro.rep _ _ (f_ _) (ap.wA (λb i h=>(qK b i).2 (.inl h)) e (r6' i z hz) λb k hp=>(qK b k).2 (.inr (by
    have h1:=cy Fi (aM.1 hz).1 b k;have h2:=Yj b k;have h3:=pe b k
    constructor <;> omega)))
   have hy3:∀ (i:Nat) (z:e.den),yv[i]?=some z->ap P w A3 e (ax e) [] z ((news.drop (i*e.sz)).take e.sz) (λ_ _=>0):=λi z hz=>Ro.rep _ _ (f_ _) (ap.wA (λb i h=>(qK b i).2 (.inl h)) e (q5 i z hz) λb k hp=>(qK b k).2 (.inr (by
    have h1:=cy Gi (aM.1 hz).1 b k;have h2:=Yj b k;have h3:=pe b k;have h4:=q6 b k
    constructor <;> omega)))
   exact λi z hz=>by simpa using FH (Fi:=λ_ _ _=>0) (Gi:=λ_ _ _=>0) r4 hv3 hy3 i z hz
 obtain ⟨A3,X3,Hi,n1,n2,n3,n4⟩:=t7;have zF:List.length (v++yv)=List.length v+List.length yv:=by simp
 by_cases pK:List.length v+List.length yv<=cap
 ·cases xa with
  | none=>
   have hc0:=c3 rfl;have Oq:v=[]:=bH (by omega);have RS:yv=[]:=bH (by omega);subst Oq;subst RS;have wb:(Builtin.firstCells e.sz 0 (a.eval z)).run P w=.ok news.toArray w:=by have:=q4.cells;simpa using this
   have gc:(execOp a.eval o).run P w=.ok (.value (.slice none 0 cap)) w:=by
    rcases q4.kind with ⟨e',o6⟩ | o6 <;>
     simp[execOp,ho,resolve,invoke,builtin,Builtin.append_,k5,run_underlying hu,run_underlying o6,Go.sizeOf,typeInfo,i1,q4.len,i2,wb]
   refine ot gc (pv n1 q1 (Fd:=λ_ _=>0) ⟨[.slice none 0 cap],(db _ _ rfl).symm,?_⟩ (λ_ _=>aY _) (λ_ _ _ _ e=>by cases e));simp only[ap,hole,bU,aF,aL,Md.own,aI];exact ⟨none,cap,rfl,aY _,c2,c3,λad e=>by cases e⟩
  | some ad=>
   obtain ⟨d1,d4,d2,d3⟩:=c4 ad rfl;obtain ⟨_,d5⟩:=r3 ad rfl;obtain ⟨b,off,sp⟩:=ad;simp only at d1 d2 d3 d4 d5;subst d1;subst d4;have V3:∀ b' i,b_ b 0 (cap*e.sz) b' i+a_ (List.length v+List.length yv) Hi b' i<=X3 b' i:=n4 _ rfl;have C8:=q4.newsLen;have zS:List.length v*e.sz+news.length<=cap*e.sz:=by rw[C8,<- cI];exact bD _ pK
   have mR:∀ j,j < cap*e.sz->(w.cell? ⟨b,j,none⟩).isSome=true:=λj hj=>by
    obtain ⟨c,e',fr,w1,w2,w3⟩:=d2;unfold World.cell?;simp only[w1,eP,aF,aL];rw[cN (by omega)];rfl
   have gc:=run_append_room_src (P:=P) w t tx o.type el inf hu i1 b 0 (List.length v) cap (a.eval z) (List.length yv) news (by rw[i2];exact q4) pK (λj hj=>by rw[i2,bE];exact mR _ (by omega)) (λj hj=>by rw[i2,bE];exact d2.frozen (by omega));rw[i2,bE] at gc
   have PA:(execOp a.eval o).run P w=.ok (.value (.slice (some ⟨b,0,none⟩) (List.length v+List.length yv) cap)) (w.setCells b (List.length v*e.sz) news):=by
    simp[execOp,ho,resolve,invoke,builtin,k5,gc]
   have dr:=li (b:=b) (o:=List.length v*e.sz) news w (List.length v*e.sz)
   have Yk:∀ b' i,1<=b_ b (List.length v*e.sz) news.length b' i->1<=b_ b 0 (cap*e.sz) b' i:=λb' i hp=>by
    simp only[b_] at hp ⊢;split at hp
    ·rw[aV (by omega)];exact aN _
    ·omega
   have V4:=n1.world dr (λb' i hp=>by have:=Yk b' i hp;have:=V3 b' i;omega);refine ot PA (pv V4 q1 (Fd:=X3) ⟨[.slice (some ⟨b,0,none⟩) (List.length v+List.length yv) cap],(db _ _ rfl).symm,?_⟩ (λ_ _=>aN _) (λ_ _ _ _ e=>by cases e));simp only[ap,hole,bU,aF,aL,Md.own,aI,Md.e];refine ⟨some ⟨b,0,none⟩,cap,by rw[zF],by omega,c2,(λe=>by cases e),λcr e'=>?_⟩
   injection e' with e';subst e';refine ⟨rfl,rfl,dr.ub _ _ d2,Hi,λb' i=>by rw[zF];exact V3 b' i,λi zz hz=>?_⟩
   have e_:=n2 i zz hz;have In:i < List.length v+List.length yv:=by have:=(aM.1 hz).1;omega
   refine ⟨_,ap.length _ e_,?_,?_⟩
   ·
    have px:Has (w.setCells b (List.length v*e.sz) news) b 0 (ey++news):=λj u hu=>by
     rw[bE];by_cases hj:j < ey.length
     ·rw[bW hj] at hu;have hold:=d5 j u hu;rw[bE] at hold;refine dr.cell b j (by obtain ⟨c,e',fr,w1,_⟩:=d2;exact (bQ.1 w1).1) ?_ u hold;simp only[b_];rw[bB (by omega)]
     ·rw[bV (by omega)] at hu;have:=oI (w:=w) (b:=b) (o:=List.length v*e.sz) (L:=news) (λk hk=>mR _ (by omega)) q4.one _ u hu;rw[<-this];congr 1;omega
    intro j u hu;rw[bJ] at hu;split at hu
    ·rw[bL] at hu;have:=px _ u hu;rw[bE] at this;exact this
    ·cases hu
   ·simp only[eQ];refine ap.mono (P:=P) (λ_ _ h=>h) (λb' k ha u hu=>dr.cell b' k (n1.kP b' k (.inr ha)) ?_ u hu) dr.ub e e_ (λ_ _=>aN _) (λb' k hp u hu=>dr.cell b' k ?_ ?_ u hu)
    ·rcases bF (b_ b (List.length v*e.sz) news.length b' k) with h0 | h0
     ·exact h0
     ·exact absurd ha (n1.pW b' k (by have:=Yk b' k h0;have:=V3 b' k;omega))
    ·exact n1.kP b' k (.inl (by have:=cy Hi In b' k;have:=n3 b' k;omega))
    ·rcases bF (b_ b (List.length v*e.sz) news.length b' k) with h0 | h0
     ·exact h0
     ·have h1:=Yk b' k h0;have h2:=V3 b' k;have h3:=cy Hi In b' k;have h4:=n1.o5 b' k;omega
 ·
  have PB:(Builtin.firstCells inf.size (List.length v) (.slice xa (List.length v) cap)).run P w.drew=.ok ey.toArray w.drew:=by
   cases xa with
   | none=>
    have h0:=r2.2 rfl;have:ey=[]:=bH (by rw[r4,h0,gJ]);subst this;exact run_firstCells_none w.drew inf.size (List.length v) (List.length v) cap
   | some ad=>
    obtain ⟨_,d4,_,_⟩:=c4 ad rfl;obtain ⟨_,d5⟩:=r3 ad rfl;obtain ⟨b,off,sp⟩:=ad;simp only at d4 d5;subst d4;exact run_firstCells_some w.drew inf.size (List.length v) ⟨b,off,none⟩ (List.length v) cap ey (by rw[i2];exact r4) (λj u hu=>by rw[pu];exact qU (d5 j u hu) (r5 u (cA hu)))
  simp only[cc] at ke
  have gc:=run_append_grow_src (P:=P) w t tx o.type el inf zv hu i1 i4 xa (List.length v) cap ey PB (a.eval z) (List.length yv) news (by rw[i2];exact q4) (by omega) (by omega)
   (growslice_fits (by omega) (bO (gW ke i3) (by decide)))
  have PA:(execOp a.eval o).run P w=.ok (.value (.slice (some ⟨w.heap.size,0,none⟩) (List.length v+List.length yv) (grownCap w (List.length v+List.length yv) cap el)))
    (w.drew.alloc (.cells ((ey++news).toArray++Builtin.zeroCells zv.cells (grownCap w (List.length v+List.length yv) cap el - (List.length v+List.length yv))) el)):=by
   simp[execOp,ho,resolve,invoke,builtin,k5,gc]
  have DJ:=grownCap_ge w (List.length v+List.length yv) cap el;have Ot:=grownCap_le_maxLen w (List.length v+List.length yv) cap el (by simp only[maxLen];omega);have C8:=q4.newsLen
  have ou:=ED n1.drew (K:=K) (x:=x) (d:=o.dst) (e:=e) (m:=if me=m.e then me else ax e) (v:=v++yv) (c:=(ey++news).toArray++Builtin.zeroCells zv.cells (grownCap w (List.length v+List.length yv) cap el - (List.length v+List.length yv)))
   (cap:=grownCap w (List.length v+List.length yv) cap el) (el:=el) (fr:=(0,0)) (Fi:=Hi) (.inr (aN _)) q1
   (by
    rw[fD,size_zeroCells,i5,dQ,aR,r4,C8,<- cI,<- cI]
    congr 1;omega) Ot (by rw[zF];exact DJ)
   (λb i=>by rw[zF];exact n3 b i) (λi zz hz=>by
    have e_:=n2 i zz hz;refine ⟨_,ap.length _ e_,λj u hu=>?_,ap.mono (P:=P) (w:=w) (w':=w.drew) (A:=A3) (A':=A3) (λ_ _ h=>h) (λ_ _ _ _ h=>h) (λb n hn=>hn) e e_ (λ_ _=>aN _) (λ_ _ _ _ h=>h)⟩
    rw[bJ] at hu;split at hu
    ·rw[bL] at hu;have am:=(aM.1 hu).1;rw[dI (by simpa using am)]
     simpa using hu
    ·cases hu)
  rw[zF] at ou;exact ot PA ou
theorem step_append (h:dt P C A σ a w F) (kq:∀ i T,E.TI i=some T->be P T (.inl i)=true) {t tx:Nat} {y z:Operand} (ho:o.op=.call { callee:=.builtin .append,args:=#[y,z],argTypes:=#[t,tx] }) (bc:dm P y=true/\dm P z=true)
  (Ay:(∃ e',P.underlying tx=some (.slice e'))\/P.underlying tx=some .string) {mv tf:Bool} {K:St->Option R} (hk:H7 E σ t (dq σ y) z mv tf o.dst K=some x):o.wp P a w (Nx P C K x) Q:=by
 unfold H7 at hk;obtain ⟨T,hT,hk⟩:=fu hk;have gj:=kq _ _ hT;split at hk
 ·rename_i e;have hl:=gj;simp only[be,aE] at hl;have h2:=hl.2;split at h2;rotate_left
  ·cases h2
  rename_i el hu;simp only[aE,dU] at h2;obtain ⟨ko,pH⟩:=h2;split at hk
  ·rename_i Az;simp only[aE] at Az;obtain ⟨_,Az,I9⟩:=Az
   rcases eu h bc.2 with ud | ⟨xs,e'⟩
   rotate_left
   ·rw[e'] at hk;simp[Aq,mV] at hk
   obtain ⟨A0,σ0,F0,me,yv,news,Fw,Gi,q1,_,_,_,q4,_,q5,_⟩:=Im h ud Ay hk
   rcases eu h bc.1 with hs | ⟨xs,e'⟩
   rotate_left
   ·rw[e'] at q1;simp[mV] at q1
   obtain ⟨A1,ov,F1,m,v,cs,Fv,k1,k2,k3,k4,kr,k5,k6⟩:=tI h hs q1;split at k1;rotate_left
   ·cases k1
   rename_i fa;split at k1;rotate_left
   ·cases k1
   rename_i ke
   exact GU (me:=ax e) (Fw:=λ_ _=>0) (Gi:=λ_ _ _=>0) ho hu pH fa k5 k6 ke (by rw[ite_self];exact k1) (λ_ _ h=>h) k3 q4
    (λi zz hz=>Ro.rep _ _ (f_ _) (Ro.indep e Az I9 (ap.flat e Az (q5 i zz hz)))) (λb i=>by rw[mK];exact aY _)
  rcases eu h bc.1 with hs | ⟨xs,e'⟩
  rotate_left
  ·rw[e'] at hk;simp[mV] at hk
  obtain ⟨A1,ov,F1,m,v,cs,Fv,k1,k2,k3,k4,kr,k5,k6⟩:=tI h hs hk;split at k1;rotate_left
  ·cases k1
  rename_i fa
  rcases eu k3 bc.2 with ud | ⟨xs,e'⟩
  rotate_left
  ·rw[e'] at k1;simp[Aq,mV] at k1
  obtain ⟨A2,kW,F2,me,yv,news,Fw,Gi,q1,q2,q3,qr,q4,_,q5,q6⟩:=Im k3 ud Ay k1;split at q1;rotate_left
  ·cases q1
  rename_i ke;exact GU ho hu pH fa k5 k6 ke q1 q2 q3 q4 q5 q6
 ·cases hk
end
end OT
namespace OT
open Go
section
variable {P:Program} {C:Ctx} {A:Cells} {X:FP} {σ:St} {a:Act} {w:World} {F:Nat->FP} {R:Type} {x:R} {Q:Exit->Act->World->Prop} {o:Oper} {E:Env}
theorem JU (h:dt P C A σ a w F) {f:Nat} {first cs:Array Operand} (ho:o.op=.makeFunc (.func f) first cs) (cu:(P.funcs[f]?).any (λfn=>fn.nfree == cs.size)=true) {K:St->Option R}
  (hk:(if first.size=0 then
   match cs.toList with
   | []=>K (σ.b9 o.dst (.val .fn (f,0)))
   | [.tmp i]=>match σ.get i with
    | .box (.int .i64) _ _ n=>K (((σ.put i .dead).put i (.cp (.int .i64) n)).b9 o.dst (.val .fn (f,n)))
    | _=>none
   | _=>none
  else none)=some x):Tk P o a w (Nx P C K x):=by
 simp only[Option.any_eq_true,jQ] at cu;obtain ⟨fn,hf,hn⟩:=cu;split at hk
 ·rename_i h0;have K3:first=#[]:=fI h0
  subst K3;split at hk
  ·rename_i oH;have oH:cs=#[]:=by apply eY;simpa using oH
   subst oH;refine fx (v:=.func (.func f) #[] #[]) (by simp[execOp,ho,Instr.makeFunc]) (cj h hk ⟨[.func (.func f) #[] #[]],rfl,#[],rfl,fn,hf,.inl ⟨by simpa using hn,rfl⟩⟩ (λ_ _ _ _ e=>by cases e))
  ·rename_i i oH;have oH:cs=#[.tmp i]:=by apply eY;simpa using oH
   subst oH;split at hk
   ·rename_i m H n hg
    have hi:i < σ.n:=by
     rcases bZ i σ.n with hi | hi
     ·exact hi
     ·rw[lQ (dN.2 hi)] at hg;cases hg
    have hs:=h.g_ i hi;rw[hg] at hs;obtain ⟨b,off,L,F1,s1,s2,s3,s4,s5,s6⟩:=hs;simp only[ap,Ro] at s6;subst s6;have h1:=h.put hi (s:=.dead) (v:=tmp a i) (Fd:=λ_ _=>0) (X':=F i) trivial (λb k=>by omega) (λ_ _ _ _ e=>by cases e);rw[rf] at h1;have hle:∀ b' i',b_ b off 1 b' i'<=F i b' i':=λb' i'=>by have:=s5 b' i';simp only[Ty.sz] at this;omega
    have h2:=h1.giveUp (A1:=λb' i'=>A b' i'\/1<=b_ b off 1 b' i') (X1:=λ_ _=>0) (λ_ _ h=>.inl h) (λb' i' ha=>ha.imp id λhp=>⟨by have:=hle b' i';omega,rfl⟩) (λ_ _=>aY _);have mR:ce w b off=some (.int .i64 n):=s3 0 _ rfl;have hA:1<=b_ b off 1 b off:=by simp[b_]
    have h3:=h2.put (d:=i) hi (s:=.cp (.int .i64) n) (v:=tmp a i) (Fd:=λ_ _=>0) (X':=λ_ _=>0)
     ⟨⟨b,off,none⟩,by rw[s1],rfl,[.int .i64 n],rfl,(λj u hu=>by
      cases j with
      | zero=>injection hu with hu;subst hu;exact ⟨mR,.inr hA⟩
      | succ j=>cases hu),rfl⟩ (λb k=>by omega) (λ_ _ _ _ e=>by cases e)
    rw[rf] at h3;have ev:a.eval (.tmp i)=.pointer (some ⟨b,off,none⟩):=s1
    refine fx (v:=.func (.func f) #[] #[.pointer (some ⟨b,off,none⟩)]) (by simp[execOp,ho,Instr.makeFunc,ev])
     (cj h3 hk ⟨[.func (.func f) #[] #[.pointer (some ⟨b,off,none⟩)]],rfl,_,rfl,fn,hf,.inr ⟨by simpa using hn,_,rfl,rfl,mR,.inr hA⟩⟩ (λ_ _ _ _ e=>by cases e))
   ·cases hk
  ·cases hk
 ·cases hk
theorem M6 (h:dt P C A σ a w F) {y:Operand} (ho:o.op=.assign y) (bc:dm P y=true) {T:Nat} {mv:Bool} {K:St->Option R} (hk:H8 E σ T y mv o.dst K=some x):Tk P o a w (Nx P C K x):=by
 refine fx (v:=a.eval y) (by simp[execOp,ho]) ?_;unfold H8 at hk;by_cases Yl:∃ i xs,y=.tmp i/\σ.get i=.rB xs
 ·obtain ⟨i,xs,rfl,hg⟩:=Yl;have e:dq σ (.tmp i)=.rB xs:=by simp only[dq,hg]
  rw[e] at hk
  cases xs with
  | nil=>
   have hi:i < σ.n:=by
    rcases bZ i σ.n with hi | hi
    ·exact hi
    ·rw[lQ (dN.2 hi)] at hg;cases hg
   have hs:=h.g_ i hi;rw[hg] at hs;obtain ⟨vs,Fi,h1,h2,h3⟩:=hs;exact cj h hk ⟨vs,λ_ _ _=>0,h1,λb i=>by simp[a_],λj y hy=>by cases hy⟩ (λ_ _ _ _ e=>by cases e)
  | cons _ _=>cases hk
 rcases eu h bc with hs | ⟨xs,e⟩
 rotate_left
 ·exfalso
  cases y with
  | tmp i=>
   simp only[dq] at e;cases hg:σ.get i <;> rw[hg] at e <;> first | (cases e;done) | exact Yl ⟨i,_,rfl,hg⟩
  | const v=>simp only[dq] at e;unfold xW at e;split at e <;> first | (cases e;done) | (split at e <;> cases e)
  | func f=>cases e
  | global g=>cases e
 split at hk
 ·exact cj h hk trivial (λ_ _ _ _ e=>by cases e)
 ·rename_i hv;rw[hv] at hs;obtain ⟨t,hT,hk⟩:=fu hk;split at hk
  ·have hs:a.eval y=.slice none 0 0:=hs;rw[hs];refine cj h hk ⟨[.slice none 0 0],(db _ _ rfl).symm,?_⟩ (λ_ _ _ _ e=>by cases e);simp only[ap,hole,bU,aF,aL,an,sW,Md.own,aI];exact ⟨none,0,rfl,aN _,by simp[maxLen],λ_=>rfl,λad fk=>by cases fk⟩
  ·cases hk
 ·rename_i hv;rw[hv] at hs;obtain ⟨vs,Fi,h1,h2,h3⟩:=hs;exact cj h hk ⟨vs,Fi,h1,h2,λj y hy=>by cases hy⟩ (λ_ _ _ _ e=>by cases e)
 ·cases hk
 ·rename_i r p snap hv;rw[hv] at hs;split at hk
  ·split at hk
   ·obtain ⟨A',σ',F',m,v,cs,Fv,k1,k2,k3,k4,kr,k5,k6⟩:=tI h hs hk;rw[k5];exact zK k3 k1 k6 (λb i=>by omega)
   ·cases hk
  ·cases hk
 ·rename_i r p snap lo hi hv;rw[hv] at hs;split at hk
  ·split at hk
   ·obtain ⟨A',σ',F',m,v,cs,Fv,k1,k2,k3,k4,kr,k5,k6⟩:=tI h hs hk;rw[k5];exact zK k3 k1 k6 (λb i=>by omega)
   ·cases hk
  ·cases hk
 ·rename_i r p snap hv;rw[hv] at hs;split at hk
  ·rename_i t m H v hg;split at hk
   ·rename_i hc;simp only[aE,cM] at hc;split at hk
    ·rename_i i hd
     have hr:r < σ.n:=by
      rcases bZ r σ.n with hi | hi
      ·exact hi
      ·rw[lQ (dN.2 hi)] at hg;cases hg
     have oo:=h.g_ r hr;rw[hg] at oo;obtain ⟨b,off,L,F1,s1,s2,s3,s4,s5,s6⟩:=oo;obtain ⟨pl,b',o',g1,g2,g3,g4⟩:=hs.2 hc.1.1
     have ir:place σ a w r []=some ⟨t,H,rd w b off t.sz,some (b,off)⟩:=by
      unfold place;rw[hg,s1];rfl
     rw[ir] at g1;injection g1 with g1;subst g1;simp only[aP,bS] at g2;obtain ⟨rfl,rfl⟩:=g2;have h1:=h.put hr (s:=.dead) (v:=tmp a r) (Fd:=λ_ _=>0) (X':=F r) trivial (λb k=>by omega) (λ_ _ _ _ e=>by cases e);rw[rf] at h1;obtain ⟨bw,w1,w2⟩:=h.whole r t m H v hg (GF hc.2);rw[s1] at w1;injection w1 with w1;injection w1 with w1;injection w1 with w1 w3;subst w1;have:=pv (K:=K) (x:=x) (d:=some i) h1 hk (v:=a.eval y) (s:=.box t m H v) (Fd:=F r) ⟨b,off,L,F1,g3,s2,s3,s4,s5,s6⟩ (λb i=>aN _) (λt' m' H' v' e=>by injection e with e1;subst e1;exact ⟨b,by rw[g3,w3],w2⟩);rw[hd];exact this
    ·cases hk
   ·exact cj h hk hs (λ_ _ _ _ e=>by cases e)
  ·exact cj h hk hs (λ_ _ _ _ e=>by cases e)
 ·exact cj h hk hs (λt m H v e=>I4 σ _ t m H v e)
theorem EX {α:Type} (v y:List α) {lo n:Nat} (h:lo+n<=v.length) (hy:n<=y.length):(sg v lo n y).length=v.length:=by
 simp only[sg,aR,bP,bI];omega
theorem TY {α:Type} (v y:List α) {lo n:Nat} (h:lo+n<=v.length) (hy:n<=y.length) (i:Nat):(sg v lo n y)[i]?=if lo<=i/\i < lo+n then y[i - lo]? else v[i]?:=by
 unfold sg;by_cases h1:i < lo
 ·rw[bB (by omega),bK,bW (by simp;omega),eW h1]
 ·by_cases h2:i < lo+n
  ·rw[aV (by omega),bK,bV (by simp;omega),bW (by simp;omega)];have:(v.take lo).length=lo:=by simp;omega
   rw[this,eW (by omega)]
  ·rw[bB (by omega),bV (by simp;omega),bL];have:(v.take lo++y.take n).length=lo+n:=by simp;omega
   rw[this];congr 1;omega
theorem I_ (h:dt P C A σ a w F) {r:Nat} {p:Path} {e:Ty} {m:Md} {v y:List e.den} {news:List Value} {Gi:Nat->FP} {me:Md} {lo n:Nat} {K:St->Option R} (ue:At σ r p (.U e) m [] v) (fa:m.own=true) (hf:e.flat=true) (hn:lo+n<=List.length v) (hy:n<=List.length y)
  (hl:news.length=List.length y*e.sz) (mN:∀ u ∈ news,u.oneCell'=true) (pH:∀ (i:Nat) (z:e.den),y[i]?=some z->ap P w A e me [] z ((news.drop (i*e.sz)).take e.sz) (Gi i))
  (hk:vj σ r p (.U e) m (sg v lo n y) (λσ'=>K { σ' with vr:=(σ.lP r ww).vr,az:=σ.az })=some x) :
  ∃ (xa:Option Addr) (cap:Nat) (ad:Option (Nat×Nat)) (w2:World) (A3:Cells) (σ':St) (F3:Nat->FP),place σ a w r p=some ⟨.U e,[],[.slice xa (List.length v) cap],ad⟩/\K σ'=some x/\dt P C A3 σ' a w2 F3 /\
   (xa=none->w2=w/\List.length v=0)/\∀ ad,xa=some ad->ad.off=0/\ad.spot=none/\(n=0->w2=w)/\(storeCells ⟨ad.block,lo*e.sz,none⟩ (news.take (n*e.sz))).run P w=.ok () w2:=by
 obtain ⟨hr,m2,H2,v2,cz,wI,F2,q1,q2,q3,q4,q5,q6⟩:=Bz h hk;obtain ⟨_,e2,e3,e4⟩:=ue.inj q1;subst e2;subst e3;have e4:=iD e4;subst e4;have e_:=q3;simp only[ap,hole,bU,aF,aL,fa,aI] at q3;obtain ⟨xa,cap,rfl,c1,c2,c3,c4⟩:=q3;have zF:=EX v y hn hy;have yL:∀ b i,F r b i<=1:=λb i=>by have:=h.o5 b i;have:=cy F hr b i;omega
 have fin:∀ (w2:World),Ext w w2 (λb i=>0+(F2 b i+jd wI (Ty.U e).sz b i))->(∀ b o,wI=some (b,o)->Has w2 b o [.slice xa (List.length v) cap])->ap P w2 A (.U e) m [] (sg v lo n y) [.slice xa (List.length v) cap] F2 ->
   (∀ (i:Nat) (z:e.den),(sg v lo n y)[i]?=some z->∀ ad,xa=some ad->∃ L,L.length=e.sz/\Has w2 ad.block (ad.off+i*e.sz) L/\ap P w2 A e .leaf [] z L (λ_ _=>0)) ->
   ∃ (A3:Cells) (σ':St) (F3:Nat->FP),K σ'=some x/\dt P C A3 σ' a w2 F3:=by
  intro w2 g1 g2 g3 g4;obtain ⟨A3,yN,Fr,n1,n2,n3,n4,n5⟩:=q6 w2 A _ F2 (λ_ _=>0) g1 (λ_ _ h=>h) (λ_ _ h=>.inl h) (λb i=>by omega) g2 (λ_=>rfl) g3;refine ⟨A3,_,_,n1,n5 ww (xI (h.mf r)) (Dy (h.mf r)) rfl λp' snap hb bc hlen=>?_⟩
  have h5:=FB (h.mf r) hb bc;refine ⟨dj p'+1,False,by omega,λ_=>.inl (by omega),λ_=>by omega,?_⟩
  intro q pl hq hp
  cases q with
  | nil=>
   simp only[bk,aP] at hp;subst hp;exact ⟨_,_,rfl,λ_=>rfl⟩
  | cons s q=>
   cases s with
   | idx i=>
    cases xa with
    | none=>simp[bk,hole] at hp
    | some ad=>
     simp only[bk,hole,bU,aF,aL,eQ] at hp ⊢;split at hp
     ·rename_i hi;rw[aV hi];have lg:i < (sg v lo n y).length:=by rw[zF];exact hi
      obtain ⟨L,l1,l2,l3⟩:=g4 i _ (aB lg) ad rfl;rw[dx l2 l1];obtain ⟨H',br,h1,h2⟩:=As (A:=A) (m:=.leaf) (v:=(sg v lo n y)[i]) (F:=λ_ _=>0) q e l3 (.inr hf) hp;exact ⟨H',br,h1,λh=>by rcases h with ⟨_,hs⟩ | h;rw[h2 hf] at hs;cases hs;exact h.elim⟩
     ·cases hp
   | _=>simp[bk] at hp
 cases xa with
 | none=>
  have h0:=c3 rfl;have Oq:List.length v=0:=by omega
  have RU:sg v lo n y=v:=by
   have:n=0:=by omega
   subst this;have hv:v=[]:=bH Oq;subst hv;simp[sg]
  obtain ⟨A3,yN,F3,n1,n2⟩:=fin w (Ext.refl _ _) (λb o e=>(q5 b o e).1) (by rw[RU];exact e_) (λi z hz ad e=>by cases e);exact ⟨none,cap,wI,w,A3,yN,F3,q2,n1,n2,λ_=>⟨rfl,Oq⟩,λad e=>by cases e⟩
 | some ad=>
  obtain ⟨d1,d2,d3,Fi,d4,d5⟩:=c4 ad rfl;obtain ⟨b,off,sp⟩:=ad;simp only at d1 d2 d3 d4 d5;subst d1;subst d2;have hle:lo*e.sz+n*e.sz<=cap*e.sz:=by rw[<-cI];exact bD _ (by omega)
  have C8:(news.take (n*e.sz)).length=n*e.sz:=by
   rw[bP,hl,fF];exact bD _ hy
  have mR:∀ j,j < cap*e.sz->(w.cell? ⟨b,j,none⟩).isSome=true:=λj hj=>by
   obtain ⟨c,e',fr,w1,w2,w3⟩:=d3;unfold World.cell?;simp only[w1,eP,aF,aL];rw[cN (by omega)];rfl
  have cu:=run_storeCells_cells (P:=P) b (lo*e.sz) (news.take (n*e.sz)) 0 w (λj hj=>by rw[dG];exact mR _ (by omega)) (λj hj=>by rw[dG];exact d3.frozen (by omega)) (λu hu=>mN u (eA hu));rw[dG] at cu;have dr:=li (b:=b) (o:=lo*e.sz) (news.take (n*e.sz)) w (lo*e.sz);rw[C8] at dr
  have yu:∀ b' i,b_ b (lo*e.sz) (n*e.sz) b' i<=b_ b 0 (cap*e.sz) b' i:=λb' i=>by
   simp only[b_];split
   ·rw[aV (by omega)];exact aN _
   ·exact aY _
  have hA:∀ b' i,A b' i->∀ u,ce w b' i=some u->ce (w.setCells b (lo*e.sz) (news.take (n*e.sz))) b' i=some u:=λb' i ha u hu=>by
   refine dr.cell b' i (h.kP b' i (.inr ha)) ?_ u hu;rcases bF (b_ b (lo*e.sz) (n*e.sz) b' i) with h0 | h0
   ·exact h0
   ·exact absurd ha (h.pW b' i (by have:=yu b' i;have:=d4 b' i;have:=q4 b' i;have:=cy F hr b' i;omega))
  have PC:∀ (i:Nat) (z:e.den),(sg v lo n y)[i]?=some z->∃ L,L.length=e.sz/\Has (w.setCells b (lo*e.sz) (news.take (n*e.sz))) b (i*e.sz) L/\Ro P (w.setCells b (lo*e.sz) (news.take (n*e.sz))) A e z L:=by
   intro i z hz;rw[TY v y hn hy] at hz;split at hz
   ·rename_i hi;have un:=ap.flat _ hf (pH _ z hz);refine ⟨_,Ro.length _ un,λj u hu=>?_,Ro.mono hA (λ_ _ h=>h) e un⟩
    rw[bJ] at hu;split at hu
    ·rename_i hj;rw[bL] at hu;have h6:(i - lo)*e.sz+e.sz<=n*e.sz:=by rw[<-fB];exact bD _ (by omega)
     have:=oI (w:=w) (b:=b) (o:=lo*e.sz) (L:=news.take (n*e.sz)) (λk hk=>mR _ (by omega)) (λu hu=>mN u (eA hu)) ((i - lo)*e.sz+j) u (by rw[eW (by omega)];exact hu);rw[<-this];have h7:i*e.sz=lo*e.sz+(i - lo)*e.sz:=by rw[<-cI];congr 1;omega
     congr 1;omega
    ·cases hu
   ·rename_i hi;obtain ⟨L,l1,l2,l3⟩:=d5 i z hz;have un:=ap.flat _ hf l3;refine ⟨L,l1,λj u hu=>?_,Ro.mono hA (λ_ _ h=>h) e un⟩
    refine dr.cell b _ (by obtain ⟨c,e',fr,w1,_⟩:=d3;exact (bQ.1 w1).1) ?_ u (l2 j u hu);have hj:=(aM.1 hu).1;simp only[b_];rw[bB];rintro ⟨_,h8,h9⟩;rcases bZ i lo with V5 | V5
    ·have h6:i*e.sz+e.sz<=lo*e.sz:=by rw[<-fB];exact bD _ (by omega)
     omega
    ·have h6:lo*e.sz+n*e.sz<=i*e.sz:=by rw[<-cI];exact bD _ (by omega)
     omega
  have EB:ap P (w.setCells b (lo*e.sz) (news.take (n*e.sz))) A (.U e) m [] (sg v lo n y) [.slice (some ⟨b,0,none⟩) (List.length v) cap] F2:=by
   simp only[ap,hole,bU,aF,aL,fa,aI];refine ⟨some ⟨b,0,none⟩,cap,by rw[zF],by omega,c2,(λe=>by cases e),λcr e'=>?_⟩
   injection e' with e';subst e';refine ⟨rfl,rfl,dr.ub _ _ d3,λ_ _ _=>0,λb' i=>by rw[mK];have h9:=d4 b' i;show b_ b 0 (cap*e.sz) b' i+0<=F2 b' i;omega,λi z hz=>?_⟩
   obtain ⟨L,l1,l2,l3⟩:=PC i z hz;exact ⟨L,l1,l2,Ro.flat _ _ hf l3⟩
  have yy:∀ b' o',wI=some (b',o')->Has (w.setCells b (lo*e.sz) (news.take (n*e.sz))) b' o' [.slice (some ⟨b,0,none⟩) (List.length v) cap]:=λb' o' ea j u hu=>by
   have h1:=(q5 b' o' ea).1 j u hu;have hj:=(aM.1 hu).1;have h2:=q4 b' (o'+j);have h3:=d4 b' (o'+j);have h4:=yu b' (o'+j);have h5:=yL b' (o'+j);have h7:=cy F hr b' (o'+j)
   have h6:jd wI (Ty.U e).sz b' (o'+j)=1:=by
    subst ea;have Ym:j=0:=by simpa using hj
    subst Ym;simp[jd,b_,Ty.sz]
   exact dr.cell _ _ (h.kP b' (o'+j) (.inl (by show 1<=0+_;omega))) (by omega) u h1
  obtain ⟨A3,yN,F3,n1,n2⟩:=fin _ (dr.mono λb' i hz=>by
    have hz:0+(F2 b' i+jd wI (Ty.U e).sz b' i)=0:=hz
    have h2:=yu b' i;have h3:=d4 b' i;omega) yy EB (λi z hz ad e=>by
    injection e with e;subst e;obtain ⟨L,l1,l2,l3⟩:=PC i z hz
    exact ⟨L,l1,by simpa using l2,Ro.flat _ _ hf l3⟩)
  refine ⟨_,cap,wI,_,A3,yN,F3,q2,n1,n2,(λe=>by cases e),λcr e'=>?_⟩
  injection e' with e';subst e';refine ⟨rfl,rfl,λzQ=>?_,cu⟩
  subst zQ;simp[World.setCells]
theorem RV (h:dt P C A σ a w F) (kq:∀ i T,E.TI i=some T->be P T (.inl i)=true) {t tx:Nat} {y z:Operand} (ho:o.op=.call { callee:=.builtin .copy,args:=#[y,z],argTypes:=#[t,tx] }) (bc:dm P y=true/\dm P z=true)
  (Ay:(∃ e',P.underlying tx=some (.slice e'))\/P.underlying tx=some .string) {K:St->Option R} (hk:O9 E σ t y (dq σ z) o.dst K=some x):o.wp P a w (Nx P C K x) Q:=by
 unfold O9 at hk;obtain ⟨T,hT,hk⟩:=fu hk;have gj:=kq _ _ hT;split at hk
 ·rename_i e;have hl:=gj;simp only[be,aE] at hl;have h2:=hl.2;split at h2;rotate_left
  ·cases h2
  rename_i el hu;simp only[aE,dU] at h2;obtain ⟨ko,pH⟩:=h2;have Yn:=run_sizeOf (P:=P) (w:=w) pH;split at hk;rotate_left
  ·cases hk
  rename_i hf
  rcases eu h bc.2 with ud | ⟨xs,e'⟩
  rotate_left
  ·rw[e'] at hk;simp[Aq,mV] at hk
  obtain ⟨A2,kW,F2,me,yv,news,Fw,Gi,q1,q2,q3,qr,q4,q4',q5,q6⟩:=Im h ud Ay hk;have h2:dt P C A2 kW a w F2:=q3.less λ_ _=>aY _
  have run:∀ (xa:Option Addr) (n cap:Nat) (w2:World),a.eval y=.slice xa n cap->(match (generalizing:=false) xa with | none=>w2=w | some ad=>(storeCells ad (news.take (min (List.length yv) n*e.sz))).run P w=.ok () w2) ->
    (execOp a.eval o).run P w=.ok (.value (.int .i64 ((min (List.length yv) n:Nat):Int))) w2:=by
   intro xa n cap w2 hy cu;have V6:=q4' (min (List.length yv) n) (jT _ _)
   cases xa with
   | none=>
    simp only at cu;subst cu;simp[execOp,ho,resolve,invoke,builtin,Builtin.copy_,hy,run_underlying hu,q4.len,Yn,iU] at V6 ⊢;simp[V6,goInt]
   | some ad=>
    simp only at cu;simp[execOp,ho,resolve,invoke,builtin,Builtin.copy_,hy,run_underlying hu,q4.len,Yn,iU] at V6 cu ⊢;simp[V6,cu,goInt]
  rcases eu h2 bc.1 with hs | ⟨xs,e'⟩
  rotate_left
  ·rw[e'] at q1;cases q1
  split at q1
  ·rename_i r p snap lo hi hv;rw[hv] at hs;split at q1
   ·rename_i ou;obtain ⟨hr,t',m',H',v',br,cr,F',h1,ue,h3,h4,h5,h6⟩:=lK h2 q1;split at h1
    ·rename_i hc;simp only[aE,bN] at hc;obtain ⟨fa,hH⟩:=hc;subst hH;obtain ⟨e1,h1⟩:=ct h1;subst e1;obtain ⟨pl,e2,xa,n,cap,vh,cap',g1,g2,g3,g4,g5,g6,g7,g8,g9,g10,g11⟩:=hs.2 ou
     have hvn:n=List.length v':=by
      rw[g1] at h3;injection h3 with h3;subst h3;simp only at g3;subst g3;simp only[ap,hole,bU,aF,aL,fa,aI] at h4;obtain ⟨_,_,h4,_⟩:=h4;injection h4 with h4;injection h4
     obtain ⟨xb,B7,wI,w2,A3,yN,F3,c1,c2,c3,c4,c5⟩:=I_ h2 (K:=λσ'=>K (σ'.b9 o.dst (.val (.int .i64) ((min (List.length yv) (hi - lo):Nat):Int)))) ⟨ue⟩ fa hf (lo:=lo) (n:=min (List.length yv) (hi - lo)) (by omega) (jT _ _) q4.newsLen q4.one q5 h1;rw[c1] at g1;injection g1 with g1;subst g1;simp only[cV,Value.slice.injEq,eE] at g3;obtain ⟨rfl,g3,rfl⟩:=g3;injection g2 with g2;subst g2;refine ot (run vh (hi - lo) cap' w2 g6 ?_) (cj c3 c2 ⟨[.int .i64 _],rfl,rfl⟩ (λ_ _ _ _ e=>by cases e))
     cases xb with
     | none=>rw[g9 rfl];exact (c4 rfl).1
     | some ad=>
      obtain ⟨Yo,k1,k2,k3,k4⟩:=g10 ad rfl;rw[k1];obtain ⟨j1,j2,j3,j4⟩:=c5 ad rfl;simp only;by_cases am:lo < hi
      ·have:Yo=⟨ad.block,lo*e.sz,none⟩:=by
        have h1:=k4 am;obtain ⟨x1,x2,x3⟩:=Yo;simp only at k2 k3 h1;rw[k3,k2,j2,h1,j1,bE]
       rw[this];exact j4
      ·have zQ:min (List.length yv) (hi - lo)=0:=by omega
       rw[zQ,gJ,jH];rw[j3 zQ];rfl
    ·cases h1
   ·cases q1
  ·rename_i r p snap hv;rw[hv] at hs;split at q1
   ·rename_i ou;obtain ⟨hr,t',m',H',v',br,cr,F',h1,ue,h3,h4,h5,h6⟩:=lK h2 q1;split at h1
    ·rename_i hc;simp only[aE,bN] at hc;obtain ⟨fa,hH⟩:=hc;subst hH;obtain ⟨e1,h1⟩:=ct h1;subst e1;obtain ⟨pl,g1,g2,g3⟩:=hs.2 ou;obtain ⟨xb,B7,wI,w2,A3,yN,F3,c1,c2,c3,c4,c5⟩:=I_ h2 (K:=λσ'=>K (σ'.b9 o.dst (.val (.int .i64) ((min (List.length yv) (List.length v'):Nat):Int)))) ⟨ue⟩ fa hf (lo:=0) (n:=min (List.length yv) (List.length v')) (by omega) (jT _ _) q4.newsLen q4.one q5 h1;rw[c1] at g1;injection g1 with g1;subst g1;simp only[db (.U e) _ rfl] at g2;refine ot (run xb (List.length v') B7 w2 g2 ?_) (cj c3 c2 ⟨[.int .i64 _],rfl,rfl⟩ (λ_ _ _ _ e=>by cases e))
     cases xb with
     | none=>exact (c4 rfl).1
     | some ad=>
      obtain ⟨j1,j2,j3,j4⟩:=c5 ad rfl;obtain ⟨b,off,sp⟩:=ad;simp only at j1 j2 j4 ⊢;subst j1;subst j2
      simpa using j4
    ·cases h1
   ·cases q1
  ·cases q1
 ·cases hk
end
end OT
namespace OT
open Go
def kZ (w:World):(t:Ty)->Md->List Path->List Value->FP
 | .pair a b,m,H,cs=>λx i=>kZ w a m.l (H.filterMap vp) (cs.take a.sz) x i+kZ w b m.r (H.filterMap vq) (cs.drop a.sz) x i
 | .U e,m,H,cs=>
  if hole H then λ_ _=>0 else if m.own then
   match cs with
   | [.slice (some ad) n cap]=>λx i=>b_ ad.block 0 (cap*e.sz) x i+a_ n (λj=>kZ w e m.e (H.filterMap (ld j)) (rd w ad.block (j*e.sz) e.sz)) x i
   | _=>λ_ _=>0
  else λ_ _=>0
 | .ptr e,m,H,cs=>
  if hole H then λ_ _=>0 else if m.own then
   match cs with
   | [.pointer (some ad)]=>λx i=>b_ ad.block 0 e.sz x i+kZ w e m.e [] (rd w ad.block 0 e.sz) x i
   | _=>λ_ _=>0
  else λ_ _=>0
 | .map _ _,m,H,cs=>
  if hole H then λ_ _=>0 else if m.own then
   match cs with
   | [.map (some r)]=>b_ r 0 1
   | _=>λ_ _=>0
  else λ_ _=>0
 | _,_,_,_=>λ_ _=>0
section
variable {P:Program} {w w1:World} {A:Cells}
theorem ap.fp:∀ (t:Ty) {m:Md} {H:List Path} {v:t.den} {cs:List Value} {F:FP},ap P w A t m H v cs F->ap P w A t m H v cs (kZ w t m H cs)/\∀ b i,kZ w t m H cs b i<=F b i:=by
 intro t
 induction t with
 | pair a b kO kD=>
  intro m H v cs F h;obtain ⟨h0,F1,F2,hs,h1,h2⟩:=h;obtain ⟨a1,a2⟩:=kO h1;obtain ⟨b1,b2⟩:=kD h2;exact ⟨⟨h0,_,_,λ_ _=>aN _,a1,b1⟩,λb i=>by have:=a2 b i;have:=b2 b i;have:=hs b i;simp only[kZ];omega⟩
 | U e ih=>
  intro m H v cs F h;have h':=h;simp only[ap] at h;split at h
  ·rename_i hh;exact ⟨by simp only[ap,hh,aI];exact h,λb i=>by simp only[kZ,hh,aI];exact aY _⟩
  ·rename_i hh;split at h
   ·rename_i hm;obtain ⟨xa,cap,rfl,h1,h2,h3,h4⟩:=h
    cases xa with
    | none=>
     refine ⟨?_,λb i=>by simp only[kZ,hh,hm,aI,aF,aL];exact aY _⟩
     simp only[ap,hh,hm,aI,aF,aL];exact ⟨none,cap,rfl,h1,h2,h3,λad e=>by cases e⟩
    | some ad=>
     obtain ⟨g1,g2,g3,Fi,g4,g5⟩:=h4 ad rfl
     have each:∀ (i:Nat) (x:e.den),v[i]?=some x->∃ L:List Value,L.length=e.sz/\Has w ad.block (i*e.sz) L/\ap P w A e m.e (H.filterMap (ld i)) x L (kZ w e m.e (H.filterMap (ld i)) (rd w ad.block (i*e.sz) e.sz)) /\
       ∀ b k,kZ w e m.e (H.filterMap (ld i)) (rd w ad.block (i*e.sz) e.sz) b k<=Fi i b k:=λi x hx=>by
      obtain ⟨L,l1,l2,l3⟩:=g5 i x hx;obtain ⟨q1,q2⟩:=ih l3;rw[dx l2 l1];exact ⟨L,l1,l2,q1,q2⟩
     have hle:∀ b i,a_ (List.length v) (λj=>kZ w e m.e (H.filterMap (ld j)) (rd w ad.block (j*e.sz) e.sz)) b i<=a_ (List.length v) Fi b i:=λb i=>Id b i λj hj=>by
      obtain ⟨_,_,_,_,q⟩:=each j _ (aB hj);exact q b i
     refine ⟨?_,λb i=>by simp only[kZ,hh,hm,aI,aF,aL];have:=hle b i;have:=g4 b i;omega⟩
     simp only[ap,hh,hm,aI,aF,aL];refine ⟨some ad,cap,rfl,h1,h2,h3,λcr e'=>?_⟩
     injection e' with e';subst e';refine ⟨g1,g2,g3,λj=>kZ w e m.e (H.filterMap (ld j)) (rd w ad.block (j*e.sz) e.sz),λb i=>by simp only[kZ,hh,hm,aI,aF,aL];exact aN _,λi x hx=>?_⟩
     obtain ⟨L,l1,l2,l3,_⟩:=each i x hx;exact ⟨L,l1,l2,l3⟩
   ·rename_i hm;exact ⟨by simp only[ap,hh,hm,aF,aL];exact h,λb i=>by simp only[kZ,hh,hm,aF,aL];exact aY _⟩
 | ptr e ih=>
  intro m H v cs F h;simp only[ap] at h;split at h
  ·rename_i hh;exact ⟨by simp only[ap,hh,aI];exact h,λb i=>by simp only[kZ,hh,aI];exact aY _⟩
  ·rename_i hh;split at h
   ·rename_i hm;obtain ⟨b0,rfl,h1,L,F1,h2,h3,h4,h5⟩:=h;obtain ⟨q1,q2⟩:=ih h5;refine ⟨?_,λb i=>by simp only[kZ,hh,hm,aI,aF,aL,dx h3 h2];have:=q2 b i;have:=h4 b i;omega⟩
    simp only[ap,hh,hm,aI,aF,aL];exact ⟨b0,rfl,h1,L,_,h2,h3,λb i=>by simp only[kZ,hh,hm,aI,aF,aL,dx h3 h2];exact aN _,q1⟩
   ·rename_i hm;exact ⟨by simp only[ap,hh,hm,aF,aL];exact h,λb i=>by simp only[kZ,hh,hm,aF,aL];exact aY _⟩
 | arr n e ih=>intro m H v cs F h;exact ⟨h,λ_ _=>aY _⟩
 | map k v=>
  intro m H x cs F h;simp only[ap] at h;split at h
  ·rename_i hh;exact ⟨by simp only[ap,hh,aI];exact h,λb i=>by simp only[kZ,hh,aI];exact aY _⟩
  ·rename_i hh;split at h
   ·rename_i hm;obtain ⟨h1,h2,r,qJ,rfl,h4,h5,h6,h7⟩:=h;refine ⟨?_,λb i=>?_⟩
    ·simp only[ap,hh,hm,aI,aF,aL];exact ⟨h1,h2,r,qJ,rfl,h4,by simp[kZ,hh,hm,b_],h6,h7⟩
    ·simp only[kZ,hh,hm,aI,aF,aL,b_];split
     ·rename_i hc;obtain ⟨rfl,AA,we⟩:=hc;have:i=0:=by omega
      subst this;exact h5
     ·exact aY _
   ·rename_i hm;exact ⟨by simp only[ap,hh,hm,aF,aL];exact h,λb i=>by simp only[kZ,hh,hm,aF,aL];exact aY _⟩
 | _=>intro m H v cs F h;exact ⟨h,λ_ _=>aY _⟩
theorem PD:∀ (t:Ty) {m:Md} {H:List Path} {v:t.den} {cs:List Value} {F:FP},ap P w A t m H v cs F->(∀ b i,1<=F b i->∀ u,ce w b i=some u->ce w1 b i=some u)->kZ w1 t m H cs=kZ w t m H cs:=by
 intro t
 induction t with
 | pair a b kO kD=>
  intro m H v cs F h hF;obtain ⟨h0,F1,F2,hs,h1,h2⟩:=h;have e1:=kO h1 (λb i hp=>hF b i (by have:=hs b i;omega));have e2:=kD h2 (λb i hp=>hF b i (by have:=hs b i;omega));simp only[kZ,e1,e2]
 | U e ih=>
  intro m H v cs F h hF;simp only[ap] at h;split at h
  ·rename_i hh;simp only[kZ,hh,aI]
  ·rename_i hh;split at h
   ·rename_i hm;obtain ⟨xa,cap,rfl,h1,h2,h3,h4⟩:=h
    cases xa with
    | none=>simp only[kZ]
    | some ad=>
     obtain ⟨g1,g2,g3,Fi,g4,g5⟩:=h4 ad rfl;simp only[kZ,hh,hm,aI,aF,aL];funext b i;congr 1;refine iI (iI (qv λj hj=>?_) b) i;obtain ⟨L,l1,l2,l3⟩:=g5 j _ (aB hj);have hle:j*e.sz+e.sz<=cap*e.sz:=by rw[<-fB];exact bD _ (by omega)
     have l2':Has w1 ad.block (j*e.sz) L:=λk u hu=>hF _ _ (by
      have hk:=(aM.1 hu).1;have:=g4 ad.block (j*e.sz+k);have h9:b_ ad.block 0 (cap*e.sz) ad.block (j*e.sz+k)=1:=by simp only[b_];rw[aV ⟨trivial,by omega,by omega⟩]
      omega) u (l2 k u hu)
     rw[dx l2' l1,dx l2 l1];exact ih l3 (λb i hp=>hF b i (by have:=g4 b i;have:=cy Fi hj b i;omega))
   ·rename_i hm;simp only[kZ,hh,hm,aF,aL]
 | ptr e ih=>
  intro m H v cs F h hF;simp only[ap] at h;split at h
  ·rename_i hh;simp only[kZ,hh,aI]
  ·rename_i hh;split at h
   ·rename_i hm;obtain ⟨b0,rfl,h1,L,F1,h2,h3,h4,h5⟩:=h
    have K4:Has w1 b0 0 L:=λk u hu=>hF _ _ (by
     have hk:=(aM.1 hu).1;have:=h4 b0 (0+k);have h9:b_ b0 0 e.sz b0 (0+k)=1:=by simp only[b_];rw[aV ⟨trivial,by omega,by omega⟩]
     omega) u (h3 k u hu)
    simp only[kZ,hh,hm,aI,aF,aL,dx h3 h2,dx K4 h2];rw[ih h5 (λb i hp=>hF b i (by have:=h4 b i;omega))]
   ·rename_i hm;simp only[kZ,hh,hm,aF,aL]
 | _=>intro m H v cs F h hF;rfl
theorem ap.indep {A':Cells}:∀ (t:Ty) {v:t.den} {cs:List Value} {F:FP},t.rC=true->ap P w A t (an t) [] v cs F->ap P w A' t (an t) [] v cs F:=by
 intro t
 induction t with
 | pair a b kO kD=>
  intro v cs F hn h;simp only[Ty.rC,aE] at hn;obtain ⟨h0,F1,F2,hs,h1,h2⟩:=h;exact ⟨h0,F1,F2,hs,kO hn.1 h1,kD hn.2 h2⟩
 | U e ih=>
  intro v cs F hn h;simp only[ap,hole,bU,aF,aL,an,sW,Md.own,aI] at h ⊢;obtain ⟨xa,cap,h1,h2,h3,h4,h5⟩:=h;refine ⟨xa,cap,h1,h2,h3,h4,λad e'=>?_⟩
  obtain ⟨g1,g2,g3,Fi,g4,g5⟩:=h5 ad e';refine ⟨g1,g2,g3,Fi,g4,λi x hx=>?_⟩
  obtain ⟨L,l1,l2,l3⟩:=g5 i x hx;exact ⟨L,l1,l2,ih hn l3⟩
 | ptr e ih=>
  intro v cs F hn h;simp only[ap,hole,bU,aF,aL,an,sW,Md.own,aI] at h ⊢;obtain ⟨b,h1,h2,L,F1,h3,h4,h5,h6⟩:=h;exact ⟨b,h1,h2,L,F1,h3,h4,h5,ih hn h6⟩
 | arr n e ih=>
  intro v cs F hn h;exact ⟨h.1,Ro.indep _ (by have:=h.2.1;simpa [Ty.flat] using this) hn h.2⟩
 | fn=>intro v cs F hn;simp[Ty.rC] at hn
 | map k v=>
  intro x cs F hn h;simp only[Ty.rC,aE] at hn;simp only[ap,hole,bU,aF,aL,an,sW,Md.own,aI] at h ⊢;obtain ⟨h1,h2,r,qJ,h3,h4,h5,h6,h7⟩:=h;refine ⟨h1,h2,r,qJ,h3,h4,h5,h6,λi y hy=>?_⟩
  obtain ⟨kc,vc,g1,g2,g3⟩:=h7 i y hy;exact ⟨kc,vc,g1,Ro.indep k h1 hn.1 g2,Ro.indep v h2 hn.2 g3⟩
 | _=>intro v cs F hn h;exact h
theorem ap.free {A':Cells} {t:Ty} {m:Md} {v:t.den} {cs:List Value} {F:FP} (ho:(t.flat||decide (m=an t))=true) (hn:t.rC=true) (h:ap P w A t m [] v cs F):ap P w A' t m [] v cs F:=by
 simp only[cY,bM] at ho;rcases ho with ho | ho
 ·exact Ro.flat t F ho (Ro.indep t ho hn (ap.flat t ho h))
 ·subst ho;exact ap.indep t hn h
def World.news (w w2:World):World:={ w2 with heap:=(w.heap.toList++w2.heap.toList.drop w.heap.size).toArray }
theorem Ja {w2:World} (h:w.heap.size<=w2.heap.size) (k:Nat):(World.news w w2).heap[k]?=if k < w.heap.size then w.heap[k]? else w2.heap[k]?:=by
 simp only[World.news,gQ];by_cases hk:k < w.heap.size
 ·rw[aV hk,bW (by simpa using hk),dD]
 ·rw[bB hk,bV (by simp;omega),bL,dD];congr 1;simp;omega
theorem ye {w2:World} (h:w.heap.size<=w2.heap.size):(World.news w w2).heap.size=w2.heap.size:=by simp[World.news];omega
theorem uA {w2:World} (h:w.heap.size<=w2.heap.size) {b:Nat} (hb:b < w.heap.size):(World.news w w2).heap[b]?=w.heap[b]?:=by rw[Ja h,aV hb]
theorem B9 {w2:World} (h:w.heap.size<=w2.heap.size) {b:Nat} (hb:w.heap.size<=b):(World.news w w2).heap[b]?=w2.heap[b]?:=by rw[Ja h,bB (by omega)]
theorem Ba {w2:World} {b:Nat} (h:w2.heap[b]?=w.heap[b]?) (i:Nat):ce w2 b i=ce w b i:=xr h i
theorem xL {w2:World} {b:Nat} (h:w2.heap[b]?=w.heap[b]?) (i:Nat):w2.frozen? ⟨b,i,none⟩=w.frozen? ⟨b,i,none⟩:=by simp[World.frozen?,h]
theorem wK {w2:World} {b:Nat} (h:w2.heap[b]?=w.heap[b]?) (n:Nat×Bool):ge w b n↔ge w2 b n:=by unfold ge;rw[h]
theorem ge.lt {b:Nat} {n:Nat×Bool} (h:ge w b n):b < w.heap.size:=by
 obtain ⟨c,e,fr,h1,_⟩:=h;exact (bQ.1 h1).1
theorem FJ {w2:World} {F:FP} (h:Ext w w2 F):Ext w (World.news w w2) (λ_ _=>0)/\Ext (World.news w w2) w2 F:=by
 have hs:=h.size
 refine ⟨⟨by rw[ye hs];exact hs,λb i hb _ u hu=>by rw[Ba (uA hs hb)];exact hu,λb n hn=>(wK (uA hs hn.lt) n).1 hn,λb i hb=>xL (uA hs hb) i,h.os,h.tape,h.output,λb hb _=>uA hs hb,h.drawn⟩,
  ⟨by rw[ye hs];exact aN _,λb i hb hz u hu=>?_,λb n hn=>?_,λb i hb=>?_,rfl,rfl,rfl,λb hb hz=>?_,aN _⟩⟩
 ·by_cases qh:b < w.heap.size
  ·rw[Ba (uA hs qh)] at hu;exact h.cell b i qh hz u hu
  ·rw[Ba (w:=w2) (B9 hs (fH qh))] at hu;exact hu
 ·by_cases qh:b < w.heap.size
  ·exact h.ub b n ((wK (uA hs qh) n).2 hn)
  ·exact (wK (w:=w2) (B9 hs (fH qh)) n).2 hn
 ·by_cases qh:b < w.heap.size
  ·rw[xL (uA hs qh)];exact h.yw b i qh
  ·exact (xL (w:=w2) (B9 hs (fH qh)) i).symm
 ·by_cases qh:b < w.heap.size
  ·rw[uA hs qh];exact h.obj b qh hz
  ·exact (B9 hs (fH qh)).symm
end
def ArgRel (P:Program) (w:World) (A:Cells) (ho:List Path->Bool) (pm:PM) (t:Ty) (v:t.den) (x:Value) (F:FP):Prop:=
 match pm with
 | .ro=>∃ cs,x=ci t cs/\Ro P w A t v cs
 | .fix f=>(∃ cs,x=ci t cs/\Ro P w A t v cs)/\∀ e:t=.fn,(e ▸ v:Ty.fn.den).1=f
 | .pt m _=>∃ b o L F1,x=.pointer (some ⟨b,o,none⟩)/\L.length=t.sz/\Has w b o L/\(∀ j,j < t.sz->w.frozen? ⟨b,o+j,none⟩=false)/\(∀ b' i,b_ b o t.sz b' i+F1 b' i<=F b' i)/\ap P w A t m [] v L F1
 | .kY m=>∃ cs,x=ci t cs/\ap P w A t m [] v cs F
 | .nc m=>∃ H cs,ho H=true/\x=ci t cs/\ap P w A t m H v cs F
 | .sP m=>∃ b o L F1,x=.pointer (some ⟨b,o,none⟩)/\L.length=t.sz/\Has w b o L/\(∀ j,j < t.sz->w.frozen? ⟨b,o+j,none⟩=false)/\(∀ b' i,b_ b o t.sz b' i+F1 b' i<=F b' i)/\ap P w A t m [] v L F1
def oZ (P:Program) (w:World) (A:Cells) (ho:List Path->Bool):(ps:List (PM×Ty))->(dn (ps.map (·.2))).den->List Value->FP->Prop
 | [],_,xs,_=>xs=[]
 | (pm,t)::ps,v,xs,F=>∃ (x:Value) (K5:List Value) (F1 F2:FP),xs=x::K5/\(∀ b i,F1 b i+F2 b i<=F b i)/\ArgRel P w A ho pm t v.1 x F1/\oZ P w A ho ps v.2 K5 F2
abbrev K6:List Path->Bool:=λH=>H.isEmpty
theorem oZ.none {P:Program} {w:World} {A:Cells} {ho:List Path->Bool} (hh:∀ H,ho H=true->H=[]):∀ (ps:List (PM×Ty)) {v:(dn (ps.map (·.2))).den} {xs:List Value} {F:FP},oZ P w A ho ps v xs F->oZ P w A K6 ps v xs F
 | [],_,_,_,h=>h
 | (pm,t)::ps,_,_,_,⟨x,K5,F1,F2,h1,h2,h3,h4⟩=>⟨x,K5,F1,F2,h1,h2,by
  cases pm with
  | nc m=>obtain ⟨H,cs,g1,g2⟩:=h3;rw[hh H g1] at g2;exact ⟨[],cs,rfl,g2⟩
  | _=>exact h3,oZ.none hh ps h4⟩
def m8 (P:Program) (w:World) (A:Cells):(ps:List (PM×Ty))->(dn (lC ps)).den->List Value->FP->Prop
 | [],_,_,_=>True
 | (.ro,_)::ps,v,xs,F=>m8 P w A ps v xs.tail F
 | (.fix _,_)::ps,v,xs,F=>m8 P w A ps v xs.tail F
 | (.sP _,_)::ps,v,xs,F=>m8 P w A ps v xs.tail F
 | (.nc _,_)::ps,v,xs,F=>m8 P w A ps v xs.tail F
 | (.pt _ m,t)::ps,v,xs,F=>∃ (F1 F2:FP),(∀ b i,F1 b i+F2 b i<=F b i)/\(∃ b o L F3,xs.head?=some (.pointer (some ⟨b,o,none⟩))/\L.length=t.sz/\Has w b o L/\(∀ b' i,b_ b o t.sz b' i+F3 b' i<=F1 b' i)/\ap P w A t m [] v.1 L F3)/\m8 P w A ps v.2 xs.tail F2
 | (.kY m,t)::ps,v,xs,F=>∃ (F1 F2:FP),(∀ b i,F1 b i+F2 b i<=F b i)/\(∃ cs,xs.head?=some (ci t cs)/\ap P w A t m [] v.1 cs F1)/\m8 P w A ps v.2 xs.tail F2
def mS (P:Program) (w:World) (A:Cells) (rs:List Gj) (rv:Value) (F:FP):Prop:=
 match rs with
 | []=>True
 | [x]=>∃ cs,rv=ci x.t cs/\ap P w A x.t x.m [] x.v cs F
 | xs=>∃ (vs:Array Value) (Fi:Nat->FP),rv=.tuple vs/\(∀ b i,a_ xs.length Fi b i<=F b i)/\∀ j x,xs[j]?=some x->∃ v cs,vs[j]?=some v/\v=ci x.t cs/\ap P w A x.t x.m [] x.v cs (Fi j)
def Sound (P:Program) (f:FuncId) (g:sQ):Prop:=
 ∀ (w:World) (A:Cells) (F0:FP) (v:(dn (g.ps.map (·.2))).den) (xs:List Value),oZ P w A (g.CZ v) g.ps v xs F0->(∀ b i,F0 b i<=1)->(∀ b i,1<=F0 b i->¬ A b i)->(∀ b i,1<=F0 b i\/A b i->b < w.heap.size)->vG P w F0 ->
  ∀ out,g.F v=some out->Calls P f xs.toArray w λe w'=>∃ rv,e=.returned rv/\Ext w w' F0/\∃ (A':Cells) (G GR GM:FP),(∀ b i,A b i->A' b i)/\(∀ b i,A' b i->A b i\/1<=F0 b i\/w.heap.size<=b) /\
   (∀ b i,1<=G b i->1<=F0 b i\/w.heap.size<=b)/\(∀ b i,G b i<=1)/\(∀ b i,1<=G b i->¬ A' b i)/\(∀ b i,1<=G b i\/A' b i->b < w'.heap.size)/\(∀ b i,GR b i+GM b i<=G b i) /\
   mS P w' A' (lD g.rs out).1 rv GR/\m8 P w' A' g.ps (lD g.rs out).2 xs GM
def tU (P:Program) (f:FuncId) (cap:Bool):Prop:=∃ fn,P.funcs[f]?=some fn/\(fn.name == "runtime.NumGoroutine")=false/\fn.body.isNone=false/\fn.nfree=(match cap with | true=>1 | false=>0)
end OT
