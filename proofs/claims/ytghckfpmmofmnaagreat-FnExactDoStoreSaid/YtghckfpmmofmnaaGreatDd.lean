/- The proof's parts, merged: slices.Delete at elements of any size  what it computes, as a contract of this framework.. No conditions but those that each states. -/
import Derived.Test.YtghckfpmmofmnaaGreatDc
import Derived.Shelf.SlLaysE0
import Derived.Shelf.RegionOpenPlain
import Derived.WalkKit
import Derived.Deep.LoopGhost
import Derived.Deep.RegionLaw
import Derived.Lib.Walk
import Derived.Sort.WalkB12
import Derived.Lib.SliceRun
import Derived.Test.YtghckfpmmofmnaaGreatProg
import Derived.KernelRfl
set_option linter.unusedVariables false
set_option linter.unusedSimpArgs false
namespace OT
open Go Go.Shelf Go.RowKit Go.Lib Go.Proofs
abbrev Byt:=List UInt8
theorem Bye {p:Prop} (h:p:=by kernel_rfl):p:=h
theorem By8 {α β γ:Type} {x:β} {p:α->γ->β} {s r:α} {a:γ} (h:s=r) (e:x=p s a):x=p r a:=h▸e
section
variable {P:Program} {ρ:Ren}
theorem Q_ (w:World) (t e ty:TypeId) (z:Value) (ht:P.underlying t=some (.slice e)) (hv:∀ w,(zeroValue e).run P w=.ok z w) (b o n c:Nat) (hn:0 < n)
  (hc:∀ j,j < (Builtin.zeroCells z.cells n).toList.length->(w.cell? ⟨b,o+j,none⟩).isSome=true) (hf:∀ j,j < (Builtin.zeroCells z.cells n).toList.length->w.frozen? ⟨b,o+j,none⟩=false) (h1:∀ v ∈ (Builtin.zeroCells z.cells n).toList,v.oneCell'=true) :
  (Builtin.clear_ #[t] ty #[.slice (some ⟨b,o,none⟩) n c]).run P w=.ok (.tuple #[]) (w.setCells b o (Builtin.zeroCells z.cells n).toList):=by
 have dt:=run_storeCells_cells (P:=P) b o (Builtin.zeroCells z.cells n).toList 0 w (by simpa using hc) (by simpa using hf) h1;simp only[eM] at dt
 obtain ⟨m,rfl⟩:∃ m,n=m+1:=⟨n - 1,by omega⟩
 simp_all [Builtin.clear_,run_underlying]
theorem Nu (b:Nat) (vs:List Value) (o:Nat) (w:World) (h:∀ j,j < vs.length->(w.cell? ⟨b,o+j,none⟩).isSome=true) (k:Nat) (hk:(w.cell? ⟨b,k,none⟩).isSome=true):((w.setCells b o vs).cell? ⟨b,k,none⟩).isSome=true:=by
 by_cases gw:o<=k/\k < o+vs.length
 ·have:=World.cell?_setCells_in b vs o w h (k - o) Bys;grind
 grind [World.cell?_setCells_out]
set_option maxHeartbeats 4000000 in
set_option maxRecDepth 1000000 in
theorem WN (L:SlLaysE0.n45 P ρ) (k:Nat) (inf:TypeInfo) (zv:Value) (SO:P.info? (ρ.t 23)=some inf) (hsk:inf.size=k) (hz:∀ w,(zeroValue (ρ.t 23)).run P w=.ok zv w) (Ij:zv.cells.size=k) (DX:∀ n,∀ v ∈ (Builtin.zeroCells zv.cells n).toList,v.oneCell'=true)
  (b off n c i j:Nat) (cs:List Value) (w:World) (xm:cs.length=n*k) (sS:∀ t v,cs[t]?=some v->w.cell? ⟨b,off+t,none⟩=some v) (hfz:∀ t,t < n*k->w.frozen? ⟨b,off+t,none⟩=false) (h1c:∀ v ∈ cs,v.oneCell'=true)
  (pK:n<=c) (hm:c<=9223372036854775807) (sw:i < j) (hj:j<=n) :
  Calls P (ρ.f 45) #[.slice (some ⟨b,off,none⟩) n c,.int .i64 i,.int .i64 j] w λe w'=>e=.returned (.slice (some ⟨b,off,none⟩) (i+(n - j)) c) /\
   w'=(w.drew.setCells b (off+i*k) (cs.drop (j*k))).setCells b (off+(i+(n - j))*k) (Builtin.zeroCells zv.cells (n - (i+(n - j)))).toList:=by
 have mixed:=L.mixed;have t0:=L.t0;have a0:=L.a0;have z0:=L.z0;have v0:=L.v0;have t3:=L.t3;have a3:=L.a3;have z3:=L.z3;have v3:=L.v3;have t4:=L.t4;have a4:=L.a4;have z4:=L.z4;have v4:=L.v4;have t22:=L.t22;have a22:=L.a22;have z22:=L.z22;have v22:=L.v22
 have z23:∀ w,(Go.sizeOf (ρ.t 23)).run P w=.ok k w:=λw=>by simp[Go.sizeOf,typeInfo,SO,hsk]
 have hjk:j*k<=n*k:=aZ _ hj
 obtain ⟨news,Km⟩:∃ news,news=cs.drop (j*k):=⟨_,rfl⟩
 have hlen:news.length=(n - j)*k:=by rw[Km,bX,xm,Nat.sub_mul]
 obtain ⟨A,hA,ad7⟩:∃ A:Addr,(if c=j then some (⟨b,off,none⟩:Addr) else some ⟨b,off+j*k,none⟩)=some A/\Hid (∀ t u,news[t]?=some u->w.drew.cell? (A.add t)=some u):=by
  by_cases h:c=j
  ·refine ⟨⟨b,off,none⟩,by simp[h],λt u hu=>?_⟩
   have h0:news.length=0:=by rw[hlen,show n - j=0 by omega,Nat.zero_mul]
   rw[List.length_eq_zero_iff.1 h0] at hu;simp at hu
  ·refine ⟨⟨b,off+j*k,none⟩,by simp[h],λt u hu=>?_⟩
   rw[Km,bM] at hu;rw[Addr.add_lit,show off+j*k+t=off+(j*k+t) by omega];exact sS _ u hu
 have s1:Hid (news.length=(n - j)*k):=hlen
 have s2:Hid (∀ u ∈ news,u.oneCell'=true):=by
  intro u hu;rw[Km] at hu;exact h1c u (dC hu)
 have HS:∀ t,t < n*k->(w.cell? ⟨b,off+t,none⟩).isSome=true:=λt ht=>by rw[sS t _ (aB Bys)];rfl
 have aeU:i*k+(n - j)*k<=n*k:=by rw[<-cU];exact aZ _ Bys
 have s3:Hid (∀ t,t < news.length->(w.drew.cell? ⟨b,off+i*k+t,none⟩).isSome=true/\w.drew.frozen? ⟨b,off+i*k+t,none⟩=false):=by
  intro t ht;rw[hlen] at ht;rw[cM];exact ⟨HS _ Bys,hfz _ Bys⟩
 obtain ⟨W1,WO⟩:∃ W1,W1=w.drew.setCells b (off+i*k) news:=⟨_,rfl⟩
 have hZ:(Builtin.zeroCells zv.cells (n - (i+(n - j)))).toList.length=(n - (i+(n - j)))*k:=by simp[Builtin.zeroCells,Ij]
 have hnk:(i+(n - j))*k+(n - (i+(n - j)))*k=n*k:=by rw[<-cU];congr 1;omega
 have ad8:∀ ty,(Builtin.clear_ #[ρ.t 22] ty #[.slice (some ⟨b,off+(i+(n - j))*k,none⟩) (n - (i+(n - j))) (c - (i+(n - j)))]).run P W1=.ok (.tuple #[]) (W1.setCells b (off+(i+(n - j))*k) (Builtin.zeroCells zv.cells (n - (i+(n - j)))).toList):=
  λty=>Q_ W1 _ _ ty zv t22 hz b (off+(i+(n - j))*k) _ _ Bys (λt ht=>by
   rw[hZ] at ht;rw[WO,cM]
   exact Nu b _ _ _ (λt ht=>by rw[hlen] at ht;rw[cM];exact HS _ Bys) _ (HS _ Bys)) (λt ht=>by rw[hZ] at ht;rw[WO,World.frozen?_setCells,cM];exact hfz _ Bys) (DX _)
 have hW:Hid (W1=w.drew.setCells b (off+i*k) news):=WO;have lU:¬ (i:Int)=(j:Int):=by omega
 have hic:i<=c:=by omega
 have hjc:j<=c:=by omega
 have hcn:¬ c=i+(n - j):=by omega
 rw[<-Km,<- WO]
 obtain ⟨Z,hZd⟩:∃ Z,Z=(Builtin.zeroCells zv.cells (n - (i+(n - j)))).toList:=⟨_,rfl⟩
 rw[<-hZd] at ad8 ⊢;clear WO Km hlen HS sS hfz xm h1c hZ hZd DX Ij;obtain ⟨_,_,FG⟩:=L.f45
 go_enter FG,SlBodyN.n45_ntmps ρ
 go_wp2_with fail
 go_region_law_o (refine step_append_room rfl (.tmp 22) (.tmp 25) (ρ.t 22) rfl (ρ.t 23) inf k t22 SO hsk b off i c (by simp[Act.eval,Act.put]) A (n - j) (c - j) news (by simp[Act.eval,Act.put]) s1.out ad7.out s2.out Bys s3.out ?_;rw[<-hW.out])
 go_wp2
 go_ret
 exact ⟨rfl,rfl⟩
set_option maxHeartbeats 4000000 in
set_option maxRecDepth 1000000 in
theorem YH (L:SlLaysE0.n45 P ρ) (b:Option Addr) (n c i:Nat) (w:World) (gw:i<=n) (pK:n<=c) (hm:c<=9223372036854775807) (hb:∀ ad,b=some ad->ad.spot=none) (JP:b=none->c=0) (k:Nat) (z23:∀ w,(Go.sizeOf (ρ.t 23)).run P w=.ok k w) :
  Calls P (ρ.f 45) #[.slice b n c,.int .i64 i,.int .i64 i] w λe w'=>e=.returned (.slice b n c)/\w'=w:=by
 have mixed:=L.mixed;have t0:=L.t0;have a0:=L.a0;have z0:=L.z0;have v0:=L.v0;have t3:=L.t3;have a3:=L.a3;have z3:=L.z3;have v3:=L.v3;have t4:=L.t4;have a4:=L.a4;have z4:=L.z4;have v4:=L.v4;have t22:=L.t22;have a22:=L.a22;have z22:=L.z22;have v22:=L.v22
 have hic:i<=c:=by omega
 obtain ⟨_,_,FG⟩:=L.f45
 cases b with
 | none=>
  have h0:=JP rfl;subst h0;have J6:n=0:=by omega
  subst J6;have SO:i=0:=by omega
  subst SO
  go_enter FG,SlBodyN.n45_ntmps ρ
  go_wp2
  all_goals (go_ret;exact ⟨rfl,rfl⟩)
 | some ad=>
  obtain ⟨b,off,sp⟩:=ad;have:=hb _ rfl;simp only at this;subst this
  go_enter FG,SlBodyN.n45_ntmps ρ
  go_wp2
  all_goals (go_ret;exact ⟨rfl,rfl⟩)
theorem ad9 (w:World) {e:Ty} {i:TypeId} (hl:bn P e (.inl i)=true) (hz:e.w8=true) {inf:TypeInfo} {zv:Value} (h1:P.info? i=some inf) (h2:inf.zero=some zv):∀ n,∀ v ∈ (Builtin.zeroCells zv.cells n).toList,v.oneCell'=true:=by
 obtain ⟨L,hL⟩:=wi e hz;obtain ⟨aeV,z',i1,i2,i3,i4,i5,i6⟩:=zT (mG hl);rw[h1] at i1;injection i1 with i1;subst i1;rw[h2] at i4;injection i4 with i4;subst i4;have hc:=i6 L hL;obtain ⟨r1,_,_⟩:=CU (P:=P) (w:=w) (A:=λ_ _=>True) e hL hl;grind [au.one,Builtin.zeroCells,Nat.mod_lt]
theorem YI {w w':World} {A:Cells} {F0:FP} {e:Ty} {me:Md} {b cap:Nat} {vs:List e.den} {news:List Value} {Hi:Nat->FP} {F1:FP}
  (hw:Ext w w' (d8 b 0 (cap*e.sz))) (pK:cap<=maxLen) (jz:jf w' b (cap*e.sz,IV e)) (hlen:List.length vs<=cap) (w_:Has w' b 0 news)
  (sC:∀ (i:Nat) (y:e.den),vs[i]?=some y->au P w A e me [] y ((news.drop (i*e.sz)).take e.sz) (Hi i))
  (hF:∀ b' i,d8 b 0 (cap*e.sz) b' i+bi (List.length vs) Hi b' i<=F1 b' i) (hle:∀ b' i,F1 b' i<=F0 b' i) (h1:∀ b i,F0 b i<=1) (zx:∀ b i,1<=F0 b i->¬ A b i) (Je:∀ b i,1<=F0 b i\/A b i->b < w.heap.size) :
  au P w' A (.aa e) (.aa true me) [] vs [.slice (some ⟨b,0,none⟩) (List.length vs) cap] F1:=by
 simp only[au,hole,bP,aF,aS,aj,vS,Md.own,aH,Md.e];refine ⟨some ⟨b,0,none⟩,cap,rfl,hlen,pK,(λe=>by cases e),λad e2=>?_⟩
 injection e2 with e2;subst e2;refine ⟨rfl,rfl,jz,Hi,hF,λi y hy=>?_⟩
 have hr:=sC i y hy;have hi:=(aP.1 hy).1;refine ⟨_,au.length _ hr,λj u hu=>?_,?_⟩
 ·rw[bT] at hu;split at hu
  ·rw[bM] at hu;have:=w_ _ u hu;grind
  ·cases hu
 ·simp only[dX];refine au.mono (P:=P) (λ_ _ h=>h) (λb' k ha u hu=>hw.cell b' k (Je b' k (.inr ha)) ?_ u hu) hw.xT e hr (λ_ _=>aI _) (λb' k hp u hu=>hw.cell b' k ?_ ?_ u hu)
  ·grind
  ·exact Je b' k (.inl (by grind [dy]))
  grind [dy]
def LN (e:Ty) (v:List e.den×Int×Int×Unit):Option (List e.den×Unit):=if 0<=v.2.1/\v.2.1<=v.2.2.1/\v.2.2.1<=(v.1.length:Int) then some (v.1.take v.2.1.toNat++v.1.drop v.2.2.1.toNat,()) else none
def aaj (i j:Int) (k:Nat):Bool:=decide (i<=(k:Int))&&decide ((k:Int) < j)
def Pc (i j:Int):List Path->Bool
 | []=>true
 | [.idx k::_]=>aaj i j k
 | _=>false
theorem Ur {i j:Int} {H:List Path} (h:Pc i j H=true):hole H=false/\(j<=i->H=[])/\∀ t:Nat,((t:Int) < i\/j<=(t:Int))->H.filterMap (lc t)=[]:=by
 unfold Pc at h;split at h
 ·exact ⟨rfl,λ_=>rfl,λ_ _=>rfl⟩
 ·rename_i k q;simp only[aaj,aD,bF] at h;refine ⟨rfl,λsw=>by omega,λt ht=>?_⟩
  grind [lc]
 ·cases h
theorem WP (L:SlLaysE0.n45 P ρ) {e:Ty} {me:Md} (hl:bn P e (.inl (ρ.t 23))=true) (h1:1<=e.sz) (Ij:e.w8=true) (he:wH P (ρ.f 45) false) :
  Ok P (ρ.f 45) { ps:=[(.pG (.aa true me),.aa e),(.ro,.int .i64),(.ro,.int .i64)],rs:=[(.aa e,.aa true me)],F:=LN e,FK:=λv H=>Pc v.2.1 v.2.2.1 H }:=by
 refine ⟨?_,he⟩
 intro w A F0 v xs mm hle zx Je LM out pL;obtain ⟨vs,i,j,⟨⟩⟩:=v;obtain ⟨x,Sz,F1,F2,rfl,hF,⟨H,cs,hH,rfl,ja⟩,x2,xs2,F3,F4,rfl,hF2,⟨d9,rfl,hi⟩,x3,xs3,F5,F6,rfl,hF3,⟨Wp,rfl,hj⟩,Dr⟩:=mm;have Dr:xs3=[]:=Dr;subst Dr;have ja:au P w A (.aa e) (.aa true me) H vs cs F1:=ja;have hH:Pc i j H=true:=hH;obtain ⟨hH1,hH2,Ge⟩:=Ur hH;have hi:d9=[.int .i64 i]:=hi;have hj:Wp=[.int .i64 j]:=hj;subst hi;subst hj;have pL:LN e (vs,i,j,())=some out:=pL;unfold LN at pL;split at pL;rotate_left
 ·cases pL
 rename_i hb;obtain ⟨b1,b2,b3⟩:=hb;simp only at b1 b2 b3 pL;injection pL with pL;subst pL;obtain ⟨ni,rfl⟩:=dB b1;obtain ⟨nj,rfl⟩:=dB (Int.le_trans b1 b2);simp only[aC];have sw:ni<=nj:=by omega
 have hjn:nj<=List.length vs:=by omega
 obtain ⟨inf,zv,i1,i2,i3,i4,i5,_⟩:=zT (mG hl);have hz:∀ w,(zeroValue (ρ.t 23)).run P w=.ok zv w:=λw=>by simp[zeroValue,typeInfo,i1,i4]
 have z23:∀ w,(Go.sizeOf (ρ.t 23)).run P w=.ok e.sz w:=λw=>by simp[Go.sizeOf,typeInfo,i1,i2]
 obtain ⟨xa,cap,rD,Fi,r1,r2,r3,r4,r5,r6,r7,r8⟩:=J8 hH1 (v:=vs) ja;obtain ⟨c1,c2,c3,c4⟩:=r8 rfl;subst r1;have Dy:cap<=9223372036854775807:=by grind [maxLen]
 have hx:(dm (.aa e) [.slice xa (List.length vs) cap]::[dm (.int .i64) [.int .i64 (ni:Int)],dm (.int .i64) [.int .i64 (nj:Int)]]).toArray=#[.slice xa (List.length vs) cap,.int .i64 ni,.int .i64 nj]:=rfl;show Calls P (ρ.f 45) (dm (.aa e) [.slice xa (List.length vs) cap]::[dm (.int .i64) [.int .i64 (ni:Int)],dm (.int .i64) [.int .i64 (nj:Int)]]).toArray w _;rw[hx]
 have GD:∀ (w':World) (rv:Value),Ext w w' F0->(∃ cs,rv=dm (.aa e) cs/\au P w' A (.aa e) (.aa true me) [] (vs.take ni++vs.drop nj) cs F1) ->
   ∃ WF,Ending.returned rv=.returned WF/\Ext w w' F0/\∃ (A':Cells) (G GR GM:FP),(∀ b i,A b i->A' b i)/\(∀ b i,A' b i->A b i\/1<=F0 b i\/w.heap.size<=b)/\(∀ b i,1<=G b i->1<=F0 b i\/w.heap.size<=b)/\(∀ b i,G b i<=1)/\(∀ b i,1<=G b i->¬ A' b i)/\(∀ b i,1<=G b i\/A' b i->b < w'.heap.size)/\(∀ b i,GR b i+GM b i<=G b i) /\
   oM P w' A' [⟨.aa e,.aa true me,vs.take ni++vs.drop nj⟩] WF GR/\ph P w' A' [(.pG (.aa true me),.aa e),(.ro,.int .i64),(.ro,.int .i64)] () [dm (.aa e) [.slice xa (List.length vs) cap],dm (.int .i64) [.int .i64 (ni:Int)],dm (.int .i64) [.int .i64 (nj:Int)]] GM:=λw' rv f_ hr=>
  ⟨_,rfl,f_,A,F0,F1,λ_ _=>0,λ_ _ h=>h,λ_ _ h=>.inl h,λ_ _ h=>.inl h,hle,zx,λb i h=>cO (Je b i h) f_.size,λb i=>by grind,hr,trivial⟩
 by_cases heq:ni=nj
 ·subst heq;refine (YH L xa (List.length vs) cap ni w hjn c1 Dy (λad lN=>(c4 ad lN).2.1) c3 e.sz z23).mono ?_;rintro ex w' ⟨rfl,rfl⟩;refine GD _ _ (Ext.refl _ _) ⟨_,(eo _ _ rfl).symm,?_⟩;grind [List.take_append_drop]
 ·cases xa with
  | none=>grind
  | some ad=>
   obtain ⟨q1,q2,q3,q4⟩:=c4 ad rfl;obtain ⟨_,d5⟩:=r3 ad rfl;obtain ⟨b,off,sp⟩:=ad;simp only at q1 q2 q3 q4 d5;subst q1;subst q2;have aeW:List.length vs*e.sz<=cap*e.sz:=aZ _ c1
   have to:∀ t,t < cap*e.sz->(w.cell? ⟨b,t,none⟩).isSome=true:=λt ht=>by
    obtain ⟨c,e',fr,w1,w2,w3⟩:=q3;grind [World.cell?]
   have Uq:=WN L e.sz inf zv i1 i2 hz i5 (ad9 w hl Ij i1 i4) b 0 (List.length vs) cap ni nj rD w r4 (λt u hu=>vK (d5 t u hu) (r5 u (bU hu))) (λt ht=>by rw[bQ];exact q3.frozen (by grind)) r5 c1 Dy Bys hjn;refine Uq.mono ?_;rintro ex w' ⟨rfl,hw⟩;simp only[bQ] at hw;have zC:List.length (vs.take ni++vs.drop nj)=ni+(List.length vs - nj):=by simp;omega
   have m1:ni*e.sz+(List.length vs - nj)*e.sz=(ni+(List.length vs - nj))*e.sz:=by rw[cU]
   have m2:(ni+(List.length vs - nj))*e.sz<=List.length vs*e.sz:=aZ _ Bys;have m3:(rD.drop (nj*e.sz)).length=(List.length vs - nj)*e.sz:=by grind [Nat.sub_mul]
   have hZ:(Builtin.zeroCells zv.cells (List.length vs - (ni+(List.length vs - nj)))).toList.length=(List.length vs - (ni+(List.length vs - nj)))*e.sz:=by simp[Builtin.zeroCells,i5]
   have m4:(ni+(List.length vs - nj))*e.sz+(List.length vs - (ni+(List.length vs - nj)))*e.sz=List.length vs*e.sz:=by rw[<-cU];congr 1;omega
   have x1:=pJ (b:=b) (o:=ni*e.sz) (rD.drop (nj*e.sz)) w.drew (ni*e.sz);have x2:=pJ (b:=b) (o:=(ni+(List.length vs - nj))*e.sz) (Builtin.zeroCells zv.cells (List.length vs - (ni+(List.length vs - nj)))).toList (w.drew.setCells b (ni*e.sz) (rD.drop (nj*e.sz))) ((ni+(List.length vs - nj))*e.sz)
   have Ar:∀ b' t,d8 b 0 (cap*e.sz) b' t=0->d8 b (ni*e.sz) (rD.drop (nj*e.sz)).length b' t=0:=λb' t h0=>by
    simp only[d8] at h0 ⊢;split at h0
    ·cases h0
    grind
   have OP:∀ b' t,d8 b 0 (cap*e.sz) b' t=0->d8 b ((ni+(List.length vs - nj))*e.sz) (Builtin.zeroCells zv.cells (List.length vs - (ni+(List.length vs - nj)))).toList.length b' t=0:=λb' t h0=>by
    simp only[d8] at h0 ⊢;split at h0
    ·cases h0
    grind
   have f_:Ext w w' (d8 b 0 (cap*e.sz)):=by
    rw[hw];exact (((I3 w).mono (λ_ _ _=>rfl)).trans (x1.mono Ar) (λ_ _ _ h=>h)).trans (x2.mono OP) (λ_ _ _ h=>h)
   refine GD w' _ (f_.mono λb' t h0=>by grind) ⟨[.slice (some ⟨b,0,none⟩) (ni+(List.length vs - nj)) cap],(eo _ _ rfl).symm,?_⟩;rw[<-zC];refine YI (news:=rD.take (ni*e.sz)++rD.drop (nj*e.sz)) (Hi:=λt=>if t < ni then Fi t else Fi (nj+(t - ni))) (F0:=F0) f_ c2 (f_.xT _ _ q3) (by grind) ?_ ?_ (λb' t=>?_) (λb' t=>by grind) hle zx Je
   ·intro t u hu;rw[bQ];have A5:(rD.take (ni*e.sz)).length=ni*e.sz:=by rw[dQ,r4];omega
    rw[hw]
    have TR:t < (ni+(List.length vs - nj))*e.sz:=by
     grind
    refine x2.cell b t ?_ ?_ u ?_
    ·have:=x1.size;have hb:=q3.lt;exact cO hb x1.size
    ·grind [d8]
    ·by_cases ht:t < ni*e.sz
     ·rw[cS Bys,bT,aM ht] at hu;refine x1.cell b t q3.lt ?_ u ?_
      ·grind [d8]
      ·have:=d5 t u hu;rw[bQ] at this;exact this
     ·rw[fE Bys,A5] at hu;have:=yB (w:=w.drew) (b:=b) (o:=ni*e.sz) (L:=rD.drop (nj*e.sz)) (λk hk=>by rw[m3] at hk;exact to _ Bys) (λu hu=>r5 u (dC hu)) _ u hu;rw[show ni*e.sz+(t - ni*e.sz)=t by omega] at this;exact this
   ·have A5:(rD.take (ni*e.sz)).length=(vs.take ni).length*e.sz:=by grind [Nat.mul_le_mul_right]
    have hr:=I4 (P:=P) (w:=w) (A:=A) (e:=e) (me:=me) (v:=vs.take ni) (y:=vs.drop nj) (Fi:=Fi) (Gi:=λt=>Fi (nj+t)) A5 (λt z hz=>by
      rw[bT] at hz;split at hz
      ·rename_i ht;have:=r6 t z hz;rw[Ge t (.inl Bys)] at this;have h6:t*e.sz+e.sz<=ni*e.sz:=by rw[<-eH];exact aZ _ Bys
       rw[eQ,eR,Nat.min_eq_left Bys];exact this
      ·cases hz) (λt z hz=>by
      rw[bM] at hz;have:=r6 (nj+t) z hz;rw[Ge (nj+t) (.inr Bys)] at this;rw[dE,<- cU]
      exact this)
    grind
   ·rw[zC];have s1:=OD ni (List.length vs - nj) Fi (λt=>Fi (nj+t)) b' t;have s2:=wa nj (List.length vs - nj) Fi b' t;have s3:=Mq (List.length vs) Fi 0 ni Bys b' t;have s4:=wa ni (nj - ni) Fi b' t;rw[show ni+(nj - ni)=nj by omega] at s4;rw[show nj+(List.length vs - nj)=List.length vs by omega] at s2;grind
end
end OT
set_option maxRecDepth 100000
namespace OT
open Go Go.Proofs.Tryz
abbrev Log:Type:=((List UInt8)×(List UInt8)×Unit)
abbrev ey:Ty:=(b_ [(.aa u8),(.aa u8)])
abbrev Row:Type:=(Int×Int×Int×(List UInt8)×Unit)
abbrev aT:Ty:=(b_ [i64,i64,i64,.str])
abbrev Change:Type:=(Bool×Row×Bool×Row×Unit)
abbrev ao:Ty:=(b_ [.bool,aT,.bool,aT])
abbrev Key:Type:=(Int×Int×Unit)
abbrev bc:Ty:=(b_ [i64,i64])
abbrev Tx:Type:=(Int×(List Change)×(List Int)×(List Key)×Unit)
abbrev bh:Ty:=(b_ [i64,(.aa ao),(.aa i64),(.aa bc)])
abbrev ba:Type:=(Bool×(List (List UInt8))×Log×(List Tx)×Int×Unit)
abbrev bv:Ty:=(b_ [.bool,(.aa (.aa u8)),ey,(.aa bh),i64])
abbrev Op:Type:=(Int×Int×Row×Int×Unit)
abbrev oY:Ty:=(b_ [i64,i64,aT,i64])
abbrev cr:Type:=(Int×(List UInt8)×Unit)
abbrev oB:Ty:=(b_ [i64,(.aa u8)])
abbrev bk:Type:=(Int×Int×Int×(List cr)×Unit)
abbrev eg:Ty:=(b_ [i64,i64,i64,(.aa oB)])
abbrev Pd:Type:=(Int×Int×bk×Unit)
abbrev AQ:Ty:=(b_ [i64,i64,eg])
abbrev tt:Type:=(Int×Int×Int×Int×Row×Unit)
abbrev se:Ty:=(b_ [i64,i64,i64,i64,aT])
abbrev ax:Type:=(Int×Int×tt×Unit)
abbrev ij:Ty:=(b_ [i64,i64,se])
abbrev Plain:Type:=((List Row)×(List Tx)×Int×Unit)
abbrev D3:Ty:=(b_ [(.aa aT),(.aa bh),i64])
abbrev dO:Type:=(Int×(List cr)×(List (List UInt8))×Unit)
abbrev du:Ty:=(b_ [i64,(.aa oB),(.aa (.aa u8))])
abbrev mn:Type:=(Int×Int×ba×Unit)
abbrev ff:Ty:=(b_ [i64,i64,bv])
abbrev bz:Type:=(Int×Bool×Change×Unit)
abbrev fh:Ty:=(b_ [i64,.bool,ao])
abbrev a_:Type:=((List (List UInt8))×(List cr)×Unit)
abbrev de:Ty:=(b_ [(.aa (.aa u8)),(.aa oB)])
abbrev Seen:Type:=(Row×Int×Int×Bool×Int×Int×Unit)
abbrev gt:Ty:=(b_ [aT,i64,i64,.bool,i64,i64])
abbrev Bg:Type:=(Int×(List Row)×Unit)
abbrev xr:Ty:=(b_ [i64,(.aa aT)])
abbrev yJ:Type:=(Int×Int×(List UInt8)×Unit)
abbrev lE:Ty:=(b_ [i64,i64,(.aa u8)])
abbrev GE:Type:=(Int×(List Tx)×Unit)
abbrev EN:Ty:=(b_ [i64,(.aa bh)])
abbrev ad_:Type:=(Int×(List Int)×(List Int)×ba×Unit)
abbrev adC:Ty:=(b_ [i64,(.aa i64),(.aa i64),bv])
abbrev Buffer:Type:=(Int×(List Change)×Unit)
abbrev SP:Ty:=(b_ [i64,(.aa ao)])
abbrev aak:Type:=((List (List UInt8))×(List Buffer)×Unit)
abbrev WQ:Ty:=(b_ [(.aa (.aa u8)),(.aa SP)])
abbrev acG:Type:=(Int×Bool×Bool×Int×(List Change)×aak×Unit)
abbrev aca:Ty:=(b_ [i64,.bool,.bool,i64,(.aa ao),WQ])
abbrev acH:Type:=(Int×(List Buffer)×aak×Unit)
abbrev acb:Ty:=(b_ [i64,(.aa SP),WQ])
abbrev rE:Type:=cr
abbrev aeA:Ty:=oB
noncomputable def az:TL:=[(2,i64),(23,(.aa u8)),(43,aT),(22,(.aa (.aa u8))),(36,(.aa bh)),(157,bh),(5,u8),(4,.bool),(94,ao),(3,i64),(35,ey),(70,(.aa ao)),(38,bv),(98,(.aa aT)),(155,(.aa bc)),(222,bc),(9,.str),(173,eg),(54,(.aa i64)),(45,oY),(171,(.aa oB)),(216,se),(183,oB),(227,du),(96,fh),(218,ij),(40,ff),(409,lE),(225,(.aa oB)),(249,gt),(375,de),(416,de),(30,aT),(130,(.aa eg)),(213,(.aa ij)),(265,oB),(25,ey),(26,(.aa bh)),(65,(.aa ao)),(142,(.aa bc)),(144,bh),(149,D3),(160,(.aa gt)),(190,ao),(244,(.map bc .bool)),(28,bv),(32,oY),(176,EN),(281,AQ),(313,bc),(325,xr),(316,(.arr 64 .bool)),(317,(.int .u64)),(318,(.map (.arr 2 i64) aT)),(319,(.arr 2 i64)),(321,(.map (.arr 2 i64) .bool))]
theorem av:(Un prog az&&NO prog az)=true:=by kernel_rfl
noncomputable section
noncomputable abbrev Byy:Md:=.pair (ak .bool) (.pair (aj (.aa (.aa u8))) (.pair (ak ey) (.pair (.aa true (.pair (ak i64) (.pair (ak (.aa ao)) (aj (b_ [(.aa i64),(.aa bc)]))))) (ak (b_ [i64])))))
noncomputable abbrev Byb:Md:=.pair .leaf (.pair (.aa false (.pair .leaf (.pair (.pair .leaf (.pair .leaf (.pair .leaf (.pair .leaf .leaf)))) (.pair .leaf (.pair (.pair .leaf (.pair .leaf (.pair .leaf (.pair .leaf .leaf)))) .leaf))))) (.pair (.aa false .leaf) (.pair (.aa false (.pair .leaf (.pair .leaf .leaf))) .leaf)))
noncomputable abbrev Byc:Md:=.aa false (.pair .leaf (.pair .leaf (.pair .leaf (.pair .leaf .leaf))))
noncomputable abbrev Byd:Md:=.pair .leaf (.pair (.aa false (.aa false .leaf)) (.pair (.pair (.aa false .leaf) (.pair (.aa false .leaf) .leaf)) (.pair (.aa false Byb) (.pair .leaf .leaf))))
noncomputable abbrev Btt:Md:=.pair (ak i64) (.pair (ak (.aa ao)) (aj (b_ [(.aa i64),(.aa bc)])))
variable (k:Nat)
namespace nJ
abbrev A:=Byt×Int×Unit
abbrev O:=Int×Unit
noncomputable def D:FD:={ fn:=f85,tl:=az,ps:=[(.ro,(.aa u8)),(.ro,i64)],rs:=[(i64,(ak i64))] }
def ab (a:A):Option O:=@lift O λk=>D.W k a
def p (a1:A):Option O:=cond (decide (af (a1.2.1 - (a1.1.length:Int)) < 0)) (some ((-1),()))<|some (af (a1.2.1 - (a1.1.length:Int)),())
theorem ae (a1:A):@Eq (Option O) (D.W k a1) (p a1):=Bye
theorem ok:Ok prog 85 D.sig:=al func85 av Bye (ai _)
end nJ
namespace s7
abbrev A:=(List Byt)×Int×Unit
abbrev O:=Int×Unit
abbrev P:=Option O
noncomputable def D:FD:={ fn:=f35,tl:=az,ps:=[(.ro,(.aa (.aa u8))),(.ro,i64)],rs:=[(i64,(ak i64))],gl:=[(85,nJ.D.sig)],lv:=[(5,[0,1,5])],lx:=[(0,[1])] }
def ab (a:A):P:=@lift O λk=>D.W k a
variable (a1:A)
def T0 (U:Int×Int):St:={ n:=27,sl:=[(0,.val (.aa (.aa u8)) a1.1),(1,.val i64 U.1),(5,.val i64 U.2)],vr:=[],ay:=[] }
def b0 (self:(Int×Int)->P) (e0:Int->P) (a1:A) (U:Int×Int):P:=cond (decide (U.2 < (a1.1.length:Int))) (if 0<=U.2 then ((a1.1[U.2.toNat]?).bind λa7=>(nJ.ab (a7,U.1,())).bind λdz=>cond (decide (dz.1 < 0)) (some ((-1),()))<|self (dz.1,af (U.2+1))) else none)<|e0 U.1
def q0 (a1:A) (e8:Int):P:=some (e8,())
def r0:(Int×Int)->P:=am (λw v=>b0 w (q0 a1) a1 v) k
theorem aq:@Eq ((Int×Int)->P) (λU=>D.L k [1,1,1,0,1,0,0] [0,1,5] [] (ah 0 (aw (D.N k [1,1,1,1]) D.K0)) (T0 a1 U)) (r0 k a1):=
 funext λU=>ap _ _ _ (T0 a1) _ (λrec v=>Bye) k U
def p (l0:(Int×Int)->P) (a1:A):P:=cond (decide (af (a1.2.1 - (a1.1.length:Int)) < 0)) (some ((-1),()))<|l0 (af (a1.2.1 - (a1.1.length:Int)),0)
theorem ae:@Eq P (D.W k a1) (p (r0 k a1) a1):=By8 (aq k a1) Bye
theorem ok:Ok prog 35 D.sig:=al func35 av Bye (fc nJ.ok (ai _))
end s7
namespace tu
abbrev A:=Log×Int×Unit
abbrev O:=Int×Unit
noncomputable def D:FD:={ fn:=f36,tl:=az,ps:=[(.ro,ey),(.ro,i64)],rs:=[(i64,(ak i64))],gl:=[(85,nJ.D.sig)] }
def ab (a:A):Option O:=@lift O λk=>D.W k a
def p (a1:A):Option O:=(nJ.ab (a1.1.1,a1.2.1,())).bind λr2=>cond (decide (r2.1 < 0)) (some ((-1),()))<|(nJ.ab (a1.1.2.1,r2.1,())).bind λr3=>cond (decide (r3.1 < 0)) (some ((-1),()))<|some (r3.1,())
theorem ae (a1:A):@Eq (Option O) (D.W k a1) (p a1):=Bye
theorem ok:Ok prog 36 D.sig:=al func36 av Bye (fc nJ.ok (ai _))
end tu
namespace oS
abbrev A:=Row×Int×Unit
abbrev O:=Int×Unit
noncomputable def D:FD:={ fn:=f38,tl:=az,ps:=[(.ro,aT),(.ro,i64)],rs:=[(i64,(ak i64))] }
def ab (a:A):Option O:=@lift O λk=>D.W k a
def p (a1:A):Option O:=cond (decide (af (a1.2.1 - (a1.1.2.2.2.1.length:Int)) < 0)) (some ((-1),()))<|some (af (a1.2.1 - (a1.1.2.2.2.1.length:Int)),())
theorem ae (a1:A):@Eq (Option O) (D.W k a1) (p a1):=Bye
theorem ok:Ok prog 38 D.sig:=al func38 av Bye (ai _)
end oS
namespace oT
abbrev A:=Change×Int×Unit
abbrev O:=Int×Unit
noncomputable def D:FD:={ fn:=f123,tl:=az,ps:=[(.ro,ao),(.ro,i64)],rs:=[(i64,(ak i64))],gl:=[(38,oS.D.sig)] }
def ab (a:A):Option O:=@lift O λk=>D.W k a
def p (a1:A):Option O:=(oS.ab (a1.1.2.1,a1.2.1,())).bind λr2=>cond (decide (r2.1 < 0)) (some ((-1),()))<|(oS.ab (a1.1.2.2.2.1,r2.1,())).bind λr3=>cond (decide (r3.1 < 0)) (some ((-1),()))<|some (r3.1,())
theorem ae (a1:A):@Eq (Option O) (D.W k a1) (p a1):=Bye
theorem ok:Ok prog 123 D.sig:=al func123 av Bye (fc oS.ok (ai _))
end oT
namespace sq
abbrev A:=(List Change)×Int×Unit
abbrev O:=Int×Unit
abbrev P:=Option O
noncomputable def D:FD:={ fn:=f64,tl:=az,ps:=[(.ro,(.aa ao)),(.ro,i64)],rs:=[(i64,(ak i64))],gl:=[(123,oT.D.sig)],lv:=[(5,[0,1,5])],lx:=[(0,[1])] }
def ab (a:A):P:=@lift O λk=>D.W k a
variable (a1:A)
def T0 (U:Int×Int):St:={ n:=27,sl:=[(0,.val (.aa ao) a1.1),(1,.val i64 U.1),(5,.val i64 U.2)],vr:=[],ay:=[] }
def b0 (self:(Int×Int)->P) (e0:Int->P) (a1:A) (U:Int×Int):P:=cond (decide (U.2 < (a1.1.length:Int))) (if 0<=U.2 then ((a1.1[U.2.toNat]?).bind λa7=>(oT.ab (a7,U.1,())).bind λdz=>cond (decide (dz.1 < 0)) (some ((-1),()))<|self (dz.1,af (U.2+1))) else none)<|e0 U.1
def q0 (a1:A) (e8:Int):P:=some (e8,())
def r0:(Int×Int)->P:=am (λw v=>b0 w (q0 a1) a1 v) k
theorem aq:@Eq ((Int×Int)->P) (λU=>D.L k [1,1,1,0,1,0,0] [0,1,5] [] (ah 0 (aw (D.N k [1,1,1,1]) D.K0)) (T0 a1 U)) (r0 k a1):=
 funext λU=>ap _ _ _ (T0 a1) _ (λrec v=>Bye) k U
def p (l0:(Int×Int)->P) (a1:A):P:=cond (decide (af (a1.2.1 - (a1.1.length:Int)) < 0)) (some ((-1),()))<|l0 (af (a1.2.1 - (a1.1.length:Int)),0)
theorem ae:@Eq P (D.W k a1) (p (r0 k a1) a1):=By8 (aq k a1) Bye
theorem ok:Ok prog 64 D.sig:=al func64 av Bye (fc oT.ok (ai _))
end sq
namespace s8
abbrev A:=(List Int)×Int×Unit
abbrev O:=Int×Unit
noncomputable def D:FD:={ fn:=f145,tl:=az,ps:=[(.ro,(.aa i64)),(.ro,i64)],rs:=[(i64,(ak i64))] }
def ab (a:A):Option O:=@lift O λk=>D.W k a
def p (a1:A):Option O:=cond (decide (af (a1.2.1 - (a1.1.length:Int)) < 0)) (some ((-1),()))<|some (af (a1.2.1 - (a1.1.length:Int)),())
theorem ae (a1:A):@Eq (Option O) (D.W k a1) (p a1):=Bye
theorem ok:Ok prog 145 D.sig:=al func145 av Bye (ai _)
end s8
namespace vM
abbrev A:=(List Key)×Int×Unit
abbrev O:=Int×Unit
noncomputable def D:FD:={ fn:=f146,tl:=az,ps:=[(.ro,(.aa bc)),(.ro,i64)],rs:=[(i64,(ak i64))] }
def ab (a:A):Option O:=@lift O λk=>D.W k a
def p (a1:A):Option O:=cond (decide (af (a1.2.1 - (a1.1.length:Int)) < 0)) (some ((-1),()))<|some (af (a1.2.1 - (a1.1.length:Int)),())
theorem ae (a1:A):@Eq (Option O) (D.W k a1) (p a1):=Bye
theorem ok:Ok prog 146 D.sig:=al func146 av Bye (ai _)
end vM
namespace tw
abbrev A:=Tx×Int×Unit
abbrev O:=Int×Unit
noncomputable def D:FD:={ fn:=f86,tl:=az,ps:=[(.ro,bh),(.ro,i64)],rs:=[(i64,(ak i64))],gl:=[(64,sq.D.sig),(145,s8.D.sig),(146,vM.D.sig)] }
def ab (a:A):Option O:=@lift O λk=>D.W k a
def p (a1:A):Option O:=(sq.ab (a1.1.2.1,a1.2.1,())).bind λr2=>cond (decide (r2.1 < 0)) (some ((-1),()))<|(s8.ab (a1.1.2.2.1,r2.1,())).bind λr3=>cond (decide (r3.1 < 0)) (some ((-1),()))<|(vM.ab (a1.1.2.2.2.1,r3.1,())).bind λr4=>cond (decide (r4.1 < 0)) (some ((-1),()))<|some (r4.1,())
theorem ae (a1:A):@Eq (Option O) (D.W k a1) (p a1):=Bye
theorem ok:Ok prog 86 D.sig:=al func86 av Bye (fc sq.ok (fc s8.ok (fc vM.ok (ai _))))
end tw
namespace wL
abbrev A:=(List Tx)×Int×Unit
abbrev O:=Int×Unit
abbrev P:=Option O
noncomputable def D:FD:={ fn:=f37,tl:=az,ps:=[(.ro,(.aa bh)),(.ro,i64)],rs:=[(i64,(ak i64))],gl:=[(86,tw.D.sig)],lv:=[(5,[0,1,5])],lx:=[(0,[1])] }
def ab (a:A):P:=@lift O λk=>D.W k a
variable (a1:A)
def T0 (U:Int×Int):St:={ n:=27,sl:=[(0,.val (.aa bh) a1.1),(1,.val i64 U.1),(5,.val i64 U.2)],vr:=[],ay:=[] }
def b0 (self:(Int×Int)->P) (e0:Int->P) (a1:A) (U:Int×Int):P:=cond (decide (U.2 < (a1.1.length:Int))) (if 0<=U.2 then ((a1.1[U.2.toNat]?).bind λa7=>(tw.ab (a7,U.1,())).bind λdz=>cond (decide (dz.1 < 0)) (some ((-1),()))<|self (dz.1,af (U.2+1))) else none)<|e0 U.1
def q0 (a1:A) (e8:Int):P:=some (e8,())
def r0:(Int×Int)->P:=am (λw v=>b0 w (q0 a1) a1 v) k
theorem aq:@Eq ((Int×Int)->P) (λU=>D.L k [1,1,1,0,1,0,0] [0,1,5] [] (ah 0 (aw (D.N k [1,1,1,1]) D.K0)) (T0 a1 U)) (r0 k a1):=
 funext λU=>ap _ _ _ (T0 a1) _ (λrec v=>Bye) k U
def p (l0:(Int×Int)->P) (a1:A):P:=cond (decide (af (a1.2.1 - (a1.1.length:Int)) < 0)) (some ((-1),()))<|l0 (af (a1.2.1 - (a1.1.length:Int)),0)
theorem ae:@Eq P (D.W k a1) (p (r0 k a1) a1):=By8 (aq k a1) Bye
theorem ok:Ok prog 37 D.sig:=al func37 av Bye (fc tw.ok (ai _))
end wL
namespace qT
abbrev A:=ba×Int×Unit
abbrev O:=Int×Unit
noncomputable def D:FD:={ fn:=f7,tl:=az,ps:=[(.ro,bv),(.ro,i64)],rs:=[(i64,(ak i64))],gl:=[(35,s7.D.sig),(36,tu.D.sig),(37,wL.D.sig)] }
def ab (a:A):Option O:=@lift O λk=>D.W k a
def p (a1:A):Option O:=(s7.ab (a1.1.2.1,a1.2.1,())).bind λr2=>cond (decide (r2.1 < 0)) (some ((-1),()))<|(tu.ab (a1.1.2.2.1,r2.1,())).bind λr3=>cond (decide (r3.1 < 0)) (some ((-1),()))<|(wL.ab (a1.1.2.2.2.1,r3.1,())).bind λr4=>cond (decide (r4.1 < 0)) (some ((-1),()))<|some (r4.1,())
theorem ae (a1:A):@Eq (Option O) (D.W k a1) (p a1):=Bye
theorem ok:Ok prog 7 D.sig:=al func7 av Bye (fc s7.ok (fc tu.ok (fc wL.ok (ai _))))
end qT
namespace uP
abbrev A:=Op×Int×Unit
abbrev O:=Int×Unit
noncomputable def D:FD:={ fn:=f8,tl:=az,ps:=[(.ro,oY),(.ro,i64)],rs:=[(i64,(ak i64))],gl:=[(38,oS.D.sig)] }
def ab (a:A):Option O:=@lift O λk=>D.W k a
def p (a1:A):Option O:=(oS.ab (a1.1.2.2.1,a1.2.1,())).bind λr2=>cond (decide (r2.1 < 0)) (some ((-1),()))<|some (r2.1,())
theorem ae (a1:A):@Eq (Option O) (D.W k a1) (p a1):=Bye
theorem ok:Ok prog 8 D.sig:=al func8 av Bye (fc oS.ok (ai _))
end uP
namespace bp
abbrev A:=Int×Int×Int×Unit
abbrev O:=Bool×Unit
noncomputable def D:FD:={ fn:=f65,tl:=az,ps:=[(.ro,i64),(.ro,i64),(.ro,i64)],rs:=[(.bool,(ak .bool))] }
def ab (a:A):Option O:=@lift O λk=>D.W k a
def p (a1:A):Option O:=cond (decide (a1.2.1<=a1.1)) (some (decide (a1.1<=a1.2.2.1),()))<|some (false,())
theorem ae (a1:A):@Eq (Option O) (D.W k a1) (p a1):=Bye
theorem ok:Ok prog 65 D.sig:=al func65 av Bye (ai _)
end bp
namespace nX
abbrev A:=Int×Unit
abbrev O:=Bool×Unit
noncomputable def D:FD:={ fn:=f209,tl:=az,ps:=[(.ro,i64)],rs:=[(.bool,(ak .bool))],gl:=[(65,bp.D.sig)] }
def ab (a:A):Option O:=@lift O λk=>D.W k a
def p (a1:A):Option O:=(bp.ab (a1.1,2,4,())).bind λr2=>some (r2.1,())
theorem ae (a1:A):@Eq (Option O) (D.W k a1) (p a1):=Bye
theorem ok:Ok prog 209 D.sig:=al func209 av Bye (fc bp.ok (ai _))
end nX
namespace li
abbrev A:=(List cr)×Unit
abbrev O:=Int×Unit
abbrev P:=Option O
noncomputable def D:FD:={ fn:=f210,tl:=az,ps:=[(.ro,(.aa oB))],rs:=[(i64,(ak i64))],gl:=[(65,bp.D.sig)],lv:=[(4,[0,3])],lx:=[(0,[])],od:=[(9,[0,1,2,3,4,5,6,7,8,9,10,11,12,13,14,15,16,17,18,19,20,21,22,23])] }
def ab (a:A):P:=@lift O λk=>D.W k a
variable (a1:A)
def T0 (U:Int):St:={ n:=66,sl:=[(0,.val (.aa oB) a1.1),(3,.val i64 U)],vr:=[],ay:=[] }
def b0 (self:Int->P) (e0:(Unit)->P) (a1:A) (U:Int):P:=cond (decide (U < (a1.1.length:Int))) (if 0<=U then ((a1.1[U.toNat]?).bind λa7=>if 0<=U then ((a1.1[U.toNat]?).bind λg_=>(bp.ab (g_.1,0,63,())).bind λlj=>cond (!lj.1) (some (3,()))<|(bp.ab ((a7.2.1.length:Int),1,64,())).bind λjm=>cond (!jm.1) (some (3,()))<|if 0<=U then ((a1.1[U.toNat]?).bind λsX=>cond (decide (64 < af (sX.1+(a7.2.1.length:Int)))) (some (3,()))<|cond (decide (0 < U)) (if 0<=U then ((a1.1[U.toNat]?).bind λyK=>if 0<=af (U - 1) then ((a1.1[(af (U - (1:Int))).toNat]?).bind λyL=>if 0<=af (U - 1) then ((a1.1[(af (U - (1:Int))).toNat]?).bind λJf=>cond (decide (yK.1<=af (yL.1+(Jf.2.1.length:Int)))) (some (1,()))<|self (af (U+1))) else none) else none) else none)<|self (af (U+1))) else none) else none) else none)<|e0 ()
def q0 (a1:A) (YJ:(Unit)):P:=some (0,())
def r0:(Int)->P:=am (λw v=>b0 w (q0 a1) a1 v) k
theorem aq:@Eq ((Int)->P) (λU=>D.L k [1,1,0,1,0,0] [0,3] [] (ah 0 (aw (D.N k [1,1,1]) D.K0)) (T0 a1 U)) (r0 k a1):=
 funext λU=>ap _ _ _ (T0 a1) _ (λrec v=>Bye) k U
def p (l0:(Int)->P) (a1:A):P:=cond (decide (64 < (a1.1.length:Int))) (some (2,()))<|l0 0
theorem ae:@Eq P (D.W k a1) (p (r0 k a1) a1):=By8 (aq k a1) Bye
theorem ok:Ok prog 210 D.sig:=al func210 av Bye (fc bp.ok (ai _))
end li
namespace nK
abbrev A:=bk×Unit
abbrev O:=Int×Unit
abbrev P:=Option O
noncomputable def D:FD:={ fn:=f136,tl:=az,ps:=[(.ro,(.ptr eg))],rs:=[(i64,(ak i64))],gl:=[(65,bp.D.sig),(209,nX.D.sig),(210,li.D.sig)] }
def ab (a:A):P:=@lift O λk=>D.W k a
def p (a1:A):P:=let j13:P:=let j20:P:=(nX.ab (a1.1.1,())).bind λCm=>cond (!Cm.1) (some (0,()))<|(li.ab (a1.1.2.2.2.1,())).bind λPe=>cond (!decide (Pe.1=0)) (some (Pe.1,()))<|cond (decide ((a1.1.2.2.2.1.length:Int)=0)) (some (1,()))<|cond (decide (a1.1.1=4)) ((a1.1.2.2.2.1[0]?).bind λPf=>cond (!decide ((Pf.2.1.length:Int)=64)) (some (1,()))<|some (0,()))<|some (0,());cond (!decide (a1.1.1=4)) ((bp.ab (a1.1.2.1,1,99,())).bind λuF=>cond (!uF.1) (some (3,()))<|(bp.ab (a1.1.2.2.1,0,11,())).bind λxt=>cond (!xt.1) (some (3,()))<|j20)<|(bp.ab (a1.1.2.2.1,0,11,())).bind λzr=>cond (!zr.1) (some (3,()))<|j20;(bp.ab (a1.1.1,1,6,())).bind λr2=>cond (!r2.1) (some (1,()))<|(nX.ab (a1.1.1,())).bind λr3=>cond (!r3.1) (cond (!decide (a1.1.2.2.1=0)) (some (1,()))<|cond (decide (0 < (a1.1.2.2.2.1.length:Int))) (some (1,()))<|cond (decide (a1.1.1=4)) (cond (!decide (a1.1.2.1=0)) (some (1,()))<|j13)<|j13)<|cond (decide (a1.1.1=4)) (cond (!decide (a1.1.2.1=0)) (some (1,()))<|j13)<|j13
theorem ae (a1:A):@Eq P (D.W k a1) (p a1):=Bye
theorem ok:Ok prog 136 D.sig:=al func136 av Bye (fc bp.ok (fc nX.ok (fc li.ok (ai _))))
end nK
namespace ns
abbrev A:=Byt×Unit
abbrev O:=Int×Unit
abbrev P:=Option O
noncomputable def D:FD:={ fn:=f311,tl:=az,ps:=[(.ro,(.aa u8))],rs:=[(i64,(ak i64))],lv:=[(3,[0,3,4])],lx:=[(0,[3])] }
def ab (a:A):P:=@lift O λk=>D.W k a
variable (a1:A)
def T0 (U:Int×Int):St:={ n:=21,sl:=[(0,.val (.aa u8) a1.1),(3,.val i64 U.1),(4,.val i64 U.2)],vr:=[],ay:=[] }
def b0 (self:(Int×Int)->P) (e0:Int->P) (a1:A) (U:Int×Int):P:=cond (decide (U.2 < (a1.1.length:Int))) (if 0<=U.2 then ((a1.1[U.2.toNat]?).bind λa7=>self ((af ((af (U.1*31))+(af (a7.toNat:Int)))).tmod 65521,af (U.2+1))) else none)<|e0 U.1
def q0 (a1:A) (l_:Int):P:=some (l_,())
def r0:(Int×Int)->P:=am (λw v=>b0 w (q0 a1) a1 v) k
theorem aq:@Eq ((Int×Int)->P) (λU=>D.L k [1,1,0,1,0,0] [0,3,4] [] (ah 0 (aw (D.N k [1,1,1]) D.K0)) (T0 a1 U)) (r0 k a1):=
 funext λU=>ap _ _ _ (T0 a1) _ (λrec v=>Bye) k U
def p (l0:(Int×Int)->P) (a1:A):P:=l0 (1,0)
theorem ae:@Eq P (D.W k a1) (p (r0 k a1) a1):=By8 (aq k a1) Bye
theorem ok:Ok prog 311 D.sig:=al func311 av Bye (ai _)
end ns
namespace jZ
abbrev A:=bk×Unit
abbrev O:=Byt×Unit
abbrev P:=Option O
noncomputable def D:FD:={ fn:=f272,tl:=az,ps:=[(.ro,(.ptr eg))],rs:=[((.aa u8),(aj (.aa u8)))],gl:=[(311,ns.D.sig)],lv:=[(3,[0,3,4])],lx:=[(0,[3])],od:=[(1,[0,1,2,3,4,5,6,7,8,9,10,11,12,13,14,15,16,17,18,19,20,21,22]),(5,[0,1,2,3,4,5,6,7,8,9,10,11,12,13,14,15,16,17,18,19,22,23,24,25,26,27,28,29,20,21,30,31])],ar:=[(5,[4,8,9,13,17,19,25,29])] }
def ab (a:A):P:=@lift O λk=>D.W k a
variable (a1:A)
def T0 (U:Byt×Int):St:={ n:=85,sl:=[(0,.cp eg a1.1),(3,.own (.aa u8) (aj (.aa u8)) [] U.1),(4,.val i64 U.2)],vr:=[],ay:=[] }
def b0 (self:(Byt×Int)->P) (e0:Byt->P) (a1:A) (U:Byt×Int):P:=cond (decide (U.2 < (a1.1.2.2.2.1.length:Int))) (if 0<=U.2 then ((a1.1.2.2.2.1[U.2.toNat]?).bind λa7=>if 0<=U.2 then ((a1.1.2.2.2.1[U.2.toNat]?).bind λg_=>if 0<=U.2 then ((a1.1.2.2.2.1[U.2.toNat]?).bind λen=>if U.1.length+[UInt8.ofInt a7.1,UInt8.ofInt (g_.2.1.length:Int)].length<=ct then (let yM:=U.1++[UInt8.ofInt a7.1,UInt8.ofInt (g_.2.1.length:Int)];if yM.length+en.2.1.length<=ct then (self (yM++en.2.1,af (U.2+1))) else none) else none) else none) else none) else none)<|e0 U.1
def q0 (a1:A) (kf:Byt):P:=if 0<=(0:Int)/\0 < (kf.length:Int) then ((kf[0]?).bind λyK=>let Jg:=kf.set 0 (UInt8.ofInt (af ((kf.length:Int)+2)));(ns.ab (Jg,())).bind λuG=>if Jg.length+[UInt8.ofInt (af (uG.1.tdiv (256:Int))),UInt8.ofInt (uG.1.tmod (256:Int))].length<=ct then (let YK:=Jg++[UInt8.ofInt (af (uG.1.tdiv (256:Int))),UInt8.ofInt (uG.1.tmod (256:Int))];some (YK,())) else none) else none
def r0:(Byt×Int)->P:=am (λw v=>b0 w (q0 a1) a1 v) k
theorem aq:@Eq ((Byt×Int)->P) (λU=>D.L k [1,1,0,1,0,0] [0,3,4] [] (ah 0 (aw (D.N k [1,1,1]) D.K0)) (T0 a1 U)) (r0 k a1):=
 funext λU=>ap _ _ _ (T0 a1) _ (λrec v=>Bye) k U
def p (l0:(Byt×Int)->P) (a1:A):P:=l0 ([(0:UInt8),UInt8.ofInt a1.1.1,UInt8.ofInt a1.1.2.1,UInt8.ofInt a1.1.2.2.1,UInt8.ofInt (a1.1.2.2.2.1.length:Int)],0)
theorem ae:@Eq P (D.W k a1) (p (r0 k a1) a1):=By8 (aq k a1) Bye
theorem ok:Ok prog 272 D.sig:=al func272 av Bye (fc ns.ok (ai _))
end jZ
namespace br
abbrev A:=Byt×Unit
abbrev O:=Byt×Unit
noncomputable def D:FD:={ fn:=f139,tl:=az,ps:=[(.ro,(.aa u8))],rs:=[((.aa u8),(aj (.aa u8)))] }
def ab (a:A):Option O:=@lift O λk=>D.W k a
def p (a1:A):Option O:=if ([]:Byt).length+a1.1.length<=ct then (some (([]:Byt)++a1.1,())) else none
theorem ae (a1:A):@Eq (Option O) (D.W k a1) (p a1):=Bye
theorem ok:Ok prog 139 D.sig:=al func139 av Bye (ai _)
end br
namespace mp
abbrev A:=Byt×Unit
abbrev O:=bk×Unit
abbrev P:=Option O
noncomputable def D:FD:={ fn:=f276,tl:=az,ps:=[(.ro,(.aa u8))],rs:=[(eg,(aj eg))],gl:=[(139,br.D.sig)],lv:=[(4,[0,2,3,4,5])],lx:=[(0,[2,3])],od:=[(1,[0,1,2,3,4,5,6,7,8,9,10,11,12,13,14]),(8,[0,1,2,3,4,5,6,7,8,9,10,11,12,13,14,15,16,17,18,19,20])] }
def ab (a:A):P:=@lift O λk=>D.W k a
variable (a1:A)
def T0 (db:bk×Int×Int):St:={ n:=73,sl:=[(0,.val (.aa u8) a1.1),(2,.box eg (aj eg) [] ((0:Int),(0:Int),(0:Int),([]:List cr),())),(3,.box eg (aj eg) [] db.1),(4,.val i64 db.2.1),(5,.val i64 db.2.2)],vr:=[],ay:=[] }
def b0 (self:(bk×Int×Int)->P) (e0:bk->P) (a1:A) (db:bk×Int×Int):P:=(a1.1[4]?).bind λtW=>cond (decide (db.2.2 < af (tW.toNat:Int))) (cond (decide (af (db.2.1+2)<=(a1.1.length:Int))) (if 0<=af (db.2.1+1) then ((a1.1[(af (db.2.1+(1:Int))).toNat]?).bind λsX=>cond (decide ((a1.1.length:Int) < af ((af (db.2.1+2))+(af (sX.toNat:Int))))) (e0 db.1)<|if 0<=db.2.1 then ((a1.1[db.2.1.toNat]?).bind λyK=>if 0<=af (db.2.1+2)/\af (db.2.1+2)<=af ((af (db.2.1+2))+(af (sX.toNat:Int)))/\af ((af (db.2.1+2))+(af (sX.toNat:Int)))<=(a1.1.length:Int) then ((br.ab ((a1.1.take (af ((af (db.2.1+2))+(af (sX.toNat:Int)))).toNat).drop (af (db.2.1+2)).toNat,())).bind λwr=>if db.1.2.2.2.1.length+[(af (yK.toNat:Int),wr.1,())].length<=ct then (let AS:=db.1.2.2.2.1++[(af (yK.toNat:Int),wr.1,())];self ((db.1.1,db.1.2.1,db.1.2.2.1,AS,db.1.2.2.2.2),af ((af (db.2.1+2))+(af (sX.toNat:Int))),af (db.2.2+1))) else none) else none) else none) else none)<|e0 db.1)<|e0 db.1
abbrev B0 (_:Nat):=b0
def q0 (a1:A) (YJ:bk):P:=some (YJ,())
abbrev Q0 (_:Nat):=q0
def r0:(bk×Int×Int)->P:=am (λw v=>B0 k w (Q0 k a1) a1 v) k
theorem aq:@Eq ((bk×Int×Int)->P) (λdb=>D.L k [1,1,1,0,1,0,0] [0,2,3,4,5] [] (ah 0 (aw (D.N k [1,1,1,1]) D.K0)) (T0 a1 db)) (r0 k a1):=
 funext λdb=>ap _ _ _ (T0 a1) _ (λrec v=>Bye) k db
def p (l0:(bk×Int×Int)->P) (a1:A):P:=(a1.1[1]?).bind λx2=>(a1.1[2]?).bind λx3=>(a1.1[3]?).bind λx4=>l0 ((af (x2.toNat:Int),af (x3.toNat:Int),af (x4.toNat:Int),([]:List cr),()),5,0)
theorem ae:@Eq P (D.W k a1) (p (r0 k a1) a1):=By8 (aq k a1) Bye
theorem ok:Ok prog 276 D.sig:=al func276 av Bye (fc br.ok (ai _))
end mp
namespace oF
abbrev A:=Byt×Unit
abbrev O:=Pd×Unit
noncomputable def D:FD:={ fn:=f216,tl:=az,ps:=[(.ro,(.aa u8))],rs:=[(AQ,(aj AQ))],gl:=[(136,nK.D.sig),(272,jZ.D.sig),(276,mp.D.sig)],od:=[(5,[0,1,2,5,6,7,8,3,4,9,10])],ar:=[(5,[8])] }
def ab (a:A):Option O:=@lift O λk=>D.W k a
def p (a1:A):Option O:=cond (decide ((a1.1.length:Int) < 7)) (some ((5,0,(0,0,0,([]:List cr),()),()),()))<|(a1.1[0]?).bind λx2=>cond (decide (af (x2.toNat:Int) < 7)) (some ((5,0,(0,0,0,([]:List cr),()),()),()))<|(a1.1[0]?).bind λx3=>cond (decide ((a1.1.length:Int) < af (x3.toNat:Int))) (some ((5,0,(0,0,0,([]:List cr),()),()),()))<|(a1.1[0]?).bind λx4=>if 0<=af (x4.toNat:Int)/\af (x4.toNat:Int)<=(a1.1.length:Int) then ((mp.ab ((a1.1.take (af (x4.toNat:Int)).toNat).drop 0,())).bind λr5=>(nK.ab (r5.1,())).bind λr6=>cond (!decide (r6.1=0)) (some ((5,0,(0,0,0,([]:List cr),()),()),()))<|if 0<=af (x4.toNat:Int)/\af (x4.toNat:Int)<=(a1.1.length:Int) then ((jZ.ab (r5.1,())).bind λr7=>cond (!decide (r7.1=(a1.1.take (af (x4.toNat:Int)).toNat).drop 0)) (some ((5,0,(0,0,0,([]:List cr),()),()),()))<|some ((0,af (x4.toNat:Int),r5.1,()),())) else none) else none
theorem ae (a1:A):@Eq (Option O) (D.W k a1) (p a1):=Bye
theorem ok:Ok prog 216 D.sig:=al func216 av Bye (fc nK.ok (fc jZ.ok (fc mp.ok (ai _))))
end oF
namespace kP
abbrev A:=Byt×Unit
abbrev O:=(List bk)×Int×Unit
abbrev P:=Option O
noncomputable def D:FD:={ fn:=f138,tl:=az,ps:=[(.ro,(.aa u8))],rs:=[((.aa eg),(aj (.aa eg))),(i64,(ak i64))],gl:=[(216,oF.D.sig)],lv:=[(3,[0,4,5])],lx:=[(0,[4,5])] }
def ab (a:A):P:=@lift O λk=>D.W k a
variable (a1:A)
def T0 (U:(List bk)×Int):St:={ n:=30,sl:=[(0,.val (.aa u8) a1.1),(4,.own (.aa eg) (aj (.aa eg)) [] U.1),(5,.val i64 U.2)],vr:=[],ay:=[] }
def b0 (self:((List bk)×Int)->P) (e0:((List bk)×Int)->P) (a1:A) (U:(List bk)×Int):P:=cond (decide (U.2 < (a1.1.length:Int))) (if 0<=U.2/\U.2<=(a1.1.length:Int) then ((oF.ab ((a1.1.take a1.1.length).drop U.2.toNat,())).bind λxe=>cond (!decide (xe.1.1=0)) (e0 (U.1,U.2))<|if U.1.length+[xe.1.2.2.1].length<=ct then (self (U.1++[xe.1.2.2.1],af (U.2+xe.1.2.1))) else none) else none)<|e0 (U.1,U.2)
abbrev B0 (_:Nat):=b0
def q0 (a1:A) (l_:((List bk)×Int)):P:=some (l_.1,l_.2,())
abbrev Q0 (_:Nat):=q0
def r0:((List bk)×Int)->P:=am (λw v=>B0 k w (Q0 k a1) a1 v) k
theorem aq:@Eq (((List bk)×Int)->P) (λU=>D.L k [1,1,1,0,0,0] [0,4,5] [] (ah 0 (aw (D.N k [1,1,1,1]) D.K0)) (T0 a1 U)) (r0 k a1):=
 funext λU=>ap _ _ _ (T0 a1) _ (λrec v=>Bye) k U
def p (l0:((List bk)×Int)->P) (a1:A):P:=l0 (([]:List bk),0)
theorem ae:@Eq P (D.W k a1) (p (r0 k a1) a1):=By8 (aq k a1) Bye
theorem ok:Ok prog 138 D.sig:=al func138 av Bye (fc oF.ok (ai _))
end kP
namespace pM
abbrev A:=Log×Unit
abbrev O:=(List bk)×Unit
noncomputable def D:FD:={ fn:=f76,tl:=az,ps:=[(.ro,(.ptr ey))],rs:=[((.aa eg),(aj (.aa eg)))],gl:=[(138,kP.D.sig),(139,br.D.sig)],od:=[(1,[0,1,2,3,5,6,7,8,4,9,10,11,12,13,14,15])] }
def ab (a:A):Option O:=@lift O λk=>D.W k a
def p (a1:A):Option O:=(br.ab (a1.1.1,())).bind λr2=>if r2.1.length+a1.1.2.1.length<=ct then ((kP.ab (r2.1++a1.1.2.1,())).bind λr3=>some (r3.1,())) else none
theorem ae (a1:A):@Eq (Option O) (D.W k a1) (p a1):=Bye
theorem ok:Ok prog 76 D.sig:=al func76 av Bye (fc kP.ok (fc br.ok (ai _)))
end pM
namespace qU
abbrev A:=Log×Unit
abbrev O:=Int×Unit
noncomputable def D:FD:={ fn:=f87,tl:=az,ps:=[(.ro,(.ptr ey))],rs:=[(i64,(ak i64))],gl:=[(138,kP.D.sig)],od:=[(1,[0,1,2,3,4,5,6,7,8,9,10,11])] }
def ab (a:A):Option O:=@lift O λk=>D.W k a
def p (a1:A):Option O:=cond (decide (16000 < af ((a1.1.1.length:Int)+(a1.1.2.1.length:Int)))) (some (2,()))<|(kP.ab (a1.1.1,())).bind λr2=>cond (!decide (r2.2.1=(a1.1.1.length:Int))) (some (5,()))<|(kP.ab (a1.1.2.1,())).bind λr3=>cond (!decide (r3.2.1=(a1.1.2.1.length:Int))) (some (5,()))<|some (0,())
theorem ae (a1:A):@Eq (Option O) (D.W k a1) (p a1):=Bye
theorem ok:Ok prog 87 D.sig:=al func87 av Bye (fc kP.ok (ai _))
end qU
namespace c_
abbrev A:=Byt×Unit
abbrev O:=Int×Unit
noncomputable def D:FD:={ fn:=f228,tl:=az,ps:=[(.ro,(.aa u8))],rs:=[(i64,(ak i64))] }
def ab (a:A):Option O:=@lift O λk=>D.W k a
def p (a1:A):Option O:=(a1.1[0]?).bind λx2=>some (af (x2.toNat:Int),())
theorem ae (a1:A):@Eq (Option O) (D.W k a1) (p a1):=Bye
theorem ok:Ok prog 228 D.sig:=al func228 av Bye (ai _)
end c_
namespace cn
abbrev A:=Byt×Int×Unit
abbrev O:=Int×Unit
noncomputable def D:FD:={ fn:=f229,tl:=az,ps:=[(.ro,(.aa u8)),(.ro,i64)],rs:=[(i64,(ak i64))] }
def ab (a:A):Option O:=@lift O λk=>D.W k a
def p (a1:A):Option O:=if 0<=af (3+(af (2*a1.2.1))) then ((a1.1[(af ((3:Int)+(af ((2:Int)*a1.2.1)))).toNat]?).bind λx2=>some (af (x2.toNat:Int),())) else none
theorem ae (a1:A):@Eq (Option O) (D.W k a1) (p a1):=Bye
theorem ok:Ok prog 229 D.sig:=al func229 av Bye (ai _)
end cn
namespace kJ
abbrev A:=Byt×Unit
abbrev O:=Int×Unit
noncomputable def D:FD:={ fn:=f284,tl:=az,ps:=[(.ro,(.aa u8))],rs:=[(i64,(ak i64))] }
def ab (a:A):Option O:=@lift O λk=>D.W k a
def p (a1:A):Option O:=(a1.1[1]?).bind λx2=>some (af (x2.toNat:Int),())
theorem ae (a1:A):@Eq (Option O) (D.W k a1) (p a1):=Bye
theorem ok:Ok prog 284 D.sig:=al func284 av Bye (ai _)
end kJ
namespace iq
abbrev A:=Byt×Int×Unit
abbrev O:=Int×Unit
noncomputable def D:FD:={ fn:=f288,tl:=az,ps:=[(.ro,(.aa u8)),(.ro,i64)],rs:=[(i64,(ak i64))] }
def ab (a:A):Option O:=@lift O λk=>D.W k a
def p (a1:A):Option O:=if 0<=af (2+(af (2*a1.2.1))) then ((a1.1[(af ((2:Int)+(af ((2:Int)*a1.2.1)))).toNat]?).bind λx2=>some (af (x2.toNat:Int),())) else none
theorem ae (a1:A):@Eq (Option O) (D.W k a1) (p a1):=Bye
theorem ok:Ok prog 288 D.sig:=al func288 av Bye (ai _)
end iq
namespace tX
abbrev A:=Byt×Int×Unit
abbrev O:=Bool×Unit
noncomputable def D:FD:={ fn:=f285,tl:=az,ps:=[(.ro,(.aa u8)),(.ro,i64)],rs:=[(.bool,(ak .bool))],gl:=[(229,cn.D.sig),(284,kJ.D.sig),(288,iq.D.sig)] }
def ab (a:A):Option O:=@lift O λk=>D.W k a
def p (a1:A):Option O:=(iq.ab (a1.1,a1.2.1,())).bind λr2=>(cn.ab (a1.1,a1.2.1,())).bind λr3=>cond (decide (r2.1=0)) (some (decide (r2.1=r3.1),()))<|cond (decide (r3.1=0)) (some (decide (r2.1=r3.1),()))<|(kJ.ab (a1.1,())).bind λr4=>cond (decide (r4.1<=r2.1)) (some (decide (af (r2.1+r3.1)<=64),()))<|some (false,())
theorem ae (a1:A):@Eq (Option O) (D.W k a1) (p a1):=Bye
theorem ok:Ok prog 285 D.sig:=al func285 av Bye (fc cn.ok (fc kJ.ok (fc iq.ok (ai _))))
end tX
namespace qV
abbrev A:=Byt×Int×Int×Unit
abbrev O:=Bool×Unit
noncomputable def D:FD:={ fn:=f286,tl:=az,ps:=[(.ro,(.aa u8)),(.ro,i64),(.ro,i64)],rs:=[(.bool,(ak .bool))],gl:=[(229,cn.D.sig),(288,iq.D.sig)] }
def ab (a:A):Option O:=@lift O λk=>D.W k a
def p (a1:A):Option O:=(cn.ab (a1.1,a1.2.1,())).bind λr2=>cond (decide (r2.1=0)) (some (true,()))<|(cn.ab (a1.1,a1.2.2.1,())).bind λr3=>cond (decide (r3.1=0)) (some (true,()))<|(iq.ab (a1.1,a1.2.1,())).bind λr4=>(cn.ab (a1.1,a1.2.1,())).bind λr5=>(iq.ab (a1.1,a1.2.2.1,())).bind λr6=>cond (decide (af (r4.1+r5.1)<=r6.1)) (some (true,()))<|(iq.ab (a1.1,a1.2.2.1,())).bind λr7=>(cn.ab (a1.1,a1.2.2.1,())).bind λr8=>(iq.ab (a1.1,a1.2.1,())).bind λr9=>some (decide (af (r7.1+r8.1)<=r9.1),())
theorem ae (a1:A):@Eq (Option O) (D.W k a1) (p a1):=Bye
theorem ok:Ok prog 286 D.sig:=al func286 av Bye (fc cn.ok (fc iq.ok (ai _)))
end qV
namespace df
abbrev A:=Byt×Unit
abbrev O:=Int×Unit
abbrev P:=Option O
noncomputable def D:FD:={ fn:=f227,tl:=az,ps:=[(.ro,(.aa u8))],rs:=[(i64,(ak i64))],gl:=[(228,c_.D.sig),(229,cn.D.sig),(284,kJ.D.sig),(285,tX.D.sig),(286,qV.D.sig)],lv:=[(7,[0,3,4]),(12,[0,3,5]),(15,[0,3,5,6])],lx:=[(0,[0,3]),(2,[0,3]),(4,[0,3,5])] }
def ab (a:A):P:=@lift O λk=>D.W k a
def T0 (a1:A) (da:Int) (db:Int):St:={ n:=60,sl:=[(0,.val (.aa u8) a1.1),(3,.val i64 da),(4,.val i64 db)],vr:=[],ay:=[] }
def S0 (rec:RT O) (a1:A) (da:Int):(Int)->P:=λdb=>rec (T0 a1 da db)
def cw (K:KT O) (a1:A) (da:Int):(Unit)->P:=λz=>K (.exit 0) ({ n:=60,sl:=[(0,.val (.aa u8) a1.1),(3,.val i64 da)],vr:=[],ay:=[] })
def b0 (self:Int->P) (e0:(Unit)->P) (a1:A) (da:Int) (db:Int):P:=cond (decide (db < da)) ((tX.ab (a1.1,db,())).bind λky=>cond (!ky.1) (some (3,()))<|self (af (db+1)))<|e0 ()
theorem kK (rec:RT O) (K:KT O) (a1:A) (da:Int) (db:Int):D.N k [1,1,1,1,0,1,0,0] (T0 a1 da db) (im rec (fm [0,3,4] []) K)=b0 (S0 rec a1 da) (cw K a1 da) a1 da db:=Bye
def T1 (a1:A) (gu:Byt×Int×Int):St:={ n:=60,sl:=[(0,.val (.aa u8) gu.1),(3,.val i64 gu.2.1),(5,.val i64 gu.2.2)],vr:=[],ay:=[] }
def S1 (rec:RT O) (a1:A):(Byt×Int×Int)->P:=λgu=>rec (T1 a1 gu)
def jJ (K:KT O) (a1:A):(Byt×Int)->P:=λz=>K (.exit 2) ({ n:=60,sl:=[(0,.val (.aa u8) z.1),(3,.val i64 z.2)],vr:=[],ay:=[] })
def T2 (a1:A) (jT:Byt) (iw:Int) (e_:Int) (Bh:Int):St:={ n:=60,sl:=[(0,.val (.aa u8) jT),(3,.val i64 iw),(5,.val i64 e_),(6,.val i64 Bh)],vr:=[],ay:=[] }
def b2 (self:Int->P) (e4:(Unit)->P) (a1:A) (jT:Byt) (iw:Int) (e_:Int) (Bh:Int):P:=cond (decide (Bh < e_)) ((qV.ab (jT,e_,Bh,())).bind λUs=>cond (!Us.1) (some (8,()))<|self (af (Bh+1)))<|e4 ()
def q1 (self:(Byt×Int×Int)->P) (e2:(Byt×Int)->P) (a1:A) (jT:Byt) (iw:Int) (e_:Int) (HU:(Unit)):P:=self (jT,iw,af (e_+1))
def s2 (rec:RT O) (K:KT O) (a1:A):Byt->Int->Int->(Int)->P:=λjT iw e_=>λBh=>D.L k [1,1,1,1,1,0,1,0,0,1,0,0,1,0,0] [0,3,5,6] [] (ah 4 (ah 3 (aw (D.N k [1,1,1,1,1,0,1,0,0,1,1]) (im rec (fm [0,3,5] []) K)))) (T2 a1 jT iw e_ Bh)
def r2 (self:(Byt×Int×Int)->P) (e2:(Byt×Int)->P) (a1:A):Byt->Int->Int->(Int)->P:=λjT iw e_=>am (λw v=>b2 w (q1 self e2 a1 jT iw e_) a1 jT iw e_ v) k
theorem tz (rec:RT O) (K:KT O) (a1:A):s2 k rec K a1=r2 k (S1 rec a1) (jJ K a1) a1:=
 funext λjT=>funext λiw=>funext λe_=>funext λBh=>ap _ _ _ (T2 a1 jT iw e_) _ (λrec v=>Bye) k Bh
def b1 (self:(Byt×Int×Int)->P) (e2:(Byt×Int)->P) (l2:Byt->Int->Int->(Int)->P) (a1:A) (gu:Byt×Int×Int):P:=cond (decide (gu.2.2 < gu.2.1)) (l2 gu.1 gu.2.1 gu.2.2 0)<|e2 (gu.1,gu.2.1)
def B1 (self:(Byt×Int×Int)->P) (e2:(Byt×Int)->P) (a1:A) (gu:Byt×Int×Int):P:=b1 self e2 (r2 k self e2 a1) a1 gu
theorem u7 (rec:RT O) (K:KT O) (a1:A) (gu:Byt×Int×Int):D.N k [1,1,1,1,1,0,1,0,0] (T1 a1 gu) (im rec (fm [0,3,5] []) K)=B1 k (S1 rec a1) (jJ K a1) a1 gu:=
 aL (b:=b1 (S1 rec a1) (jJ K a1) (s2 k rec K a1) a1 gu) Bye (by rw[tz];rfl)
def q2 (a1:A) (wM:(Byt×Int)):P:=cond (decide (0 < wM.2)) ((cn.ab (wM.1,af (wM.2 - 1),())).bind λac1=>cond (decide (ac1.1=0)) (some (8,()))<|some (0,()))<|some (0,())
theorem wN (a1:A) (wM:(Byt×Int)):jJ (ah 2 (aw (D.N k [1,1,1,1,1,1]) D.K0)) a1 wM=q2 a1 wM:=Bye
def s1 (a1:A) (da:Int):(Byt×Int×Int)->P:=λgu=>D.L k [1,1,1,1,1,0,1,0,0] [0,3,5] [] (ah 2 (aw (D.N k [1,1,1,1,1,1]) D.K0)) (T1 a1 gu)
def r1 (a1:A) (da:Int):(Byt×Int×Int)->P:=am (λw v=>B1 k w (q2 a1) a1 v) k
theorem kL (a1:A) (da:Int):s1 k a1 da=r1 k a1 da:=by
 funext gu;have h2:jJ (ah 2 (aw (D.N k [1,1,1,1,1,1]) D.K0)) a1=q2 a1:=funext λz=>wN k a1 z;refine (ap _ _ _ (T1 a1) (λself v=>B1 k self (jJ (ah 2 (aw (D.N k [1,1,1,1,1,1]) D.K0)) a1) a1 v) (λrec v=>u7 k rec (ah 2 (aw (D.N k [1,1,1,1,1,1]) D.K0)) a1 v) k gu).trans ?_;rw[h2];rfl
def q0 (l1:(Byt×Int×Int)->P) (a1:A) (da:Int) (sY:(Unit)):P:=l1 (a1.1,da,0)
def Q0 (a1:A) (da:Int) (sY:(Unit)):P:=q0 (r1 k a1 da) a1 da sY
theorem tA (a1:A) (da:Int) (sY:(Unit)):cw (ah 0 (aw (D.N k [1,1,1,1,1]) D.K0)) a1 da sY=Q0 k a1 da sY:=
 aL (b:=q0 (s1 k a1 da) a1 da sY) Bye (by rw[kL];rfl)
def s0 (a1:A):Int->(Int)->P:=λda=>λdb=>D.L k [1,1,1,1,0,1,0,0] [0,3,4] [] (ah 0 (aw (D.N k [1,1,1,1,1]) D.K0)) (T0 a1 da db)
def r0 (a1:A):Int->(Int)->P:=λda=>am (λw v=>b0 w (Q0 k a1 da) a1 da v) k
theorem aq (a1:A):s0 k a1=r0 k a1:=by
 funext da;funext db;have h0:cw (ah 0 (aw (D.N k [1,1,1,1,1]) D.K0)) a1 da=Q0 k a1 da:=funext λz=>tA k a1 da z;refine (ap _ _ _ (T0 a1 da) (λself v=>b0 self (cw (ah 0 (aw (D.N k [1,1,1,1,1]) D.K0)) a1 da) a1 da v) (λrec v=>kK k rec (ah 0 (aw (D.N k [1,1,1,1,1]) D.K0)) a1 da v) k db).trans ?_;rw[h0];rfl
def p (l0:Int->(Int)->P) (a1:A):P:=cond (!decide ((a1.1.length:Int)=64)) (some (1,()))<|(c_.ab (a1.1,())).bind λr2=>cond (decide (16 < r2.1)) (some (3,()))<|(kJ.ab (a1.1,())).bind λr3=>cond (decide (r3.1 < af (2+(af (2*r2.1))))) (some (3,()))<|(kJ.ab (a1.1,())).bind λr4=>cond (decide (64 < r4.1)) (some (3,()))<|l0 r2.1 0
theorem ae (a1:A):@Eq P (D.W k a1) (p (r0 k a1) a1):=
 aL (b:=p (s0 k a1) a1) Bye (by rw[aq])
theorem ok:Ok prog 227 D.sig:=al func227 av Bye (fc c_.ok (fc cn.ok (fc kJ.ok (fc tX.ok (fc qV.ok (ai _))))))
end df
namespace mq
abbrev A:=Byt×Unit
abbrev O:=Bool×Unit
abbrev P:=Option O
noncomputable def D:FD:={ fn:=f290,tl:=az,ps:=[(.ro,.str)],rs:=[(.bool,(ak .bool))],lv:=[(2,[0,3])],lx:=[(0,[0])] }
def ab (a:A):P:=@lift O λk=>D.W k a
variable (a1:A)
def T0 (U:Int):St:={ n:=23,sl:=[(0,.val .str a1.1),(3,.val i64 U)],vr:=[],ay:=[] }
def b0 (self:Int->P) (e0:(Unit)->P) (a1:A) (U:Int):P:=cond (decide (U < (a1.1.length:Int))) (if 0<=U then ((a1.1[U.toNat]?).bind λa7=>cond (decide ((a7.toNat:Int) < 97)) (some (false,()))<|if 0<=U then ((a1.1[U.toNat]?).bind λg_=>cond (decide (122 < (g_.toNat:Int))) (some (false,()))<|self (af (U+1))) else none) else none)<|e0 ()
def q0 (e8:(Unit)):P:=some (decide ((a1.1.length:Int)<=8),())
def r0:(Int)->P:=am (λw v=>b0 w (q0 a1) a1 v) k
theorem aq:@Eq ((Int)->P) (λU=>D.L k [1,0,1,0,0] [0,3] [] (ah 0 (aw (D.N k [1,1]) D.K0)) (T0 a1 U)) (r0 k a1):=
 funext λU=>ap _ _ _ (T0 a1) _ (λrec v=>Bye) k U
def p (l0:(Int)->P) (a1:A):P:=l0 0
theorem ae:@Eq P (D.W k a1) (p (r0 k a1) a1):=By8 (aq k a1) Bye
theorem ok:Ok prog 290 D.sig:=al func290 av Bye (ai _)
end mq
namespace gn
abbrev A:=Row×Unit
abbrev O:=Int×Unit
noncomputable def D:FD:={ fn:=f234,tl:=az,ps:=[(.ro,(.ptr aT))],rs:=[(i64,(ak i64))],gl:=[(65,bp.D.sig),(290,mq.D.sig)] }
def ab (a:A):Option O:=@lift O λk=>D.W k a
def p (a1:A):Option O:=(bp.ab (a1.1.1,0,3,())).bind λr2=>cond (!r2.1) (some (3,()))<|(bp.ab (a1.1.2.1,1,99,())).bind λr3=>cond (!r3.1) (some (3,()))<|(bp.ab (a1.1.2.2.1,0,999,())).bind λr4=>cond (!r4.1) (some (3,()))<|(mq.ab (a1.1.2.2.2.1,())).bind λr5=>cond (!r5.1) (some (5,()))<|some (0,())
theorem ae (a1:A):@Eq (Option O) (D.W k a1) (p a1):=Bye
theorem ok:Ok prog 234 D.sig:=al func234 av Bye (fc bp.ok (fc mq.ok (ai _)))
end gn
namespace sE
abbrev A:=Int×Int×Unit
abbrev O:=Bool×Unit
noncomputable def D:FD:={ fn:=f287,tl:=az,ps:=[(.ro,i64),(.ro,i64)],rs:=[(.bool,(ak .bool))],gl:=[(65,bp.D.sig)] }
def ab (a:A):Option O:=@lift O λk=>D.W k a
def p (a1:A):Option O:=(bp.ab (a1.1,0,11,())).bind λr2=>cond r2.1 ((bp.ab (a1.2.1,0,15,())).bind λr3=>some (r3.1,()))<|some (false,())
theorem ae (a1:A):@Eq (Option O) (D.W k a1) (p a1):=Bye
theorem ok:Ok prog 287 D.sig:=al func287 av Bye (fc bp.ok (ai _))
end sE
namespace mr
abbrev A:=Byt×Unit
abbrev O:=tt×Bool×Unit
noncomputable def D:FD:={ fn:=f230,tl:=az,ps:=[(.ro,(.aa u8))],rs:=[(se,(ak se)),(.bool,(ak .bool))],gl:=[(234,gn.D.sig),(287,sE.D.sig)],od:=[(2,[0,1,2,3,4,5,6,7,8,9,10]),(3,[0,1,2,3,4,5,6,7]),(6,[0,1,2,3,4,5,6,7,8,9,10,11,12,13,14,15,16,17,18,19,20,21,22,23]),(7,[0,1,2,3,4,5,6,7,8,9])] }
def ab (a:A):Option O:=@lift O λk=>D.W k a
def p (a1:A):Option O:=let j16:Option O:=cond (decide ((a1.1.length:Int) < 6)) (some ((0,0,0,0,(0,0,0,([]:Byt),()),()),false,()))<|(a1.1[0]?).bind λx17=>cond (decide ((x17.toNat:Int)=1)) (some ((0,0,0,0,(0,0,0,([]:Byt),()),()),false,()))<|(a1.1[0]?).bind λx18=>cond (decide (2 < (x18.toNat:Int))) (some ((0,0,0,0,(0,0,0,([]:Byt),()),()),false,()))<|(a1.1[5]?).bind λWR=>cond (!decide ((a1.1.length:Int)=af (6+(af (WR.toNat:Int))))) (some ((0,0,0,0,(0,0,0,([]:Byt),()),()),false,()))<|(a1.1[1]?).bind λSQ=>(a1.1[2]?).bind λWS=>(a1.1[3]?).bind λWT=>(a1.1[4]?).bind λPf=>if 0<=(6:Int)/\6<=(a1.1.length:Int) then (let y24:=af ((af ((af (WT.toNat:Int))*256))+(af (Pf.toNat:Int)));(a1.1[0]?).bind λx25=>(gn.ab ((af (SQ.toNat:Int),af (WS.toNat:Int),y24,(a1.1.take a1.1.length).drop 6,()),())).bind λSR=>some ((0,af (x25.toNat:Int),0,0,(af (SQ.toNat:Int),af (WS.toNat:Int),y24,(a1.1.take a1.1.length).drop 6,()),()),decide (SR.1=0),())) else none;cond (decide ((a1.1.length:Int)=3)) ((a1.1[0]?).bind λx2=>cond (decide ((x2.toNat:Int)=1)) ((a1.1[1]?).bind λx3=>(a1.1[2]?).bind λx4=>(sE.ab (af (x3.toNat:Int),af (x4.toNat:Int),())).bind λr5=>some ((0,1,af (x3.toNat:Int),af (x4.toNat:Int),(0,0,0,([]:Byt),()),()),r5.1,()))<|j16)<|j16
theorem ae (a1:A):@Eq (Option O) (D.W k a1) (p a1):=Bye
theorem ok:Ok prog 230 D.sig:=al func230 av Bye (fc gn.ok (fc sE.ok (ai _)))
end mr
namespace j_
abbrev A:=Byt×Int×Unit
abbrev O:=Byt×Unit
noncomputable def D:FD:={ fn:=f231,tl:=az,ps:=[(.ro,(.aa u8)),(.ro,i64)],rs:=[((.aa u8),(aj (.aa u8)))],gl:=[(229,cn.D.sig),(288,iq.D.sig)] }
def ab (a:A):Option O:=@lift O λk=>D.W k a
def p (a1:A):Option O:=(iq.ab (a1.1,a1.2.1,())).bind λr2=>(cn.ab (a1.1,a1.2.1,())).bind λr3=>if 0<=r2.1/\r2.1<=af (r2.1+r3.1)/\af (r2.1+r3.1)<=(a1.1.length:Int) then (if ([]:Byt).length+((a1.1.take (af (r2.1+r3.1)).toNat).drop r2.1.toNat).length<=ct then (let y4:=([]:Byt)++((a1.1.take (af (r2.1+r3.1)).toNat).drop r2.1.toNat);some (y4,())) else none) else none
theorem ae (a1:A):@Eq (Option O) (D.W k a1) (p a1):=Bye
theorem ok:Ok prog 231 D.sig:=al func231 av Bye (fc cn.ok (fc iq.ok (ai _)))
end j_
namespace h_
abbrev A:=(List Byt)×Unit
abbrev O:=Int×Unit
abbrev P:=Option O
noncomputable def D:FD:={ fn:=f147,tl:=az,ps:=[(.ro,(.aa (.aa u8)))],rs:=[(i64,(ak i64))],gl:=[(227,df.D.sig),(228,c_.D.sig),(229,cn.D.sig),(230,mr.D.sig),(231,j_.D.sig)],lv:=[(2,[0,3]),(8,[0,3,5])],lx:=[(0,[]),(2,[0,3])] }
def ab (a:A):P:=@lift O λk=>D.W k a
def T0 (a1:A) (U:(List Byt)×Int):St:={ n:=50,sl:=[(0,.val (.aa (.aa u8)) U.1),(3,.val i64 U.2)],vr:=[],ay:=[] }
def S0 (rec:RT O) (a1:A):((List Byt)×Int)->P:=λU=>rec (T0 a1 U)
def cw (K:KT O) (a1:A):(Unit)->P:=λz=>K (.exit 0) ({ n:=50,sl:=[],vr:=[],ay:=[] })
def T1 (a1:A) (c8:List Byt) (cg:Int) (cm:Int):St:={ n:=50,sl:=[(0,.val (.aa (.aa u8)) c8),(3,.val i64 cg),(5,.val i64 cm)],vr:=[],ay:=[] }
def b1 (self:Int->P) (e2:(Unit)->P) (a1:A) (c8:List Byt) (cg:Int) (cm:Int):P:=if 0<=cg then ((c8[cg.toNat]?).bind λKn=>(c_.ab (Kn,())).bind λUt=>cond (decide (cm < Ut.1)) (if 0<=cg then ((c8[cg.toNat]?).bind λyN=>(cn.ab (yN,cm,())).bind λKo=>cond (decide (0 < Ko.1)) (if 0<=cg then ((c8[cg.toNat]?).bind λHV=>(j_.ab (HV,cm,())).bind λtB=>(mr.ab (tB.1,())).bind λC_=>cond (!C_.2.1) (some (5,()))<|self (af (cm+1))) else none)<|self (af (cm+1))) else none)<|e2 ()) else none
def q0 (self:((List Byt)×Int)->P) (e0:(Unit)->P) (a1:A) (c8:List Byt) (cg:Int) (Bi:(Unit)):P:=self (c8,af (cg+1))
def s1 (rec:RT O) (K:KT O) (a1:A):(List Byt)->Int->(Int)->P:=λc8 cg=>λcm=>D.L k [1,0,1,0,0,1,0,0,1,1,0,0] [0,3,5] [] (ah 2 (ah 1 (aw (D.N k [1,0,1,0,0,1,1]) (im rec (fm [0,3] []) K)))) (T1 a1 c8 cg cm)
def r1 (self:((List Byt)×Int)->P) (e0:(Unit)->P) (a1:A):(List Byt)->Int->(Int)->P:=λc8 cg=>am (λw v=>b1 w (q0 self e0 a1 c8 cg) a1 c8 cg v) k
theorem kL (rec:RT O) (K:KT O) (a1:A):s1 k rec K a1=r1 k (S0 rec a1) (cw K a1) a1:=
 funext λc8=>funext λcg=>funext λcm=>ap _ _ _ (T1 a1 c8 cg) _ (λrec v=>Bye) k cm
def b0 (self:((List Byt)×Int)->P) (e0:(Unit)->P) (l1:(List Byt)->Int->(Int)->P) (a1:A) (U:(List Byt)×Int):P:=cond (decide (U.2 < (U.1.length:Int))) (if 0<=U.2 then ((U.1[U.2.toNat]?).bind λa7=>(df.ab (a7,())).bind λdz=>cond (!decide (dz.1=0)) (some (dz.1,()))<|l1 U.1 U.2 0) else none)<|e0 ()
def B0 (self:((List Byt)×Int)->P) (e0:(Unit)->P) (a1:A) (U:(List Byt)×Int):P:=b0 self e0 (r1 k self e0 a1) a1 U
theorem kK (rec:RT O) (K:KT O) (a1:A) (U:(List Byt)×Int):D.N k [1,0,1,0,0] (T0 a1 U) (im rec (fm [0,3] []) K)=B0 k (S0 rec a1) (cw K a1) a1 U:=
 aL (b:=b0 (S0 rec a1) (cw K a1) (s1 k rec K a1) a1 U) Bye (by rw[kL];rfl)
def q1 (a1:A) (Kp:(Unit)):P:=some (0,())
theorem pN (a1:A) (Kp:(Unit)):cw (ah 0 (aw (D.N k [1,1]) D.K0)) a1 Kp=q1 a1 Kp:=Bye
def s0 (a1:A):((List Byt)×Int)->P:=λU=>D.L k [1,0,1,0,0] [0,3] [] (ah 0 (aw (D.N k [1,1]) D.K0)) (T0 a1 U)
def r0 (a1:A):((List Byt)×Int)->P:=am (λw v=>B0 k w (q1 a1) a1 v) k
theorem aq (a1:A):s0 k a1=r0 k a1:=by
 funext U;have h0:cw (ah 0 (aw (D.N k [1,1]) D.K0)) a1=q1 a1:=funext λz=>pN k a1 z;refine (ap _ _ _ (T0 a1) (λself v=>B0 k self (cw (ah 0 (aw (D.N k [1,1]) D.K0)) a1) a1 v) (λrec v=>kK k rec (ah 0 (aw (D.N k [1,1]) D.K0)) a1 v) k U).trans ?_;rw[h0];rfl
def p (l0:((List Byt)×Int)->P) (a1:A):P:=l0 (a1.1,0)
theorem ae (a1:A):@Eq P (D.W k a1) (p (r0 k a1) a1):=
 aL (b:=p (s0 k a1) a1) Bye (by rw[aq])
theorem ok:Ok prog 147 D.sig:=al func147 av Bye (fc df.ok (fc c_.ok (fc cn.ok (fc mr.ok (fc j_.ok (ai _))))))
end h_
namespace tC
abbrev A:=Byt×Int×Unit
abbrev O:=Bool×Unit
noncomputable def D:FD:={ fn:=f289,tl:=az,ps:=[(.ro,(.aa u8)),(.ro,i64)],rs:=[(.bool,(ak .bool))],gl:=[(65,bp.D.sig),(228,c_.D.sig),(229,cn.D.sig)] }
def ab (a:A):Option O:=@lift O λk=>D.W k a
def p (a1:A):Option O:=(c_.ab (a1.1,())).bind λr2=>(bp.ab (a1.2.1,0,af (r2.1 - 1),())).bind λr3=>cond r3.1 ((cn.ab (a1.1,a1.2.1,())).bind λr4=>some (decide (0 < r4.1),()))<|some (false,())
theorem ae (a1:A):@Eq (Option O) (D.W k a1) (p a1):=Bye
theorem ok:Ok prog 289 D.sig:=al func289 av Bye (fc bp.ok (fc c_.ok (fc cn.ok (ai _))))
end tC
namespace ng
abbrev A:=(List Byt)×Int×Int×Unit
abbrev O:=tt×Bool×Unit
noncomputable def D:FD:={ fn:=f232,tl:=az,ps:=[(.ro,(.aa (.aa u8))),(.ro,i64),(.ro,i64)],rs:=[(se,(ak se)),(.bool,(ak .bool))],gl:=[(65,bp.D.sig),(230,mr.D.sig),(231,j_.D.sig),(289,tC.D.sig)] }
def ab (a:A):Option O:=@lift O λk=>D.W k a
def p (a1:A):Option O:=(bp.ab (a1.2.1,0,af ((a1.1.length:Int) - 1),())).bind λr2=>cond (!r2.1) (some ((0,0,0,0,(0,0,0,([]:Byt),()),()),false,()))<|if 0<=a1.2.1 then ((a1.1[a1.2.1.toNat]?).bind λx3=>(tC.ab (x3,a1.2.2.1,())).bind λr4=>cond (!r4.1) (some ((0,0,0,0,(0,0,0,([]:Byt),()),()),false,()))<|if 0<=a1.2.1 then ((a1.1[a1.2.1.toNat]?).bind λx5=>(j_.ab (x5,a1.2.2.1,())).bind λr6=>(mr.ab (r6.1,())).bind λr7=>some (r7.1,r7.2.1,())) else none) else none
theorem ae (a1:A):@Eq (Option O) (D.W k a1) (p a1):=Bye
theorem ok:Ok prog 232 D.sig:=al func232 av Bye (fc bp.ok (fc mr.ok (fc j_.ok (fc tC.ok (ai _)))))
end ng
namespace d6
abbrev A:=(List ax)×(List Byt)×Unit
abbrev O:=Int×Unit
abbrev P:=Option O
noncomputable def D:FD:={ fn:=f148,tl:=az,ps:=[(.ro,(.aa ij)),(.ro,(.aa (.aa u8)))],rs:=[(i64,(ak i64))],gl:=[(232,ng.D.sig)],lv:=[(2,[0,1,5]),(9,[0,8]),(12,[0,8,9])],lx:=[(0,[0]),(1,[0,1,5]),(2,[]),(4,[0,8])],od:=[(5,[0,1,2,3,4,5,6,7,8,9,10,11,12,13,14,15,16,17,18,19]),(16,[0,1,2,3,4,5,6,7,8,9,10,11,12,13,14,15,16,17,18,19,20,21,22,23,24,25,26,27,28,29,30,31,32,33])],ar:=[(5,[6,12])],pd:=[(5,[17])] }
def ab (a:A):P:=@lift O λk=>D.W k a
def T0 (a1:A) (U:Int):St:={ n:=102,sl:=[(0,.val (.aa ij) a1.1),(1,.val (.aa (.aa u8)) a1.2.1),(5,.val i64 U)],vr:=[],ay:=[] }
def S0 (rec:RT O) (a1:A):(Int)->P:=λU=>rec (T0 a1 U)
def cw (K:KT O) (a1:A):(Unit)->P:=λz=>K (.exit 0) ({ n:=102,sl:=[(0,.val (.aa ij) a1.1)],vr:=[],ay:=[] })
def b0 (self:Int->P) (e0:(Unit)->P) (a1:A) (U:Int):P:=cond (decide (U < (a1.1.length:Int))) (if 0<=U then ((a1.1[U.toNat]?).bind λa7=>cond (!decide (a7.2.2.1.2.1=1)) (self (af (U+1)))<|if 0<=U then ((a1.1[U.toNat]?).bind λg_=>if 0<=U then ((a1.1[U.toNat]?).bind λen=>(ng.ab (a1.2.1,g_.2.2.1.2.2.1,en.2.2.1.2.2.2.1,())).bind λjm=>cond (!jm.2.1) (some (4,()))<|cond (!decide (jm.1.2.1=2)) (some (4,()))<|self (af (U+1))) else none) else none) else none)<|e0 ()
theorem kK (rec:RT O) (K:KT O) (a1:A) (U:Int):D.N k [1,0,1,0,0] (T0 a1 U) (im rec (fm [0,1,5] []) K)=b0 (S0 rec a1) (cw K a1) a1 U:=Bye
def T1 (a1:A) (dv:(List ax)×Int):St:={ n:=102,sl:=[(0,.val (.aa ij) dv.1),(8,.val i64 dv.2)],vr:=[],ay:=[] }
def S1 (rec:RT O) (a1:A):((List ax)×Int)->P:=λdv=>rec (T1 a1 dv)
def jJ (K:KT O) (a1:A):(Unit)->P:=λz=>K (.exit 2) ({ n:=102,sl:=[],vr:=[],ay:=[] })
def T2 (a1:A) (oU:List ax) (jT:Int) (wO:Int):St:={ n:=102,sl:=[(0,.val (.aa ij) oU),(8,.val i64 jT),(9,.val i64 wO)],vr:=[],ay:=[] }
def b2 (self:Int->P) (e4:(Unit)->P) (a1:A) (oU:List ax) (jT:Int) (wO:Int):P:=cond (decide (wO < jT)) (if 0<=jT then ((oU[jT.toNat]?).bind λUu=>if 0<=wO then ((oU[wO.toNat]?).bind λEO=>cond (decide (Uu.2.2.1.2.1=1)) (cond (decide (EO.2.2.1.2.1=1)) (cond (decide (Uu.2.2.1.2.2.1=EO.2.2.1.2.2.1)) (cond (decide (Uu.2.2.1.2.2.2.1=EO.2.2.1.2.2.2.1)) (some (6,()))<|self (af (wO+1)))<|self (af (wO+1)))<|self (af (wO+1)))<|self (af (wO+1))) else none) else none)<|e4 ()
def q1 (self:((List ax)×Int)->P) (e2:(Unit)->P) (a1:A) (oU:List ax) (jT:Int) (aeB:(Unit)):P:=self (oU,af (jT+1))
def s2 (rec:RT O) (K:KT O) (a1:A):(List ax)->Int->(Int)->P:=λoU jT=>λwO=>D.L k [1,1,0,1,0,0,1,0,0,1,0,0] [0,8,9] [] (ah 4 (ah 3 (aw (D.N k [1,1,0,1,0,0,1,1]) (im rec (fm [0,8] []) K)))) (T2 a1 oU jT wO)
def r2 (self:((List ax)×Int)->P) (e2:(Unit)->P) (a1:A):(List ax)->Int->(Int)->P:=λoU jT=>am (λw v=>b2 w (q1 self e2 a1 oU jT) a1 oU jT v) k
theorem tz (rec:RT O) (K:KT O) (a1:A):s2 k rec K a1=r2 k (S1 rec a1) (jJ K a1) a1:=
 funext λoU=>funext λjT=>funext λwO=>ap _ _ _ (T2 a1 oU jT) _ (λrec v=>Bye) k wO
def b1 (self:((List ax)×Int)->P) (e2:(Unit)->P) (l2:(List ax)->Int->(Int)->P) (a1:A) (dv:(List ax)×Int):P:=cond (decide (dv.2 < (dv.1.length:Int))) (l2 dv.1 dv.2 0)<|e2 ()
def B1 (self:((List ax)×Int)->P) (e2:(Unit)->P) (a1:A) (dv:(List ax)×Int):P:=b1 self e2 (r2 k self e2 a1) a1 dv
theorem u7 (rec:RT O) (K:KT O) (a1:A) (dv:(List ax)×Int):D.N k [1,1,0,1,0,0] (T1 a1 dv) (im rec (fm [0,8] []) K)=B1 k (S1 rec a1) (jJ K a1) a1 dv:=
 aL (b:=b1 (S1 rec a1) (jJ K a1) (s2 k rec K a1) a1 dv) Bye (by rw[tz];rfl)
def q2 (a1:A) (HU:(Unit)):P:=some (0,())
theorem wN (a1:A) (HU:(Unit)):jJ (ah 2 (aw (D.N k [1,1,1]) D.K0)) a1 HU=q2 a1 HU:=Bye
def s1 (a1:A):((List ax)×Int)->P:=λdv=>D.L k [1,1,0,1,0,0] [0,8] [] (ah 2 (aw (D.N k [1,1,1]) D.K0)) (T1 a1 dv)
def r1 (a1:A):((List ax)×Int)->P:=am (λw v=>B1 k w (q2 a1) a1 v) k
theorem kL (a1:A):s1 k a1=r1 k a1:=by
 funext dv;have h2:jJ (ah 2 (aw (D.N k [1,1,1]) D.K0)) a1=q2 a1:=funext λz=>wN k a1 z;refine (ap _ _ _ (T1 a1) (λself v=>B1 k self (jJ (ah 2 (aw (D.N k [1,1,1]) D.K0)) a1) a1 v) (λrec v=>u7 k rec (ah 2 (aw (D.N k [1,1,1]) D.K0)) a1 v) k dv).trans ?_;rw[h2];rfl
def q0 (l1:((List ax)×Int)->P) (a1:A) (kf:(Unit)):P:=l1 (a1.1,0)
def Q0 (a1:A) (kf:(Unit)):P:=q0 (r1 k a1) a1 kf
theorem tA (a1:A) (kf:(Unit)):cw (ah 0 (aw (D.N k [1,1]) D.K0)) a1 kf=Q0 k a1 kf:=
 aL (b:=q0 (s1 k a1) a1 kf) Bye (by rw[kL];rfl)
def s0 (a1:A):(Int)->P:=λU=>D.L k [1,0,1,0,0] [0,1,5] [] (ah 0 (aw (D.N k [1,1]) D.K0)) (T0 a1 U)
def r0 (a1:A):(Int)->P:=am (λw v=>b0 w (Q0 k a1) a1 v) k
theorem aq (a1:A):s0 k a1=r0 k a1:=by
 funext U;have h0:cw (ah 0 (aw (D.N k [1,1]) D.K0)) a1=Q0 k a1:=funext λz=>tA k a1 z;refine (ap _ _ _ (T0 a1) (λself v=>b0 self (cw (ah 0 (aw (D.N k [1,1]) D.K0)) a1) a1 v) (λrec v=>kK k rec (ah 0 (aw (D.N k [1,1]) D.K0)) a1 v) k U).trans ?_;rw[h0];rfl
def p (l0:(Int)->P) (a1:A):P:=l0 0
theorem ae (a1:A):@Eq P (D.W k a1) (p (r0 k a1) a1):=
 aL (b:=p (s0 k a1) a1) Bye (by rw[aq])
theorem ok:Ok prog 148 D.sig:=al func148 av Bye (fc ng.ok (ai _))
end d6
namespace fq
abbrev A:=(List Byt)×Unit
abbrev O:=(List ax)×Unit
abbrev P:=Option O
noncomputable def D:FD:={ fn:=f149,tl:=az,ps:=[(.ro,(.aa (.aa u8)))],rs:=[((.aa ij),(aj (.aa ij)))],gl:=[(228,c_.D.sig),(229,cn.D.sig),(230,mr.D.sig),(231,j_.D.sig)],lv:=[(3,[0,3,4]),(6,[0,3,4,5])],lx:=[(0,[3]),(2,[0,3,4])] }
def ab (a:A):P:=@lift O λk=>D.W k a
def T0 (a1:A) (U:(List Byt)×(List ax)×Int):St:={ n:=49,sl:=[(0,.val (.aa (.aa u8)) U.1),(3,.own (.aa ij) (aj (.aa ij)) [] U.2.1),(4,.val i64 U.2.2)],vr:=[],ay:=[] }
def S0 (rec:RT O) (a1:A):((List Byt)×(List ax)×Int)->P:=λU=>rec (T0 a1 U)
def cw (K:KT O) (a1:A):(List ax)->P:=λz=>K (.exit 0) ({ n:=49,sl:=[(3,.own (.aa ij) (aj (.aa ij)) [] z)],vr:=[],ay:=[] })
def T1 (a1:A) (nf:List Byt) (fa:Int) (nt:(List ax)×Int):St:={ n:=49,sl:=[(0,.val (.aa (.aa u8)) nf),(3,.own (.aa ij) (aj (.aa ij)) [] nt.1),(4,.val i64 fa),(5,.val i64 nt.2)],vr:=[],ay:=[] }
def b1 (self:((List ax)×Int)->P) (e2:(List ax)->P) (a1:A) (nf:List Byt) (fa:Int) (nt:(List ax)×Int):P:=if 0<=fa then ((nf[fa.toNat]?).bind λEP=>(c_.ab (EP,())).bind λUv=>cond (decide (nt.2 < Uv.1)) (if 0<=fa then ((nf[fa.toNat]?).bind λKn=>(cn.ab (Kn,nt.2,())).bind λUt=>cond (decide (0 < Ut.1)) (if 0<=fa then ((nf[fa.toNat]?).bind λyN=>(j_.ab (yN,nt.2,())).bind λKo=>(mr.ab (Ko.1,())).bind λNP=>if nt.1.length+[(fa,nt.2,NP.1,())].length<=ct then (let Uw:=nt.1++[(fa,nt.2,NP.1,())];self (Uw,af (nt.2+1))) else none) else none)<|self (nt.1,af (nt.2+1))) else none)<|e2 nt.1) else none
def q0 (self:((List Byt)×(List ax)×Int)->P) (e0:(List ax)->P) (a1:A) (nf:List Byt) (fa:Int) (EQ:(List ax)):P:=self (nf,EQ,af (fa+1))
def s1 (rec:RT O) (K:KT O) (a1:A):(List Byt)->Int->((List ax)×Int)->P:=λnf fa=>λnt=>D.L k [1,1,0,1,0,0,1,0,0,1,0,0] [0,3,4,5] [] (ah 2 (ah 1 (aw (D.N k [1,1,0,1,0,0,1,1]) (im rec (fm [0,3,4] []) K)))) (T1 a1 nf fa nt)
def r1 (self:((List Byt)×(List ax)×Int)->P) (e0:(List ax)->P) (a1:A):(List Byt)->Int->((List ax)×Int)->P:=λnf fa=>am (λw v=>b1 w (q0 self e0 a1 nf fa) a1 nf fa v) k
theorem kL (rec:RT O) (K:KT O) (a1:A):s1 k rec K a1=r1 k (S0 rec a1) (cw K a1) a1:=
 funext λnf=>funext λfa=>funext λnt=>ap _ _ _ (T1 a1 nf fa) _ (λrec v=>Bye) k nt
def b0 (self:((List Byt)×(List ax)×Int)->P) (e0:(List ax)->P) (l1:(List Byt)->Int->((List ax)×Int)->P) (a1:A) (U:(List Byt)×(List ax)×Int):P:=cond (decide (U.2.2 < (U.1.length:Int))) (l1 U.1 U.2.2 (U.2.1,0))<|e0 U.2.1
def B0 (self:((List Byt)×(List ax)×Int)->P) (e0:(List ax)->P) (a1:A) (U:(List Byt)×(List ax)×Int):P:=b0 self e0 (r1 k self e0 a1) a1 U
theorem kK (rec:RT O) (K:KT O) (a1:A) (U:(List Byt)×(List ax)×Int):D.N k [1,1,0,1,0,0] (T0 a1 U) (im rec (fm [0,3,4] []) K)=B0 k (S0 rec a1) (cw K a1) a1 U:=
 aL (b:=b0 (S0 rec a1) (cw K a1) (s1 k rec K a1) a1 U) Bye (by rw[kL];rfl)
def q1 (a1:A) (Bi:(List ax)):P:=some (Bi,())
theorem pN (a1:A) (Bi:(List ax)):cw (ah 0 (aw (D.N k [1,1,1]) D.K0)) a1 Bi=q1 a1 Bi:=Bye
def s0 (a1:A):((List Byt)×(List ax)×Int)->P:=λU=>D.L k [1,1,0,1,0,0] [0,3,4] [] (ah 0 (aw (D.N k [1,1,1]) D.K0)) (T0 a1 U)
def r0 (a1:A):((List Byt)×(List ax)×Int)->P:=am (λw v=>B0 k w (q1 a1) a1 v) k
theorem aq (a1:A):s0 k a1=r0 k a1:=by
 funext U;have h0:cw (ah 0 (aw (D.N k [1,1,1]) D.K0)) a1=q1 a1:=funext λz=>pN k a1 z;refine (ap _ _ _ (T0 a1) (λself v=>B0 k self (cw (ah 0 (aw (D.N k [1,1,1]) D.K0)) a1) a1 v) (λrec v=>kK k rec (ah 0 (aw (D.N k [1,1,1]) D.K0)) a1 v) k U).trans ?_;rw[h0];rfl
def p (l0:((List Byt)×(List ax)×Int)->P) (a1:A):P:=l0 (a1.1,([]:List ax),0)
theorem ae (a1:A):@Eq P (D.W k a1) (p (r0 k a1) a1):=
 aL (b:=p (s0 k a1) a1) Bye (by rw[aq])
theorem ok:Ok prog 149 D.sig:=al func149 av Bye (fc c_.ok (fc cn.ok (fc mr.ok (fc j_.ok (ai _)))))
end fq
namespace jn
abbrev A:=(List Byt)×Unit
abbrev O:=(List ax)×Unit
abbrev P:=Option O
noncomputable def D:FD:={ fn:=f150,tl:=az,ps:=[(.ro,(.aa (.aa u8)))],rs:=[((.aa ij),(aj (.aa ij)))],gl:=[(149,fq.D.sig),(232,ng.D.sig)],lv:=[(4,[0,3,4,5])],lx:=[(0,[3]),(1,[0,3,4,5])] }
def ab (a:A):P:=@lift O λk=>D.W k a
variable (a1:A)
def T0 (d7:List ax) (bf:(List ax)×Int):St:={ n:=50,sl:=[(0,.val (.aa (.aa u8)) a1.1),(3,.own (.aa ij) (aj (.aa ij)) [] bf.1),(4,.own (.aa ij) (aj (.aa ij)) [] d7),(5,.val i64 bf.2)],vr:=[],ay:=[] }
def b0 (self:((List ax)×Int)->P) (e0:(List ax)->P) (a1:A) (d7:List ax) (bf:(List ax)×Int):P:=cond (decide (bf.2 < (d7.length:Int))) (if 0<=bf.2/\bf.2 < (d7.length:Int) then ((d7[bf.2.toNat]?).bind λen=>cond (decide (en.2.2.1.2.1=2)) (self (bf.1,af (bf.2+1)))<|let Pg:=λ(acd:ax)=>(if bf.1.length+[acd].length<=ct then (self (bf.1++[acd],af (bf.2+1))) else none:P);cond (decide (en.2.2.1.2.1=1)) ((ng.ab (a1.1,en.2.2.1.2.2.1,en.2.2.1.2.2.2.1,())).bind λjm=>Pg (en.1,en.2.1,(en.2.2.1.1,en.2.2.1.2.1,en.2.2.1.2.2.1,en.2.2.1.2.2.2.1,jm.1.2.2.2.2.1,en.2.2.1.2.2.2.2.2),en.2.2.2))<|Pg en) else none)<|e0 bf.1
def q0 (a1:A) (d7:List ax) (YL:(List ax)):P:=some (YL,())
def r0:(List ax)->((List ax)×Int)->P:=λd7=>am (λw v=>b0 w (q0 a1 d7) a1 d7 v) k
theorem aq:@Eq ((List ax)->((List ax)×Int)->P) (λd7=>λbf=>D.L k [1,1,1,0,1,0,0] [0,3,4,5] [] (ah 0 (aw (D.N k [1,1,1,1]) D.K0)) (T0 a1 d7 bf)) (r0 k a1):=
 funext λd7=>funext λbf=>ap _ _ _ (T0 a1 d7) _ (λrec v=>Bye) k bf
def p (l0:(List ax)->((List ax)×Int)->P) (a1:A):P:=(fq.ab (a1.1,())).bind λr2=>l0 r2.1 (([]:List ax),0)
theorem ae:@Eq P (D.W k a1) (p (r0 k a1) a1):=By8 (aq k a1) Bye
theorem ok:Ok prog 150 D.sig:=al func150 av Bye (fc fq.ok (fc ng.ok (ai _)))
end jn
namespace ic
abbrev A:=(List Byt)×Unit
abbrev O:=Int×Unit
abbrev P:=Option O
noncomputable def D:FD:={ fn:=f88,tl:=az,ps:=[(.ro,(.aa (.aa u8)))],rs:=[(i64,(ak i64))],gl:=[(147,h_.D.sig),(148,d6.D.sig),(149,fq.D.sig),(150,jn.D.sig)],lv:=[(11,[5,6]),(14,[5,6,7])],lx:=[(0,[]),(2,[5,6])],od:=[(16,[0,1,2,3,4,5,6,7,8,9,10,11,12,13,14,15,16,17,18,19,20,21,22,23,24,25,26,27,28,29,30,31])] }
def ab (a:A):P:=@lift O λk=>D.W k a
def T0 (a1:A) (u9:(List ax)×Int):St:={ n:=68,sl:=[(5,.own (.aa ij) (aj (.aa ij)) [] u9.1),(6,.val i64 u9.2)],vr:=[],ay:=[] }
def S0 (rec:RT O) (a1:A):((List ax)×Int)->P:=λu9=>rec (T0 a1 u9)
def cw (K:KT O) (a1:A):(Unit)->P:=λz=>K (.exit 0) ({ n:=68,sl:=[],vr:=[],ay:=[] })
def T1 (a1:A) (bt:List ax) (bY:Int) (mt:Int):St:={ n:=68,sl:=[(5,.own (.aa ij) (aj (.aa ij)) [] bt),(6,.val i64 bY),(7,.val i64 mt)],vr:=[],ay:=[] }
def b1 (self:Int->P) (e2:(Unit)->P) (a1:A) (bt:List ax) (bY:Int) (mt:Int):P:=cond (decide (mt < bY)) (if 0<=bY/\bY < (bt.length:Int) then ((bt[bY.toNat]?).bind λyN=>if 0<=mt/\mt < (bt.length:Int) then ((bt[mt.toNat]?).bind λum=>cond (decide (yN.2.2.1.2.2.2.2.1.1=um.2.2.1.2.2.2.2.1.1)) (if 0<=bY/\bY < (bt.length:Int) then ((bt[bY.toNat]?).bind λHV=>if 0<=mt/\mt < (bt.length:Int) then ((bt[mt.toNat]?).bind λvY=>cond (decide (HV.2.2.1.2.2.2.2.1.2.1=vY.2.2.1.2.2.2.2.1.2.1)) (some (8,()))<|self (af (mt+1))) else none) else none)<|self (af (mt+1))) else none) else none)<|e2 ()
def q0 (self:((List ax)×Int)->P) (e0:(Unit)->P) (a1:A) (bt:List ax) (bY:Int) (EQ:(Unit)):P:=self (bt,af (bY+1))
def s1 (rec:RT O) (K:KT O) (a1:A):(List ax)->Int->(Int)->P:=λbt bY=>λmt=>D.L k [1,1,1,1,1,0,1,0,0,1,0,0,1,0,0] [5,6,7] [] (ah 2 (ah 1 (aw (D.N k [1,1,1,1,1,0,1,0,0,1,1]) (im rec (fm [5,6] []) K)))) (T1 a1 bt bY mt)
def r1 (self:((List ax)×Int)->P) (e0:(Unit)->P) (a1:A):(List ax)->Int->(Int)->P:=λbt bY=>am (λw v=>b1 w (q0 self e0 a1 bt bY) a1 bt bY v) k
theorem kL (rec:RT O) (K:KT O) (a1:A):s1 k rec K a1=r1 k (S0 rec a1) (cw K a1) a1:=
 funext λbt=>funext λbY=>funext λmt=>ap _ _ _ (T1 a1 bt bY) _ (λrec v=>Bye) k mt
def b0 (self:((List ax)×Int)->P) (e0:(Unit)->P) (l1:(List ax)->Int->(Int)->P) (a1:A) (u9:(List ax)×Int):P:=cond (decide (u9.2 < (u9.1.length:Int))) (l1 u9.1 u9.2 0)<|e0 ()
def B0 (self:((List ax)×Int)->P) (e0:(Unit)->P) (a1:A) (u9:(List ax)×Int):P:=b0 self e0 (r1 k self e0 a1) a1 u9
theorem kK (rec:RT O) (K:KT O) (a1:A) (u9:(List ax)×Int):D.N k [1,1,1,1,1,0,1,0,0] (T0 a1 u9) (im rec (fm [5,6] []) K)=B0 k (S0 rec a1) (cw K a1) a1 u9:=
 aL (b:=b0 (S0 rec a1) (cw K a1) (s1 k rec K a1) a1 u9) Bye (by rw[kL];rfl)
def q1 (a1:A) (Bi:(Unit)):P:=some (0,())
theorem pN (a1:A) (Bi:(Unit)):cw (ah 0 (aw (D.N k [1,1,1,1,1,1]) D.K0)) a1 Bi=q1 a1 Bi:=Bye
def s0 (a1:A):((List ax)×Int)->P:=λu9=>D.L k [1,1,1,1,1,0,1,0,0] [5,6] [] (ah 0 (aw (D.N k [1,1,1,1,1,1]) D.K0)) (T0 a1 u9)
def r0 (a1:A):((List ax)×Int)->P:=am (λw v=>B0 k w (q1 a1) a1 v) k
theorem aq (a1:A):s0 k a1=r0 k a1:=by
 funext u9;have h0:cw (ah 0 (aw (D.N k [1,1,1,1,1,1]) D.K0)) a1=q1 a1:=funext λz=>pN k a1 z;refine (ap _ _ _ (T0 a1) (λself v=>B0 k self (cw (ah 0 (aw (D.N k [1,1,1,1,1,1]) D.K0)) a1) a1 v) (λrec v=>kK k rec (ah 0 (aw (D.N k [1,1,1,1,1,1]) D.K0)) a1 v) k u9).trans ?_;rw[h0];rfl
def p (l0:((List ax)×Int)->P) (a1:A):P:=cond (decide (12 < (a1.1.length:Int))) (some (2,()))<|(h_.ab (a1.1,())).bind λr2=>cond (!decide (r2.1=0)) (some (r2.1,()))<|(fq.ab (a1.1,())).bind λr3=>(d6.ab (r3.1,a1.1,())).bind λr4=>cond (!decide (r4.1=0)) (some (r4.1,()))<|(jn.ab (a1.1,())).bind λr5=>l0 (r5.1,0)
theorem ae (a1:A):@Eq P (D.W k a1) (p (r0 k a1) a1):=
 aL (b:=p (s0 k a1) a1) Bye (by rw[aq])
theorem ok:Ok prog 88 D.sig:=al func88 av Bye (fc h_.ok (fc d6.ok (fc fq.ok (fc jn.ok (ai _)))))
end ic
namespace nY
abbrev A:=Row×Row×Unit
abbrev O:=Bool×Unit
noncomputable def D:FD:={ fn:=f233,tl:=az,ps:=[(.ro,(.ptr aT)),(.ro,(.ptr aT))],rs:=[(.bool,(ak .bool))],od:=[(1,[0,1,2,3,4,5,6,7,8,9,10,11,12,13,14,15,16,17,18,19,20,21,22,23,24,25,26,27,28,29,30,31])] }
def ab (a:A):Option O:=@lift O λk=>D.W k a
def p (a1:A):Option O:=cond (decide (a1.1.1 < a1.2.1.1)) (some (true,()))<|cond (decide (a1.1.1=a1.2.1.1)) (some (decide (a1.1.2.1 < a1.2.1.2.1),()))<|some (false,())
theorem ae (a1:A):@Eq (Option O) (D.W k a1) (p a1):=Bye
theorem ok:Ok prog 233 D.sig:=al func233 av Bye (ai _)
end nY
namespace lk
abbrev A:=(List Row)×Row×Unit
abbrev O:=(List Row)×Unit
abbrev P:=Option O
noncomputable def D:FD:={ fn:=f151,tl:=az,ps:=[(.ro,(.aa aT)),(.ro,aT)],rs:=[((.aa aT),(aj (.aa aT)))],gl:=[(233,nY.D.sig)],lv:=[(2,[0,3,5])],lx:=[(0,[0,3,5])],od:=[(5,[0,1,4,5,6,2,3,7,8])] }
def ab (a:A):P:=@lift O λk=>D.W k a
variable (a1:A)
def T0 (U:Int):St:={ n:=32,sl:=[(0,.val (.aa aT) a1.1),(3,.box aT (ak aT) [] a1.2.1),(5,.val i64 U)],vr:=[],ay:=[] }
def b0 (self:Int->P) (e0:Int->P) (a1:A) (U:Int):P:=cond (decide (U < (a1.1.length:Int))) (if 0<=U then ((a1.1[U.toNat]?).bind λa7=>(nY.ab (a7,a1.2.1,())).bind λdz=>cond dz.1 (self (af (U+1)))<|e0 U) else none)<|e0 U
def q0 (e8:Int):P:=if 0<=e8/\e8<=(a1.1.length:Int) then (if ([]:List Row).length+((a1.1.take e8.toNat).drop 0).length<=ct then (let yM:=([]:List Row)++((a1.1.take e8.toNat).drop 0);if 0<=e8/\e8<=(a1.1.length:Int) then (if yM.length+[a1.2.1].length<=ct then (if (yM++[a1.2.1]).length+((a1.1.take a1.1.length).drop e8.toNat).length<=ct then (let Dz:=(yM++[a1.2.1])++((a1.1.take a1.1.length).drop e8.toNat);some (Dz,())) else none) else none) else none) else none) else none
def r0:(Int)->P:=am (λw v=>b0 w (q0 a1) a1 v) k
theorem aq:@Eq ((Int)->P) (λU=>D.L k [1,1,0,0,0] [0,3,5] [] (ah 0 (aw (D.N k [1,1,1]) D.K0)) (T0 a1 U)) (r0 k a1):=
 funext λU=>ap _ _ _ (T0 a1) _ (λrec v=>Bye) k U
def p (l0:(Int)->P) (a1:A):P:=l0 0
theorem ae:@Eq P (D.W k a1) (p (r0 k a1) a1):=By8 (aq k a1) Bye
theorem ok:Ok prog 151 D.sig:=al func151 av Bye (fc nY.ok (ai _))
end lk
namespace jk
abbrev A:=(List Byt)×Unit
abbrev O:=(List Row)×Unit
abbrev P:=Option O
noncomputable def D:FD:={ fn:=f89,tl:=az,ps:=[(.ro,(.aa (.aa u8)))],rs:=[((.aa aT),(aj (.aa aT)))],gl:=[(150,jn.D.sig),(151,lk.D.sig)],lv:=[(4,[3,4,5])],lx:=[(0,[3])] }
def ab (a:A):P:=@lift O λk=>D.W k a
variable (a1:A)
def T0 (a1:A) (d7:List ax) (bf:(List Row)×Int):St:={ n:=24,sl:=[(3,.own (.aa aT) (aj (.aa aT)) [] bf.1),(4,.own (.aa ij) (aj (.aa ij)) [] d7),(5,.val i64 bf.2)],vr:=[],ay:=[] }
def b0 (self:((List Row)×Int)->P) (e0:(List Row)->P) (a1:A) (d7:List ax) (bf:(List Row)×Int):P:=cond (decide (bf.2 < (d7.length:Int))) (if 0<=bf.2/\bf.2 < (d7.length:Int) then ((d7[bf.2.toNat]?).bind λen=>(lk.ab (bf.1,en.2.2.1.2.2.2.2.1,())).bind λjm=>self (jm.1,af (bf.2+1))) else none)<|e0 bf.1
def q0 (a1:A) (d7:List ax) (kf:(List Row)):P:=some (kf,())
def r0:(List ax)->((List Row)×Int)->P:=λd7=>am (λw v=>b0 w (q0 a1 d7) a1 d7 v) k
theorem aq:@Eq ((List ax)->((List Row)×Int)->P) (λd7=>λbf=>D.L k [1,1,1,0,1,0,0] [3,4,5] [] (ah 0 (aw (D.N k [1,1,1,1]) D.K0)) (T0 a1 d7 bf)) (r0 k a1):=
 funext λd7=>funext λbf=>ap _ _ _ (T0 a1 d7) _ (λrec v=>Bye) k bf
def p (l0:(List ax)->((List Row)×Int)->P) (a1:A):P:=(jn.ab (a1.1,())).bind λr2=>l0 r2.1 (([]:List Row),0)
theorem ae:@Eq P (D.W k a1) (p (r0 k a1) a1):=By8 (aq k a1) Bye
theorem ok:Ok prog 89 D.sig:=al func89 av Bye (fc jn.ok (fc lk.ok (ai _)))
end jk
namespace kd
abbrev A:=(List Row)×Unit
abbrev O:=Int×Unit
abbrev P:=Option O
noncomputable def D:FD:={ fn:=f152,tl:=az,ps:=[(.ro,(.aa aT))],rs:=[(i64,(ak i64))],gl:=[(233,nY.D.sig),(234,gn.D.sig)],lv:=[(4,[0,3])],lx:=[(0,[])],od:=[(9,[0,1,2,3,4,5,6,7,8,9,10,11,12])] }
def ab (a:A):P:=@lift O λk=>D.W k a
variable (a1:A)
def T0 (U:Int):St:={ n:=34,sl:=[(0,.val (.aa aT) a1.1),(3,.val i64 U)],vr:=[],ay:=[] }
def b0 (self:Int->P) (e0:(Unit)->P) (a1:A) (U:Int):P:=cond (decide (U < (a1.1.length:Int))) (if 0<=U then ((a1.1[U.toNat]?).bind λa7=>(gn.ab (a7,())).bind λdz=>cond (!decide (dz.1=0)) (some (dz.1,()))<|cond (decide (0 < U)) (if 0<=af (U - 1) then ((a1.1[(af (U - (1:Int))).toNat]?).bind λen=>if 0<=U then ((a1.1[U.toNat]?).bind λtW=>(nY.ab (en,tW,())).bind λky=>cond (!ky.1) (some (1,()))<|self (af (U+1))) else none) else none)<|self (af (U+1))) else none)<|e0 ()
def q0 (a1:A) (sY:(Unit)):P:=some (0,())
def r0:(Int)->P:=am (λw v=>b0 w (q0 a1) a1 v) k
theorem aq:@Eq ((Int)->P) (λU=>D.L k [1,1,0,1,0,0] [0,3] [] (ah 0 (aw (D.N k [1,1,1]) D.K0)) (T0 a1 U)) (r0 k a1):=
 funext λU=>ap _ _ _ (T0 a1) _ (λrec v=>Bye) k U
def p (l0:(Int)->P) (a1:A):P:=cond (decide (60 < (a1.1.length:Int))) (some (2,()))<|l0 0
theorem ae:@Eq P (D.W k a1) (p (r0 k a1) a1):=By8 (aq k a1) Bye
theorem ok:Ok prog 152 D.sig:=al func152 av Bye (fc nY.ok (fc gn.ok (ai _)))
end kd
namespace qh
abbrev A:=Change×Unit
abbrev O:=Int×Unit
noncomputable def D:FD:={ fn:=f203,tl:=az,ps:=[(.ro,(.ptr ao))],rs:=[(i64,(ak i64))],gl:=[(234,gn.D.sig)],od:=[(1,[0,1,2,3,4,5,6,7,8,9,10,11,12,13,14,15,16,17,18,19,20,21,22,23,24,25,26,27,28,29,30,31,32,33,34,35,36,37,38,39,40,41,42,43,44,45,46,47,48,49])] }
def ab (a:A):Option O:=@lift O λk=>D.W k a
def p (a1:A):Option O:=let j5:Option O:=cond a1.1.1 ((gn.ab (a1.1.2.1,())).bind λr6=>cond (!decide (r6.1=0)) (some (r6.1,()))<|cond a1.1.2.2.1 ((gn.ab (a1.1.2.2.2.1,())).bind λr8=>some (r8.1,()))<|some (0,()))<|cond a1.1.2.2.1 ((gn.ab (a1.1.2.2.2.1,())).bind λr9=>some (r9.1,()))<|some (0,());cond (!a1.1.1) (cond (!a1.1.2.2.1) (some (1,()))<|cond a1.1.1 (cond a1.1.2.2.1 (cond (!decide (a1.1.2.1.1=a1.1.2.2.2.1.1)) (some (1,()))<|cond (!decide (a1.1.2.1.2.1=a1.1.2.2.2.1.2.1)) (some (1,()))<|j5)<|j5)<|j5)<|cond a1.1.1 (cond a1.1.2.2.1 (cond (!decide (a1.1.2.1.1=a1.1.2.2.2.1.1)) (some (1,()))<|cond (!decide (a1.1.2.1.2.1=a1.1.2.2.2.1.2.1)) (some (1,()))<|j5)<|j5)<|j5
theorem ae (a1:A):@Eq (Option O) (D.W k a1) (p a1):=Bye
theorem ok:Ok prog 203 D.sig:=al func203 av Bye (fc gn.ok (ai _))
end qh
namespace qi
abbrev A:=Change×Unit
abbrev O:=Int×Unit
noncomputable def D:FD:={ fn:=f124,tl:=az,ps:=[(.ro,(.ptr ao))],rs:=[(i64,(ak i64))],gl:=[(203,qh.D.sig)],od:=[(4,[0,1,2,3,4,5,6,7,8,9,10,11,12,13,14,15,16,17,18,19,20])] }
def ab (a:A):Option O:=@lift O λk=>D.W k a
def p (a1:A):Option O:=(qh.ab (a1.1,())).bind λr2=>cond (!decide (r2.1=0)) (some (r2.1,()))<|cond a1.1.1 (cond a1.1.2.2.1 (cond (Ty.eq aT a1.1.2.1 a1.1.2.2.2.1) (some (1,()))<|some (0,()))<|some (0,()))<|some (0,())
theorem ae (a1:A):@Eq (Option O) (D.W k a1) (p a1):=Bye
theorem ok:Ok prog 124 D.sig:=al func124 av Bye (fc qh.ok (ai _))
end qi
namespace jA
abbrev A:=Change×Unit
abbrev O:=Int×Int×Unit
noncomputable def D:FD:={ fn:=f204,tl:=az,ps:=[(.ro,(.ptr ao))],rs:=[(i64,(ak i64)),(i64,(ak i64))],od:=[(2,[0,1,2,3,4,5,6,7,8,9,10,11]),(3,[0,1,2,3,4,5,6,7,8,9,10,11])] }
def ab (a:A):Option O:=@lift O λk=>D.W k a
def p (a1:A):Option O:=cond a1.1.2.2.1 (some (a1.1.2.2.2.1.1,a1.1.2.2.2.1.2.1,()))<|some (a1.1.2.1.1,a1.1.2.1.2.1,())
theorem ae (a1:A):@Eq (Option O) (D.W k a1) (p a1):=Bye
theorem ok:Ok prog 204 D.sig:=al func204 av Bye (ai _)
end jA
namespace mY
abbrev A:=Change×Unit
abbrev O:=Key×Unit
noncomputable def D:FD:={ fn:=f250,tl:=az,ps:=[(.ro,(.ptr ao))],rs:=[(bc,(ak bc))],gl:=[(204,jA.D.sig)] }
def ab (a:A):Option O:=@lift O λk=>D.W k a
def p (a1:A):Option O:=(jA.ab (a1.1,())).bind λr2=>some ((r2.1,r2.2.1,()),())
theorem ae (a1:A):@Eq (Option O) (D.W k a1) (p a1):=Bye
theorem ok:Ok prog 250 D.sig:=al func250 av Bye (fc jA.ok (ai _))
end mY
namespace i9
abbrev A:=Tx×Key×Unit
abbrev O:=Bool×Unit
abbrev P:=Option O
noncomputable def D:FD:={ fn:=f251,tl:=az,ps:=[(.ro,(.ptr bh)),(.ro,bc)],rs:=[(.bool,(ak .bool))],lv:=[(2,[0,3,5])],lx:=[(0,[])],od:=[(4,[0,1,2,3,4,5,6,7,8])] }
def ab (a:A):P:=@lift O λk=>D.W k a
variable (a1:A)
def T0 (U:Int):St:={ n:=24,sl:=[(0,.cp bh a1.1),(3,.box bc (ak bc) [] a1.2.1),(5,.val i64 U)],vr:=[],ay:=[] }
def b0 (self:Int->P) (e0:(Unit)->P) (a1:A) (U:Int):P:=cond (decide (U < (a1.1.2.2.2.1.length:Int))) (if 0<=U then ((a1.1.2.2.2.1[U.toNat]?).bind λa7=>cond (Ty.eq bc a7 a1.2.1) (some (true,()))<|self (af (U+1))) else none)<|e0 ()
def q0 (a1:A) (l_:(Unit)):P:=some (false,())
def r0:(Int)->P:=am (λw v=>b0 w (q0 a1) a1 v) k
theorem aq:@Eq ((Int)->P) (λU=>D.L k [1,0,1,0,0] [0,3,5] [] (ah 0 (aw (D.N k [1,1]) D.K0)) (T0 a1 U)) (r0 k a1):=
 funext λU=>ap _ _ _ (T0 a1) _ (λrec v=>Bye) k U
def p (l0:(Int)->P) (a1:A):P:=l0 0
theorem ae:@Eq P (D.W k a1) (p (r0 k a1) a1):=By8 (aq k a1) Bye
theorem ok:Ok prog 251 D.sig:=al func251 av Bye (ai _)
end i9
namespace mZ
abbrev A:=Tx×Unit
abbrev O:=Int×Unit
abbrev P:=Option O
noncomputable def D:FD:={ fn:=f235,tl:=az,ps:=[(.ro,(.ptr bh))],rs:=[(i64,(ak i64))],gl:=[(124,qi.D.sig),(250,mY.D.sig),(251,i9.D.sig)],lv:=[(2,[0,3])],lx:=[(0,[])] }
def ab (a:A):P:=@lift O λk=>D.W k a
variable (a1:A)
def T0 (U:Int):St:={ n:=34,sl:=[(0,.cp bh a1.1),(3,.val i64 U)],vr:=[],ay:=[] }
def b0 (self:Int->P) (e0:(Unit)->P) (a1:A) (U:Int):P:=cond (decide (U < (a1.1.2.1.length:Int))) (if 0<=U then ((a1.1.2.1[U.toNat]?).bind λa7=>(qi.ab (a7,())).bind λdz=>cond (!decide (dz.1=0)) (some (dz.1,()))<|if 0<=U then ((a1.1.2.1[U.toNat]?).bind λen=>(mY.ab (en,())).bind λjm=>(i9.ab (a1.1,jm.1,())).bind λky=>cond (!ky.1) (some (8,()))<|self (af (U+1))) else none) else none)<|e0 ()
def q0 (a1:A) (sY:(Unit)):P:=some (0,())
def r0:(Int)->P:=am (λw v=>b0 w (q0 a1) a1 v) k
theorem aq:@Eq ((Int)->P) (λU=>D.L k [1,0,1,0,0] [0,3] [] (ah 0 (aw (D.N k [1,1]) D.K0)) (T0 a1 U)) (r0 k a1):=
 funext λU=>ap _ _ _ (T0 a1) _ (λrec v=>Bye) k U
def p (l0:(Int)->P) (a1:A):P:=l0 0
theorem ae:@Eq P (D.W k a1) (p (r0 k a1) a1):=By8 (aq k a1) Bye
theorem ok:Ok prog 235 D.sig:=al func235 av Bye (fc qi.ok (fc mY.ok (fc i9.ok (ai _))))
end mZ
namespace tY
abbrev A:=Key×Unit
abbrev O:=Bool×Unit
noncomputable def D:FD:={ fn:=f291,tl:=az,ps:=[(.ro,(.ptr bc))],rs:=[(.bool,(ak .bool))],gl:=[(65,bp.D.sig)] }
def ab (a:A):Option O:=@lift O λk=>D.W k a
def p (a1:A):Option O:=(bp.ab (a1.1.1,0,3,())).bind λr2=>cond r2.1 ((bp.ab (a1.1.2.1,1,99,())).bind λr3=>some (r3.1,()))<|some (false,())
theorem ae (a1:A):@Eq (Option O) (D.W k a1) (p a1):=Bye
theorem ok:Ok prog 291 D.sig:=al func291 av Bye (fc bp.ok (ai _))
end tY
namespace dw
abbrev A:=Tx×Unit
abbrev O:=Int×Unit
abbrev P:=Option O
noncomputable def D:FD:={ fn:=f236,tl:=az,ps:=[(.ro,(.ptr bh))],rs:=[(i64,(ak i64))],gl:=[(65,bp.D.sig),(291,tY.D.sig)],lv:=[(4,[0,3]),(9,[0,4]),(14,[0,4,5])],lx:=[(0,[0]),(2,[]),(4,[0,4])],od:=[(6,[0,1,2,3,4,5,6,7,8,9,10,11,12,13,14,15,16,17,18,19,20,21,22,23,24,25,26,27,28,29,30,31,32,33,34,35]),(16,[0,1,2,3,4,5,6,7,8,9,10,11,12,13,14])],ar:=[(6,[3,6,10,21,24,28,32])] }
def ab (a:A):P:=@lift O λk=>D.W k a
def T0 (a1:A) (U:Int):St:={ n:=102,sl:=[(0,.cp bh a1.1),(3,.val i64 U)],vr:=[],ay:=[] }
def S0 (rec:RT O) (a1:A):(Int)->P:=λU=>rec (T0 a1 U)
def cw (K:KT O) (a1:A):(Unit)->P:=λz=>K (.exit 0) ({ n:=102,sl:=[(0,.cp bh a1.1)],vr:=[],ay:=[] })
def b0 (self:Int->P) (e0:(Unit)->P) (a1:A) (U:Int):P:=cond (decide (U < (a1.1.2.2.1.length:Int))) (if 0<=U then ((a1.1.2.2.1[U.toNat]?).bind λa7=>(bp.ab (a7,0,(a1.1.2.1.length:Int),())).bind λdz=>cond (!dz.1) (some (3,()))<|cond (decide (0 < U)) (if 0<=U then ((a1.1.2.2.1[U.toNat]?).bind λen=>if 0<=af (U - 1) then ((a1.1.2.2.1[(af (U - (1:Int))).toNat]?).bind λtW=>cond (decide (en < tW)) (some (3,()))<|self (af (U+1))) else none) else none)<|self (af (U+1))) else none)<|e0 ()
theorem kK (rec:RT O) (K:KT O) (a1:A) (U:Int):D.N k [1,1,0,1,0,0] (T0 a1 U) (im rec (fm [0,3] []) K)=b0 (S0 rec a1) (cw K a1) a1 U:=Bye
def T1 (a1:A) (dv:Tx×Int):St:={ n:=102,sl:=[(0,.cp bh dv.1),(4,.val i64 dv.2)],vr:=[],ay:=[] }
def S1 (rec:RT O) (a1:A):(Tx×Int)->P:=λdv=>rec (T1 a1 dv)
def jJ (K:KT O) (a1:A):(Unit)->P:=λz=>K (.exit 2) ({ n:=102,sl:=[],vr:=[],ay:=[] })
def T2 (a1:A) (iw:Tx) (e_:Int) (l5:Int):St:={ n:=102,sl:=[(0,.cp bh iw),(4,.val i64 e_),(5,.val i64 l5)],vr:=[],ay:=[] }
def b2 (self:Int->P) (e4:(Unit)->P) (a1:A) (iw:Tx) (e_:Int) (l5:Int):P:=cond (decide (l5 < e_)) (if 0<=l5 then ((iw.2.2.2.1[l5.toNat]?).bind λUx=>if 0<=e_ then ((iw.2.2.2.1[e_.toNat]?).bind λac2=>cond (Ty.eq bc Ux ac2) (some (6,()))<|self (af (l5+1))) else none) else none)<|e4 ()
def q1 (self:(Tx×Int)->P) (e2:(Unit)->P) (a1:A) (iw:Tx) (e_:Int) (wM:(Unit)):P:=self (iw,af (e_+1))
def s2 (rec:RT O) (K:KT O) (a1:A):Tx->Int->(Int)->P:=λiw e_=>λl5=>D.L k [1,1,1,0,1,0,0,1,0,0,1,1,0,0] [0,4,5] [] (ah 4 (ah 3 (aw (D.N k [1,1,1,0,1,0,0,1,1]) (im rec (fm [0,4] []) K)))) (T2 a1 iw e_ l5)
def r2 (self:(Tx×Int)->P) (e2:(Unit)->P) (a1:A):Tx->Int->(Int)->P:=λiw e_=>am (λw v=>b2 w (q1 self e2 a1 iw e_) a1 iw e_ v) k
theorem tz (rec:RT O) (K:KT O) (a1:A):s2 k rec K a1=r2 k (S1 rec a1) (jJ K a1) a1:=
 funext λiw=>funext λe_=>funext λl5=>ap _ _ _ (T2 a1 iw e_) _ (λrec v=>Bye) k l5
def b1 (self:(Tx×Int)->P) (e2:(Unit)->P) (l2:Tx->Int->(Int)->P) (a1:A) (dv:Tx×Int):P:=cond (decide (dv.2 < (dv.1.2.2.2.1.length:Int))) (if 0<=dv.2 then ((dv.1.2.2.2.1[dv.2.toNat]?).bind λzW=>(tY.ab (zW,())).bind λBj=>cond (!Bj.1) (some (3,()))<|l2 dv.1 dv.2 0) else none)<|e2 ()
def B1 (self:(Tx×Int)->P) (e2:(Unit)->P) (a1:A) (dv:Tx×Int):P:=b1 self e2 (r2 k self e2 a1) a1 dv
theorem u7 (rec:RT O) (K:KT O) (a1:A) (dv:Tx×Int):D.N k [1,1,1,0,1,0,0] (T1 a1 dv) (im rec (fm [0,4] []) K)=B1 k (S1 rec a1) (jJ K a1) a1 dv:=
 aL (b:=b1 (S1 rec a1) (jJ K a1) (s2 k rec K a1) a1 dv) Bye (by rw[tz];rfl)
def q2 (a1:A) (Uy:(Unit)):P:=some (0,())
theorem wN (a1:A) (Uy:(Unit)):jJ (ah 2 (aw (D.N k [1,1,1,1]) D.K0)) a1 Uy=q2 a1 Uy:=Bye
def s1 (a1:A):(Tx×Int)->P:=λdv=>D.L k [1,1,1,0,1,0,0] [0,4] [] (ah 2 (aw (D.N k [1,1,1,1]) D.K0)) (T1 a1 dv)
def r1 (a1:A):(Tx×Int)->P:=am (λw v=>B1 k w (q2 a1) a1 v) k
theorem kL (a1:A):s1 k a1=r1 k a1:=by
 funext dv;have h2:jJ (ah 2 (aw (D.N k [1,1,1,1]) D.K0)) a1=q2 a1:=funext λz=>wN k a1 z;refine (ap _ _ _ (T1 a1) (λself v=>B1 k self (jJ (ah 2 (aw (D.N k [1,1,1,1]) D.K0)) a1) a1 v) (λrec v=>u7 k rec (ah 2 (aw (D.N k [1,1,1,1]) D.K0)) a1 v) k dv).trans ?_;rw[h2];rfl
def q0 (l1:(Tx×Int)->P) (a1:A) (kf:(Unit)):P:=l1 (a1.1,0)
def Q0 (a1:A) (kf:(Unit)):P:=q0 (r1 k a1) a1 kf
theorem tA (a1:A) (kf:(Unit)):cw (ah 0 (aw (D.N k [1,1,1]) D.K0)) a1 kf=Q0 k a1 kf:=
 aL (b:=q0 (s1 k a1) a1 kf) Bye (by rw[kL];rfl)
def s0 (a1:A):(Int)->P:=λU=>D.L k [1,1,0,1,0,0] [0,3] [] (ah 0 (aw (D.N k [1,1,1]) D.K0)) (T0 a1 U)
def r0 (a1:A):(Int)->P:=am (λw v=>b0 w (Q0 k a1) a1 v) k
theorem aq (a1:A):s0 k a1=r0 k a1:=by
 funext U;have h0:cw (ah 0 (aw (D.N k [1,1,1]) D.K0)) a1=Q0 k a1:=funext λz=>tA k a1 z;refine (ap _ _ _ (T0 a1) (λself v=>b0 self (cw (ah 0 (aw (D.N k [1,1,1]) D.K0)) a1) a1 v) (λrec v=>kK k rec (ah 0 (aw (D.N k [1,1,1]) D.K0)) a1 v) k U).trans ?_;rw[h0];rfl
def p (l0:(Int)->P) (a1:A):P:=cond (decide (8 < (a1.1.2.2.1.length:Int))) (some (2,()))<|cond (decide (12 < (a1.1.2.2.2.1.length:Int))) (some (2,()))<|l0 0
theorem ae (a1:A):@Eq P (D.W k a1) (p (r0 k a1) a1):=
 aL (b:=p (s0 k a1) a1) Bye (by rw[aq])
theorem ok:Ok prog 236 D.sig:=al func236 av Bye (fc bp.ok (fc tY.ok (ai _)))
end dw
namespace nL
abbrev A:=(List Tx)×Key×Unit
abbrev O:=Int×Unit
abbrev P:=Option O
noncomputable def D:FD:={ fn:=f292,tl:=az,ps:=[(.ro,(.aa bh)),(.ro,bc)],rs:=[(i64,(ak i64))],gl:=[(251,i9.D.sig)],lv:=[(2,[0,3,5])],lx:=[(0,[])],od:=[(4,[0,1,2,3,4])] }
def ab (a:A):P:=@lift O λk=>D.W k a
variable (a1:A)
def T0 (U:Int):St:={ n:=22,sl:=[(0,.val (.aa bh) a1.1),(3,.box bc (ak bc) [] a1.2.1),(5,.val i64 U)],vr:=[],ay:=[] }
def b0 (self:Int->P) (e0:(Unit)->P) (a1:A) (U:Int):P:=cond (decide (U < (a1.1.length:Int))) (if 0<=U then ((a1.1[U.toNat]?).bind λa7=>(i9.ab (a7,a1.2.1,())).bind λdz=>cond dz.1 (if 0<=U then ((a1.1[U.toNat]?).bind λen=>some (en.1,())) else none)<|self (af (U+1))) else none)<|e0 ()
def q0 (a1:A) (rW:(Unit)):P:=some (0,())
def r0:(Int)->P:=am (λw v=>b0 w (q0 a1) a1 v) k
theorem aq:@Eq ((Int)->P) (λU=>D.L k [1,0,1,0,0] [0,3,5] [] (ah 0 (aw (D.N k [1,1]) D.K0)) (T0 a1 U)) (r0 k a1):=
 funext λU=>ap _ _ _ (T0 a1) _ (λrec v=>Bye) k U
def p (l0:(Int)->P) (a1:A):P:=l0 0
theorem ae:@Eq P (D.W k a1) (p (r0 k a1) a1):=By8 (aq k a1) Bye
theorem ok:Ok prog 292 D.sig:=al func292 av Bye (fc i9.ok (ai _))
end nL
namespace gd
abbrev A:=(List Tx)×Unit
abbrev O:=Bool×Unit
abbrev P:=Option O
noncomputable def D:FD:={ fn:=f237,tl:=az,ps:=[(.ro,(.aa bh))],rs:=[(.bool,(ak .bool))],gl:=[(292,nL.D.sig)],lv:=[(2,[0,3]),(5,[0,3,4])],lx:=[(0,[]),(2,[0,3])],od:=[(7,[0,1,2,3,4,5,6,7,8,10,11,12,13,14,9,15])] }
def ab (a:A):P:=@lift O λk=>D.W k a
def T0 (a1:A) (U:(List Tx)×Int):St:={ n:=37,sl:=[(0,.val (.aa bh) U.1),(3,.val i64 U.2)],vr:=[],ay:=[] }
def S0 (rec:RT O) (a1:A):((List Tx)×Int)->P:=λU=>rec (T0 a1 U)
def cw (K:KT O) (a1:A):(Unit)->P:=λz=>K (.exit 0) ({ n:=37,sl:=[],vr:=[],ay:=[] })
def T1 (a1:A) (nf:List Tx) (fa:Int) (nt:Int):St:={ n:=37,sl:=[(0,.val (.aa bh) nf),(3,.val i64 fa),(4,.val i64 nt)],vr:=[],ay:=[] }
def b1 (self:Int->P) (e2:(Unit)->P) (a1:A) (nf:List Tx) (fa:Int) (nt:Int):P:=if 0<=fa then ((nf[fa.toNat]?).bind λEP=>cond (decide (nt < (EP.2.2.2.1.length:Int))) (if 0<=fa then ((nf[fa.toNat]?).bind λER=>if 0<=nt then ((ER.2.2.2.1[nt.toNat]?).bind λKn=>if 0<=fa then ((nf[fa.toNat]?).bind λzW=>(nL.ab (nf,Kn,())).bind λBj=>cond (!decide (Bj.1=zW.1)) (some (false,()))<|self (af (nt+1))) else none) else none) else none)<|e2 ()) else none
def q0 (self:((List Tx)×Int)->P) (e0:(Unit)->P) (a1:A) (nf:List Tx) (fa:Int) (ES:(Unit)):P:=self (nf,af (fa+1))
def s1 (rec:RT O) (K:KT O) (a1:A):(List Tx)->Int->(Int)->P:=λnf fa=>λnt=>D.L k [1,0,1,0,0,1,0,0,1,0,0] [0,3,4] [] (ah 2 (ah 1 (aw (D.N k [1,0,1,0,0,1,1]) (im rec (fm [0,3] []) K)))) (T1 a1 nf fa nt)
def r1 (self:((List Tx)×Int)->P) (e0:(Unit)->P) (a1:A):(List Tx)->Int->(Int)->P:=λnf fa=>am (λw v=>b1 w (q0 self e0 a1 nf fa) a1 nf fa v) k
theorem kL (rec:RT O) (K:KT O) (a1:A):s1 k rec K a1=r1 k (S0 rec a1) (cw K a1) a1:=
 funext λnf=>funext λfa=>funext λnt=>ap _ _ _ (T1 a1 nf fa) _ (λrec v=>Bye) k nt
def b0 (self:((List Tx)×Int)->P) (e0:(Unit)->P) (l1:(List Tx)->Int->(Int)->P) (a1:A) (U:(List Tx)×Int):P:=cond (decide (U.2 < (U.1.length:Int))) (l1 U.1 U.2 0)<|e0 ()
def B0 (self:((List Tx)×Int)->P) (e0:(Unit)->P) (a1:A) (U:(List Tx)×Int):P:=b0 self e0 (r1 k self e0 a1) a1 U
theorem kK (rec:RT O) (K:KT O) (a1:A) (U:(List Tx)×Int):D.N k [1,0,1,0,0] (T0 a1 U) (im rec (fm [0,3] []) K)=B0 k (S0 rec a1) (cw K a1) a1 U:=
 aL (b:=b0 (S0 rec a1) (cw K a1) (s1 k rec K a1) a1 U) Bye (by rw[kL];rfl)
def q1 (a1:A) (u_:(Unit)):P:=some (true,())
theorem pN (a1:A) (u_:(Unit)):cw (ah 0 (aw (D.N k [1,1]) D.K0)) a1 u_=q1 a1 u_:=Bye
def s0 (a1:A):((List Tx)×Int)->P:=λU=>D.L k [1,0,1,0,0] [0,3] [] (ah 0 (aw (D.N k [1,1]) D.K0)) (T0 a1 U)
def r0 (a1:A):((List Tx)×Int)->P:=am (λw v=>B0 k w (q1 a1) a1 v) k
theorem aq (a1:A):s0 k a1=r0 k a1:=by
 funext U;have h0:cw (ah 0 (aw (D.N k [1,1]) D.K0)) a1=q1 a1:=funext λz=>pN k a1 z;refine (ap _ _ _ (T0 a1) (λself v=>B0 k self (cw (ah 0 (aw (D.N k [1,1]) D.K0)) a1) a1 v) (λrec v=>kK k rec (ah 0 (aw (D.N k [1,1]) D.K0)) a1 v) k U).trans ?_;rw[h0];rfl
def p (l0:((List Tx)×Int)->P) (a1:A):P:=l0 (a1.1,0)
theorem ae (a1:A):@Eq P (D.W k a1) (p (r0 k a1) a1):=
 aL (b:=p (s0 k a1) a1) Bye (by rw[aq])
theorem ok:Ok prog 237 D.sig:=al func237 av Bye (fc nL.ok (ai _))
end gd
namespace jK
abbrev A:=(List Tx)×Unit
abbrev O:=Int×Unit
abbrev P:=Option O
noncomputable def D:FD:={ fn:=f238,tl:=az,ps:=[(.ro,(.aa bh))],rs:=[(i64,(ak i64))],lv:=[(3,[0,3,4])],lx:=[(0,[3])] }
def ab (a:A):P:=@lift O λk=>D.W k a
variable (a1:A)
def T0 (U:Int×Int):St:={ n:=20,sl:=[(0,.val (.aa bh) a1.1),(3,.val i64 U.1),(4,.val i64 U.2)],vr:=[],ay:=[] }
def b0 (self:(Int×Int)->P) (e0:Int->P) (a1:A) (U:Int×Int):P:=cond (decide (U.2 < (a1.1.length:Int))) (if 0<=U.2 then ((a1.1[U.2.toNat]?).bind λa7=>self (af (U.1+(a7.2.1.length:Int)),af (U.2+1))) else none)<|e0 U.1
def q0 (a1:A) (l_:Int):P:=some (l_,())
def r0:(Int×Int)->P:=am (λw v=>b0 w (q0 a1) a1 v) k
theorem aq:@Eq ((Int×Int)->P) (λU=>D.L k [1,1,0,1,0,0] [0,3,4] [] (ah 0 (aw (D.N k [1,1,1]) D.K0)) (T0 a1 U)) (r0 k a1):=
 funext λU=>ap _ _ _ (T0 a1) _ (λrec v=>Bye) k U
def p (l0:(Int×Int)->P) (a1:A):P:=l0 (0,0)
theorem ae:@Eq P (D.W k a1) (p (r0 k a1) a1):=By8 (aq k a1) Bye
theorem ok:Ok prog 238 D.sig:=al func238 av Bye (ai _)
end jK
namespace i_
abbrev A:=(List Tx)×Unit
abbrev O:=Int×Unit
abbrev P:=Option O
noncomputable def D:FD:={ fn:=f153,tl:=az,ps:=[(.ro,(.aa bh))],rs:=[(i64,(ak i64))],gl:=[(65,bp.D.sig),(235,mZ.D.sig),(236,dw.D.sig),(237,gd.D.sig),(238,jK.D.sig)],lv:=[(4,[0,3])],lx:=[(0,[0])],od:=[(9,[0,1,2,3,4,5,6,7,8,9,10,11,12,13,14])] }
def ab (a:A):P:=@lift O λk=>D.W k a
variable (a1:A)
def T0 (U:Int):St:={ n:=56,sl:=[(0,.val (.aa bh) a1.1),(3,.val i64 U)],vr:=[],ay:=[] }
def b0 (self:Int->P) (e0:(Unit)->P) (a1:A) (U:Int):P:=cond (decide (U < (a1.1.length:Int))) (if 0<=U then ((a1.1[U.toNat]?).bind λa7=>(bp.ab (a7.1,1,99,())).bind λdz=>cond (!dz.1) (some (3,()))<|let ace:P:=(mZ.ab (a7,())).bind λwr=>cond (!decide (wr.1=0)) (some (wr.1,()))<|(dw.ab (a7,())).bind λuG=>cond (!decide (uG.1=0)) (some (uG.1,()))<|self (af (U+1));cond (decide (0 < U)) (if 0<=af (U - 1) then ((a1.1[(af (U - (1:Int))).toNat]?).bind λen=>cond (decide (a7.1<=en.1)) (some (1,()))<|ace) else none)<|ace) else none)<|e0 ()
def q0 (YJ:(Unit)):P:=(gd.ab (a1.1,())).bind λYM=>cond (!YM.1) (some (7,()))<|(jK.ab (a1.1,())).bind λLO=>cond (decide (12 < LO.1)) (some (2,()))<|some (0,())
def r0:(Int)->P:=am (λw v=>b0 w (q0 a1) a1 v) k
theorem aq:@Eq ((Int)->P) (λU=>D.L k [1,1,0,1,0,0] [0,3] [] (ah 0 (aw (D.N k [1,1,1]) D.K0)) (T0 a1 U)) (r0 k a1):=
 funext λU=>ap _ _ _ (T0 a1) _ (λrec v=>Bye) k U
def p (l0:(Int)->P) (a1:A):P:=cond (decide (4 < (a1.1.length:Int))) (some (2,()))<|l0 0
theorem ae:@Eq P (D.W k a1) (p (r0 k a1) a1):=By8 (aq k a1) Bye
theorem ok:Ok prog 153 D.sig:=al func153 av Bye (fc bp.ok (fc mZ.ok (fc dw.ok (fc gd.ok (fc jK.ok (ai _))))))
end i_
namespace cj
abbrev A:=(List Row)×(List Tx)×Key×Unit
abbrev O:=Int×Unit
abbrev P:=Option O
noncomputable def D:FD:={ fn:=f154,tl:=az,ps:=[(.ro,(.aa aT)),(.ro,(.aa bh)),(.ro,bc)],rs:=[(i64,(ak i64))],lv:=[(3,[0,1,5,7,8]),(7,[1,5,7,9]),(14,[7,10,11]),(18,[7,10,11,12,13])],lx:=[(0,[1,5,7]),(2,[5,7]),(4,[10]),(6,[7,10,11,12])],od:=[(5,[0,1,2,3,4,5,6,7,8,9,10,11,12,13,14]),(20,[0,1,2,3,4,5,6,7,8,9])] }
def ab (a:A):P:=@lift O λk=>D.W k a
def T0 (a1:A) (U:(List Key)×Int):St:={ n:=82,sl:=[(0,.val (.aa aT) a1.1),(1,.val (.aa bh) a1.2.1),(5,.box bc (ak bc) [] a1.2.2.1),(7,.own (.aa bc) (aj (.aa bc)) [] U.1),(8,.val i64 U.2)],vr:=[],ay:=[] }
def S0 (rec:RT O) (a1:A):((List Key)×Int)->P:=λU=>rec (T0 a1 U)
def cw (K:KT O) (a1:A):(List Key)->P:=λz=>K (.exit 0) ({ n:=82,sl:=[(1,.val (.aa bh) a1.2.1),(5,.box bc (ak bc) [] a1.2.2.1),(7,.own (.aa bc) (aj (.aa bc)) [] z)],vr:=[],ay:=[] })
def b0 (self:((List Key)×Int)->P) (e0:(List Key)->P) (a1:A) (U:(List Key)×Int):P:=cond (decide (U.2 < (a1.1.length:Int))) (if 0<=U.2 then ((a1.1[U.2.toNat]?).bind λa7=>if 0<=U.2 then ((a1.1[U.2.toNat]?).bind λg_=>if U.1.length+[(a7.1,g_.2.1,())].length<=ct then (self (U.1++[(a7.1,g_.2.1,())],af (U.2+1))) else none) else none) else none)<|e0 U.1
theorem kK (rec:RT O) (K:KT O) (a1:A) (U:(List Key)×Int):D.N k [1,1,0,1,0,0] (T0 a1 U) (im rec (fm [0,1,5,7,8] []) K)=b0 (S0 rec a1) (cw K a1) a1 U:=Bye
def T1 (a1:A) (ft:(List Key)×Int):St:={ n:=82,sl:=[(1,.val (.aa bh) a1.2.1),(5,.box bc (ak bc) [] a1.2.2.1),(7,.own (.aa bc) (aj (.aa bc)) [] ft.1),(9,.val i64 ft.2)],vr:=[],ay:=[] }
def S1 (rec:RT O) (a1:A):((List Key)×Int)->P:=λft=>rec (T1 a1 ft)
def jJ (K:KT O) (a1:A):(List Key)->P:=λz=>K (.exit 2) ({ n:=82,sl:=[(5,.box bc (ak bc) [] a1.2.2.1),(7,.own (.aa bc) (aj (.aa bc)) [] z)],vr:=[],ay:=[] })
def b1 (self:((List Key)×Int)->P) (e2:(List Key)->P) (a1:A) (ft:(List Key)×Int):P:=cond (decide (ft.2 < (a1.2.1.length:Int))) (if 0<=ft.2 then ((a1.2.1[ft.2.toNat]?).bind λER=>if ft.1.length+ER.2.2.2.1.length<=ct then (self (ft.1++ER.2.2.2.1,af (ft.2+1))) else none) else none)<|e2 ft.1
theorem u7 (rec:RT O) (K:KT O) (a1:A) (ft:(List Key)×Int):D.N k [1,1,1,0,1,0,0] (T1 a1 ft) (im rec (fm [1,5,7,9] []) K)=b1 (S1 rec a1) (jJ K a1) a1 ft:=Bye
def T2 (a1:A) (qw:(List Key)×Int×Int):St:={ n:=82,sl:=[(7,.own (.aa bc) (aj (.aa bc)) [] qw.1),(10,.val i64 qw.2.1),(11,.val i64 qw.2.2)],vr:=[],ay:=[] }
def S2 (rec:RT O) (a1:A):((List Key)×Int×Int)->P:=λqw=>rec (T2 a1 qw)
def LP (K:KT O) (a1:A):Int->P:=λz=>K (.exit 4) ({ n:=82,sl:=[(10,.val i64 z)],vr:=[],ay:=[] })
def T3 (a1:A) (un:List Key) (xB:Int) (uo:Int) (va:Bool×Int):St:={ n:=82,sl:=[(7,.own (.aa bc) (aj (.aa bc)) [] un),(10,.val i64 xB),(11,.val i64 uo),(12,.val .bool va.1),(13,.val i64 va.2)],vr:=[],ay:=[] }
def b3 (self:(Bool×Int)->P) (e6:Bool->P) (a1:A) (un:List Key) (xB:Int) (uo:Int) (va:Bool×Int):P:=cond (decide (va.2 < uo)) (cond va.1 (if 0<=va.2/\va.2 < (un.length:Int) then ((un[va.2.toNat]?).bind λac3=>if 0<=uo/\uo < (un.length:Int) then ((un[uo.toNat]?).bind λac4=>self (!(Ty.eq bc ac3 ac4),af (va.2+1))) else none) else none)<|e6 va.1)<|e6 va.1
def q2 (self:((List Key)×Int×Int)->P) (e4:Int->P) (a1:A) (un:List Key) (xB:Int) (uo:Int) (ac5:Bool):P:=cond ac5 (self (un,af (xB+1),af (uo+1)))<|self (un,xB,af (uo+1))
def s3 (rec:RT O) (K:KT O) (a1:A):(List Key)->Int->Int->(Bool×Int)->P:=λun xB uo=>λva=>D.L k [1,1,1,1,1,1,0,1,0,0,1,0,0,1,0,1,0,0] [7,10,11,12,13] [] (ah 6 (aw (D.N k [1,1,1,1,1,1,0,1,0,0,1,0,0,1,1]) (ah 5 (aw (D.N k [1,1,1,1,1,1,0,1,0,0,1,1]) (im rec (fm [7,10,11] []) K))))) (T3 a1 un xB uo va)
def r3 (self:((List Key)×Int×Int)->P) (e4:Int->P) (a1:A):(List Key)->Int->Int->(Bool×Int)->P:=λun xB uo=>am (λw v=>b3 w (q2 self e4 a1 un xB uo) a1 un xB uo v) k
theorem Uz (rec:RT O) (K:KT O) (a1:A):s3 k rec K a1=r3 k (S2 rec a1) (LP K a1) a1:=
 funext λun=>funext λxB=>funext λuo=>funext λva=>ap _ _ _ (T3 a1 un xB uo) _ (λrec v=>Bye) k va
def b2 (self:((List Key)×Int×Int)->P) (e4:Int->P) (l3:(List Key)->Int->Int->(Bool×Int)->P) (a1:A) (qw:(List Key)×Int×Int):P:=cond (decide (qw.2.2 < (qw.1.length:Int))) (l3 qw.1 qw.2.1 qw.2.2 (true,0))<|e4 qw.2.1
def B2 (self:((List Key)×Int×Int)->P) (e4:Int->P) (a1:A) (qw:(List Key)×Int×Int):P:=b2 self e4 (r3 k self e4 a1) a1 qw
theorem UA (rec:RT O) (K:KT O) (a1:A) (qw:(List Key)×Int×Int):D.N k [1,1,1,1,1,1,0,1,0,0] (T2 a1 qw) (im rec (fm [7,10,11] []) K)=B2 k (S2 rec a1) (LP K a1) a1 qw:=
 aL (b:=b2 (S2 rec a1) (LP K a1) (s3 k rec K a1) a1 qw) Bye (by rw[Uz];rfl)
def q3 (a1:A) (NQ:Int):P:=some (NQ,())
theorem UB (a1:A) (NQ:Int):LP (ah 4 (aw (D.N k [1,1,1,1,1,1,1]) D.K0)) a1 NQ=q3 a1 NQ:=Bye
def s2 (a1:A):((List Key)×Int×Int)->P:=λqw=>D.L k [1,1,1,1,1,1,0,1,0,0] [7,10,11] [] (ah 4 (aw (D.N k [1,1,1,1,1,1,1]) D.K0)) (T2 a1 qw)
def r2 (a1:A):((List Key)×Int×Int)->P:=am (λw v=>B2 k w (q3 a1) a1 v) k
theorem tz (a1:A):s2 k a1=r2 k a1:=by
 funext qw;have h4:LP (ah 4 (aw (D.N k [1,1,1,1,1,1,1]) D.K0)) a1=q3 a1:=funext λz=>UB k a1 z;refine (ap _ _ _ (T2 a1) (λself v=>B2 k self (LP (ah 4 (aw (D.N k [1,1,1,1,1,1,1]) D.K0)) a1) a1 v) (λrec v=>UA k rec (ah 4 (aw (D.N k [1,1,1,1,1,1,1]) D.K0)) a1 v) k qw).trans ?_;rw[h4];rfl
def q1 (l2:((List Key)×Int×Int)->P) (a1:A) (zX:(List Key)):P:=let aal:=λ(ac6:List Key)=>(l2 (ac6,0,0):P);cond (!decide (a1.2.2.1.2.1=0)) (if zX.length+[a1.2.2.1].length<=ct then (aal (zX++[a1.2.2.1])) else none)<|aal zX
def Q1 (a1:A) (zX:(List Key)):P:=q1 (r2 k a1) a1 zX
theorem pN (a1:A) (zX:(List Key)):jJ (ah 2 (aw (D.N k [1,1,1,1]) D.K0)) a1 zX=Q1 k a1 zX:=
 aL (b:=q1 (s2 k a1) a1 zX) Bye (by rw[tz];rfl)
def s1 (a1:A):((List Key)×Int)->P:=λft=>D.L k [1,1,1,0,1,0,0] [1,5,7,9] [] (ah 2 (aw (D.N k [1,1,1,1]) D.K0)) (T1 a1 ft)
def r1 (a1:A):((List Key)×Int)->P:=am (λw v=>b1 w (Q1 k a1) a1 v) k
theorem kL (a1:A):s1 k a1=r1 k a1:=by
 funext ft;have h2:jJ (ah 2 (aw (D.N k [1,1,1,1]) D.K0)) a1=Q1 k a1:=funext λz=>pN k a1 z;refine (ap _ _ _ (T1 a1) (λself v=>b1 self (jJ (ah 2 (aw (D.N k [1,1,1,1]) D.K0)) a1) a1 v) (λrec v=>u7 k rec (ah 2 (aw (D.N k [1,1,1,1]) D.K0)) a1 v) k ft).trans ?_;rw[h2];rfl
def q0 (l1:((List Key)×Int)->P) (a1:A) (e8:(List Key)):P:=l1 (e8,0)
def Q0 (a1:A) (e8:(List Key)):P:=q0 (r1 k a1) a1 e8
theorem tA (a1:A) (e8:(List Key)):cw (ah 0 (aw (D.N k [1,1,1]) D.K0)) a1 e8=Q0 k a1 e8:=
 aL (b:=q0 (s1 k a1) a1 e8) Bye (by rw[kL];rfl)
def s0 (a1:A):((List Key)×Int)->P:=λU=>D.L k [1,1,0,1,0,0] [0,1,5,7,8] [] (ah 0 (aw (D.N k [1,1,1]) D.K0)) (T0 a1 U)
def r0 (a1:A):((List Key)×Int)->P:=am (λw v=>b0 w (Q0 k a1) a1 v) k
theorem aq (a1:A):s0 k a1=r0 k a1:=by
 funext U;have h0:cw (ah 0 (aw (D.N k [1,1,1]) D.K0)) a1=Q0 k a1:=funext λz=>tA k a1 z;refine (ap _ _ _ (T0 a1) (λself v=>b0 self (cw (ah 0 (aw (D.N k [1,1,1]) D.K0)) a1) a1 v) (λrec v=>kK k rec (ah 0 (aw (D.N k [1,1,1]) D.K0)) a1 v) k U).trans ?_;rw[h0];rfl
def p (l0:((List Key)×Int)->P) (a1:A):P:=l0 (([]:List Key),0)
theorem ae (a1:A):@Eq P (D.W k a1) (p (r0 k a1) a1):=
 aL (b:=p (s0 k a1) a1) Bye (by rw[aq])
theorem ok:Ok prog 154 D.sig:=al func154 av Bye (ai _)
end cj
namespace jh
abbrev A:=(List Change)×Unit
abbrev O:=(List Change)×Unit
abbrev P:=Option O
noncomputable def D:FD:={ fn:=f206,tl:=az,ps:=[(.ro,(.aa ao))],rs:=[((.aa ao),(aj (.aa ao)))],lv:=[(3,[0,3,4])],lx:=[(0,[3])] }
def ab (a:A):P:=@lift O λk=>D.W k a
variable (a1:A)
def T0 (U:(List Change)×Int):St:={ n:=31,sl:=[(0,.val (.aa ao) a1.1),(3,.own (.aa ao) (aj (.aa ao)) [] U.1),(4,.val i64 U.2)],vr:=[],ay:=[] }
def b0 (self:((List Change)×Int)->P) (e0:(List Change)->P) (a1:A) (U:(List Change)×Int):P:=cond (decide (0<=U.2)) (if 0<=U.2 then ((a1.1[U.2.toNat]?).bind λa7=>if U.1.length+[(a7.2.2.1,a7.2.2.2.1,a7.1,a7.2.1,())].length<=ct then (let rF:=U.1++[(a7.2.2.1,a7.2.2.2.1,a7.1,a7.2.1,())];self (rF,af (U.2 - 1))) else none) else none)<|e0 U.1
def q0 (a1:A) (e8:(List Change)):P:=some (e8,())
def r0:((List Change)×Int)->P:=am (λw v=>b0 w (q0 a1) a1 v) k
theorem aq:@Eq (((List Change)×Int)->P) (λU=>D.L k [1,1,0,1,0,0] [0,3,4] [] (ah 0 (aw (D.N k [1,1,1]) D.K0)) (T0 a1 U)) (r0 k a1):=
 funext λU=>ap _ _ _ (T0 a1) _ (λrec v=>Bye) k U
def p (l0:((List Change)×Int)->P) (a1:A):P:=l0 (([]:List Change),af ((a1.1.length:Int) - 1))
theorem ae:@Eq P (D.W k a1) (p (r0 k a1) a1):=By8 (aq k a1) Bye
theorem ok:Ok prog 206 D.sig:=al func206 av Bye (ai _)
end jh
namespace ll
abbrev A:=(List Row)×Int×Int×Unit
abbrev O:=Int×Unit
abbrev P:=Option O
noncomputable def D:FD:={ fn:=f312,tl:=az,ps:=[(.ro,(.aa aT)),(.ro,i64),(.ro,i64)],rs:=[(i64,(ak i64))],lv:=[(2,[0,1,2,7])],lx:=[(0,[])] }
def ab (a:A):P:=@lift O λk=>D.W k a
variable (a1:A)
def T0 (U:Int):St:={ n:=31,sl:=[(0,.val (.aa aT) a1.1),(1,.val i64 a1.2.1),(2,.val i64 a1.2.2.1),(7,.val i64 U)],vr:=[],ay:=[] }
def b0 (self:Int->P) (e0:(Unit)->P) (a1:A) (U:Int):P:=cond (decide (U < (a1.1.length:Int))) (if 0<=U then ((a1.1[U.toNat]?).bind λa7=>cond (decide (a7.1=a1.2.1)) (if 0<=U then ((a1.1[U.toNat]?).bind λg_=>cond (decide (g_.2.1=a1.2.2.1)) (some (U,()))<|self (af (U+1))) else none)<|self (af (U+1))) else none)<|e0 ()
def q0 (a1:A) (e8:(Unit)):P:=some ((-1),())
def r0:(Int)->P:=am (λw v=>b0 w (q0 a1) a1 v) k
theorem aq:@Eq ((Int)->P) (λU=>D.L k [1,0,1,0,0] [0,1,2,7] [] (ah 0 (aw (D.N k [1,1]) D.K0)) (T0 a1 U)) (r0 k a1):=
 funext λU=>ap _ _ _ (T0 a1) _ (λrec v=>Bye) k U
def p (l0:(Int)->P) (a1:A):P:=l0 0
theorem ae:@Eq P (D.W k a1) (p (r0 k a1) a1):=By8 (aq k a1) Bye
theorem ok:Ok prog 312 D.sig:=al func312 av Bye (ai _)
end ll
namespace pi
abbrev A:=(List Row)×Change×Unit
abbrev O:=(List Row)×Bool×Unit
abbrev P:=Option O
noncomputable def D:FD:={ fn:=f293,tl:=az,ps:=[(.ro,(.aa aT)),(.ro,(.ptr ao))],rs:=[((.aa aT),(aj (.aa aT))),(.bool,(ak .bool))],gl:=[(151,lk.D.sig),(204,jA.D.sig),(312,ll.D.sig)],lv:=[(7,[0,1,8,9,10])],lx:=[(0,[1,9])],od:=[(3,[0,1,2,3,4,5,6,7,8,9,10,11,12,13,14,15,16,17,18,19,20,21])] }
def ab (a:A):P:=@lift O λk=>D.W k a
variable (a1:A)
def T0 (iS:Int) (iT:(List Row)×Int):St:={ n:=70,sl:=[(0,.val (.aa aT) a1.1),(1,.cp ao a1.2.1),(8,.val i64 iS),(9,.own (.aa aT) (aj (.aa aT)) [] iT.1),(10,.val i64 iT.2)],vr:=[],ay:=[] }
def b0 (self:((List Row)×Int)->P) (e0:(List Row)->P) (a1:A) (iS:Int) (iT:(List Row)×Int):P:=cond (decide (iT.2 < (a1.1.length:Int))) (cond (!decide (iT.2=iS)) (if 0<=iT.2 then ((a1.1[iT.2.toNat]?).bind λHV=>if iT.1.length+[HV].length<=ct then (self (iT.1++[HV],af (iT.2+1))) else none) else none)<|self (iT.1,af (iT.2+1)))<|e0 iT.1
def q0 (iS:Int) (HW:(List Row)):P:=cond a1.2.1.2.2.1 ((lk.ab (HW,a1.2.1.2.2.2.1,())).bind λC_=>some (C_.1,true,()))<|some (HW,true,())
def r0:Int->((List Row)×Int)->P:=λiS=>am (λw v=>b0 w (q0 a1 iS) a1 iS v) k
theorem aq:@Eq (Int->((List Row)×Int)->P) (λiS=>λiT=>D.L k [1,1,1,1,1,0,1,0,0] [0,1,8,9,10] [] (ah 0 (aw (D.N k [1,1,1,1,1,1]) D.K0)) (T0 a1 iS iT)) (r0 k a1):=
 funext λiS=>funext λiT=>ap _ _ _ (T0 a1 iS) _ (λrec v=>Bye) k iT
def p (l0:Int->((List Row)×Int)->P) (a1:A):P:=(jA.ab (a1.2.1,())).bind λr2=>(ll.ab (a1.1,r2.1,r2.2.1,())).bind λr3=>let Pg:P:=l0 r3.1 (([]:List Row),0);cond (!(a1.2.1.1 == (decide (0<=r3.1)))) (some (([]:List Row),false,()))<|cond (decide (0<=r3.1)) (if 0<=r3.1 then ((a1.1[r3.1.toNat]?).bind λx4=>cond (!(Ty.eq aT x4 a1.2.1.2.1)) (some (([]:List Row),false,()))<|Pg) else none)<|Pg
theorem ae:@Eq P (D.W k a1) (p (r0 k a1) a1):=By8 (aq k a1) Bye
theorem ok:Ok prog 293 D.sig:=al func293 av Bye (fc lk.ok (fc jA.ok (fc ll.ok (ai _))))
end pi
namespace ma
abbrev A:=(List Row)×(List Change)×Unit
abbrev O:=(List Row)×Bool×Unit
abbrev P:=Option O
noncomputable def D:FD:={ fn:=f239,tl:=az,ps:=[(.ro,(.aa aT)),(.ro,(.aa ao))],rs:=[((.aa aT),(ak (.aa aT))),(.bool,(ak .bool))],gl:=[(206,jh.D.sig),(293,pi.D.sig)],lv:=[(3,[0,6,7])],lx:=[(0,[0])],lf:=[(3,[(0,Byc)])] }
def ab (a:A):P:=@lift O λk=>D.W k a
variable (a1:A)
def T0 (a1:A) (d7:List Change) (bf:(List Row)×Int):St:={ n:=30,sl:=[(0,.val (.aa aT) bf.1),(6,.own (.aa ao) (aj (.aa ao)) [] d7),(7,.val i64 bf.2)],vr:=[],ay:=[] }
def b0 (self:((List Row)×Int)->P) (e0:(List Row)->P) (a1:A) (d7:List Change) (bf:(List Row)×Int):P:=cond (decide (bf.2 < (d7.length:Int))) (if 0<=bf.2/\bf.2 < (d7.length:Int) then ((d7[bf.2.toNat]?).bind λen=>(pi.ab (bf.1,en,())).bind λjm=>cond (!jm.2.1) (some (([]:List Row),false,()))<|self (jm.1,af (bf.2+1))) else none)<|e0 bf.1
def q0 (a1:A) (d7:List Change) (kf:(List Row)):P:=some (kf,true,())
def r0:(List Change)->((List Row)×Int)->P:=λd7=>am (λw v=>b0 w (q0 a1 d7) a1 d7 v) k
theorem aq:@Eq ((List Change)->((List Row)×Int)->P) (λd7=>λbf=>D.L k [1,1,0,1,0,0] [0,6,7] [(0,Byc)] (ah 0 (aw (D.N k [1,1,1]) D.K0)) (T0 a1 d7 bf)) (r0 k a1):=
 funext λd7=>funext λbf=>ap _ _ _ (T0 a1 d7) _ (λrec v=>Bye) k bf
def p (l0:(List Change)->((List Row)×Int)->P) (a1:A):P:=(jh.ab (a1.2.1,())).bind λr2=>l0 r2.1 (a1.1,0)
theorem ae:@Eq P (D.W k a1) (p (r0 k a1) a1):=By8 (aq k a1) Bye
theorem ok:Ok prog 239 D.sig:=al func239 av Bye (fc jh.ok (fc pi.ok (ai _)))
end ma
namespace mc
abbrev A:=(List Row)×(List Tx)×Unit
abbrev O:=(List Row)×Bool×Unit
abbrev P:=Option O
noncomputable def D:FD:={ fn:=f155,tl:=az,ps:=[(.ro,(.aa aT)),(.ro,(.aa bh))],rs:=[((.aa aT),(ak (.aa aT))),(.bool,(ak .bool))],gl:=[(239,ma.D.sig)],lv:=[(3,[1,6,7])],lx:=[(0,[6])],lf:=[(3,[(6,Byc)])] }
def ab (a:A):P:=@lift O λk=>D.W k a
variable (a1:A)
def T0 (U:(List Row)×Int):St:={ n:=33,sl:=[(1,.val (.aa bh) a1.2.1),(6,.val (.aa aT) U.1),(7,.val i64 U.2)],vr:=[],ay:=[] }
def b0 (self:((List Row)×Int)->P) (e0:(List Row)->P) (a1:A) (U:(List Row)×Int):P:=cond (decide (U.2 < (a1.2.1.length:Int))) (if 0<=U.2 then ((a1.2.1[U.2.toNat]?).bind λa7=>(ma.ab (U.1,a7.2.1,())).bind λdz=>cond (!dz.2.1) (some (([]:List Row),false,()))<|self (dz.1,af (U.2+1))) else none)<|e0 U.1
def q0 (a1:A) (e8:(List Row)):P:=some (e8,true,())
def r0:((List Row)×Int)->P:=am (λw v=>b0 w (q0 a1) a1 v) k
theorem aq:@Eq (((List Row)×Int)->P) (λU=>D.L k [1,1,0,1,0,0] [1,6,7] [(6,Byc)] (ah 0 (aw (D.N k [1,1,1]) D.K0)) (T0 a1 U)) (r0 k a1):=
 funext λU=>ap _ _ _ (T0 a1) _ (λrec v=>Bye) k U
def p (l0:((List Row)×Int)->P) (a1:A):P:=if ([]:List Row).length+a1.1.length<=ct then (l0 (([]:List Row)++a1.1,0)) else none
theorem ae:@Eq P (D.W k a1) (p (r0 k a1) a1):=By8 (aq k a1) Bye
theorem ok:Ok prog 155 D.sig:=al func155 av Bye (fc ma.ok (ai _))
end mc
namespace qj
abbrev A:=Plain×Unit
abbrev O:=Int×Unit
noncomputable def D:FD:={ fn:=f90,tl:=az,ps:=[(.ro,(.ptr D3))],rs:=[(i64,(ak i64))],gl:=[(65,bp.D.sig),(152,kd.D.sig),(153,i_.D.sig),(154,cj.D.sig),(155,mc.D.sig)],od:=[(8,[0,1,2,3,4,5,6,7,8,9,10,11,12,13,14,15,16,17,18,19,20,21,22,23,24,25]),(10,[0,1,2,3,4,5,6,7,8,9,10]),(12,[0,1,2,3,4,5,6,7,8,9,10,11,12,13])],ar:=[(8,[3,13,18,22])] }
def ab (a:A):Option O:=@lift O λk=>D.W k a
def p (a1:A):Option O:=(kd.ab (a1.1.1,())).bind λr2=>cond (!decide (r2.1=0)) (some (r2.1,()))<|(i_.ab (a1.1.2.1,())).bind λr3=>cond (!decide (r3.1=0)) (some (r3.1,()))<|let j8:Option O:=(cj.ab (a1.1.1,a1.1.2.1,(0,0,()),())).bind λr9=>cond (decide (12 < r9.1)) (some (2,()))<|(mc.ab (a1.1.1,a1.1.2.1,())).bind λsf=>cond (!sf.2.1) (some (8,()))<|some (0,());(bp.ab (a1.1.2.2.1,1,100,())).bind λr4=>cond (!r4.1) (some (3,()))<|cond (decide (0 < (a1.1.2.1.length:Int))) (if 0<=af ((a1.1.2.1.length:Int) - 1) then ((a1.1.2.1[(af ((a1.1.2.1.length:Int) - (1:Int))).toNat]?).bind λx5=>cond (decide (a1.1.2.2.1<=x5.1)) (some (3,()))<|j8) else none)<|j8
theorem ae (a1:A):@Eq (Option O) (D.W k a1) (p a1):=Bye
theorem ok:Ok prog 90 D.sig:=al func90 av Bye (fc bp.ok (fc kd.ok (fc i_.ok (fc cj.ok (fc mc.ok (ai _))))))
end qj
namespace iL
abbrev A:=(List Byt)×Unit
abbrev O:=(List Byt)×Unit
abbrev P:=Option O
noncomputable def D:FD:={ fn:=f126,tl:=az,ps:=[(.ro,(.aa (.aa u8)))],rs:=[((.aa (.aa u8)),(aj (.aa (.aa u8))))],gl:=[(139,br.D.sig)],lv:=[(3,[0,3,4])],lx:=[(0,[3])] }
def ab (a:A):P:=@lift O λk=>D.W k a
variable (a1:A)
def T0 (U:(List Byt)×Int):St:={ n:=21,sl:=[(0,.val (.aa (.aa u8)) a1.1),(3,.own (.aa (.aa u8)) (aj (.aa (.aa u8))) [] U.1),(4,.val i64 U.2)],vr:=[],ay:=[] }
def b0 (self:((List Byt)×Int)->P) (e0:(List Byt)->P) (a1:A) (U:(List Byt)×Int):P:=cond (decide (U.2 < (a1.1.length:Int))) (if 0<=U.2 then ((a1.1[U.2.toNat]?).bind λa7=>(br.ab (a7,())).bind λdz=>if U.1.length+[dz.1].length<=ct then (self (U.1++[dz.1],af (U.2+1))) else none) else none)<|e0 U.1
def q0 (a1:A) (e8:(List Byt)):P:=some (e8,())
def r0:((List Byt)×Int)->P:=am (λw v=>b0 w (q0 a1) a1 v) k
theorem aq:@Eq (((List Byt)×Int)->P) (λU=>D.L k [1,1,0,1,0,0] [0,3,4] [] (ah 0 (aw (D.N k [1,1,1]) D.K0)) (T0 a1 U)) (r0 k a1):=
 funext λU=>ap _ _ _ (T0 a1) _ (λrec v=>Bye) k U
def p (l0:((List Byt)×Int)->P) (a1:A):P:=l0 (([]:List Byt),0)
theorem ae:@Eq P (D.W k a1) (p (r0 k a1) a1):=By8 (aq k a1) Bye
theorem ok:Ok prog 126 D.sig:=al func126 av Bye (fc br.ok (ai _))
end iL
namespace fu
abbrev A:=Int×Unit
abbrev O:=dO×Unit
noncomputable def D:FD:={ fn:=f240,tl:=az,ps:=[(.ro,i64)],rs:=[(du,(aj du))] }
def ab (a:A):Option O:=@lift O λk=>D.W k a
def p (a1:A):Option O:=some ((a1.1,([]:List cr),([]:List Byt),()),())
theorem ae (a1:A):@Eq (Option O) (D.W k a1) (p a1):=Bye
theorem ok:Ok prog 240 D.sig:=al func240 av Bye (ai _)
end fu
namespace jU
abbrev A:=UInt8×Unit
abbrev O:=Byt×Unit
abbrev P:=Option O
noncomputable def D:FD:={ fn:=f241,tl:=az,ps:=[(.ro,u8)],rs:=[((.aa u8),(aj (.aa u8)))],lv:=[(3,[0,3,4])],lx:=[(0,[3])] }
def ab (a:A):P:=@lift O λk=>D.W k a
variable (a1:A)
def T0 (U:Byt×Int):St:={ n:=19,sl:=[(0,.val u8 a1.1),(3,.own (.aa u8) (aj (.aa u8)) [] U.1),(4,.val i64 U.2)],vr:=[],ay:=[] }
def b0 (self:(Byt×Int)->P) (e0:Byt->P) (a1:A) (U:Byt×Int):P:=cond (decide (U.2 < 64)) (if 0<=U.2/\U.2 < (U.1.length:Int) then ((U.1[U.2.toNat]?).bind λa7=>self (U.1.set U.2.toNat a1.1,af (U.2+1))) else none)<|e0 U.1
def q0 (a1:A) (l_:Byt):P:=if 0<=(0:Int)/\0 < (l_.length:Int) then ((l_[0]?).bind λen=>if 0<=(1:Int)/\1 < ((l_.set 0 (0:UInt8)).length:Int) then (((l_.set 0 (0:UInt8))[1]?).bind λtW=>let Dz:=(l_.set 0 (0:UInt8)).set 1 (64:UInt8);some (Dz,())) else none) else none
def r0:(Byt×Int)->P:=am (λw v=>b0 w (q0 a1) a1 v) k
theorem aq:@Eq ((Byt×Int)->P) (λU=>D.L k [1,1,0,1,0,0] [0,3,4] [] (ah 0 (aw (D.N k [1,1,1]) D.K0)) (T0 a1 U)) (r0 k a1):=
 funext λU=>ap _ _ _ (T0 a1) _ (λrec v=>Bye) k U
def p (l0:(Byt×Int)->P) (a1:A):P:=if 0<=(64:Int)/\(64:Int)<=64/\64<=(ct:Int) then (l0 (List.replicate 64 (0:UInt8),0)) else none
theorem ae:@Eq P (D.W k a1) (p (r0 k a1) a1):=By8 (aq k a1) Bye
theorem ok:Ok prog 241 D.sig:=al func241 av Bye (ai _)
end jU
namespace lm
abbrev A:=Byt×(List cr)×Unit
abbrev O:=Byt×Unit
abbrev P:=Option O
noncomputable def D:FD:={ fn:=f242,tl:=az,ps:=[(.ro,(.aa u8)),(.ro,(.aa oB))],rs:=[((.aa u8),(aj (.aa u8)))],gl:=[(139,br.D.sig)],lv:=[(3,[1,5,6])],lx:=[(0,[5])],od:=[(5,[0,1,2,3,4,5,6,7,8,9,10,11,12])] }
def ab (a:A):P:=@lift O λk=>D.W k a
variable (a1:A)
def T0 (bf:Byt×Int):St:={ n:=29,sl:=[(1,.val (.aa oB) a1.2.1),(5,.own (.aa u8) (aj (.aa u8)) [] bf.1),(6,.val i64 bf.2)],vr:=[],ay:=[] }
def b0 (self:(Byt×Int)->P) (e0:Byt->P) (a1:A) (bf:Byt×Int):P:=cond (decide (bf.2 < (a1.2.1.length:Int))) (if 0<=bf.2 then ((a1.2.1[bf.2.toNat]?).bind λg_=>if 0<=g_.1/\g_.1<=(bf.1.length:Int) then (if 0<=bf.2 then ((a1.2.1[bf.2.toNat]?).bind λen=>let yM:=o5 bf.1 g_.1.toNat (min en.2.1.length (bf.1.length - g_.1.toNat)) en.2.1;self (yM,af (bf.2+1))) else none) else none) else none)<|e0 bf.1
def q0 (a1:A) (kf:Byt):P:=some (kf,())
def r0:(Byt×Int)->P:=am (λw v=>b0 w (q0 a1) a1 v) k
theorem aq:@Eq ((Byt×Int)->P) (λbf=>D.L k [1,1,0,1,0,0] [1,5,6] [] (ah 0 (aw (D.N k [1,1,1]) D.K0)) (T0 a1 bf)) (r0 k a1):=
 funext λbf=>ap _ _ _ (T0 a1) _ (λrec v=>Bye) k bf
def p (l0:(Byt×Int)->P) (a1:A):P:=(br.ab (a1.1,())).bind λr2=>l0 (r2.1,0)
theorem ae:@Eq P (D.W k a1) (p (r0 k a1) a1):=By8 (aq k a1) Bye
theorem ok:Ok prog 242 D.sig:=al func242 av Bye (fc br.ok (ai _))
end lm
namespace gq
abbrev A:=(List Byt)×bk×Unit
abbrev O:=dO×Unit
abbrev P:=Option O
noncomputable def D:FD:={ fn:=f156,tl:=az,ps:=[(.ro,(.aa (.aa u8))),(.ro,eg)],rs:=[(du,(aj du))],gl:=[(126,iL.D.sig),(136,nK.D.sig),(209,nX.D.sig),(240,fu.D.sig),(241,jU.D.sig),(242,lm.D.sig)],lv:=[(4,[0,3,4,5])],lx:=[(0,[0,3,4])],od:=[(20,[0,1,2,3,4,5,6]),(21,[0,1,2,3,4,5,6,7,8,9,10,11,12,13,14])] }
def ab (a:A):P:=@lift O λk=>D.W k a
variable (a1:A)
def T0 (bf:Int):St:={ n:=75,sl:=[(0,.val (.aa (.aa u8)) a1.1),(3,.box eg (ak eg) [] a1.2.1),(4,.box du (aj du) [] ((0:Int),([]:List cr),([]:List Byt),())),(5,.val i64 bf)],vr:=[],ay:=[] }
def b0 (self:Int->P) (e0:(Unit)->P) (a1:A) (bf:Int):P:=cond (decide (bf < (a1.1.length:Int))) (if 0<=bf then ((a1.1[bf.toNat]?).bind λg_=>cond (!decide ((g_.length:Int)=64)) ((fu.ab (1,())).bind λlj=>some (lj.1,()))<|self (af (bf+1))) else none)<|e0 ()
def q0 (rW:(Unit)):P:=(nK.ab (a1.2.1,())).bind λky=>cond (!decide (ky.1=0)) ((fu.ab (ky.1,())).bind λqv=>some (qv.1,()))<|(iL.ab (a1.1,())).bind λwr=>(nX.ab (a1.2.1.1,())).bind λuG=>cond (!uG.1) (some ((0,([]:List cr),wr.1,()),()))<|cond (decide ((a1.1.length:Int) < a1.2.1.2.2.1)) ((fu.ab (1,())).bind λPh=>some (Ph.1,()))<|cond (decide (a1.2.1.2.2.1=12)) ((fu.ab (2,())).bind λYM=>some (YM.1,()))<|let acf:=λ(ET:dO)=>(if 0<=a1.2.1.2.2.1/\a1.2.1.2.2.1 < (ET.2.2.1.length:Int) then ((ET.2.2.1[a1.2.1.2.2.1.toNat]?).bind λLQ=>(ET.2.2.1[a1.2.1.2.2.1.toNat]?).bind λPi=>(lm.ab (Pi,a1.2.1.2.2.2.1,())).bind λYN=>if 0<=a1.2.1.2.2.1/\a1.2.1.2.2.1 < (ET.2.2.1.length:Int) then ((ET.2.2.1[a1.2.1.2.2.1.toNat]?).bind λaea=>some ((ET.1,ET.2.1,ET.2.2.1.set a1.2.1.2.2.1.toNat YN.1,ET.2.2.2),())) else none) else none:P);cond (decide (a1.2.1.2.2.1=(a1.1.length:Int))) ((jU.ab ((0:UInt8),())).bind λLO=>if wr.1.length+[LO.1].length<=ct then (acf (0,([]:List cr),wr.1++[LO.1],())) else none)<|acf (0,([]:List cr),wr.1,())
def r0:(Int)->P:=am (λw v=>b0 w (q0 a1) a1 v) k
theorem aq:@Eq ((Int)->P) (λbf=>D.L k [1,1,0,1,0,0] [0,3,4,5] [] (ah 0 (aw (D.N k [1,1,1]) D.K0)) (T0 a1 bf)) (r0 k a1):=
 funext λbf=>ap _ _ _ (T0 a1) _ (λrec v=>Bye) k bf
def p (l0:(Int)->P) (a1:A):P:=cond (decide (12 < (a1.1.length:Int))) ((fu.ab (2,())).bind λr2=>some (r2.1,()))<|l0 0
theorem ae:@Eq P (D.W k a1) (p (r0 k a1) a1):=By8 (aq k a1) Bye
theorem ok:Ok prog 156 D.sig:=al func156 av Bye (fc iL.ok (fc nK.ok (fc nX.ok (fc fu.ok (fc jU.ok (fc lm.ok (ai _)))))))
end gq
namespace nM
abbrev A:=(List bk)×Unit
abbrev O:=(List Byt)×Int×Unit
abbrev P:=Option O
noncomputable def D:FD:={ fn:=f91,tl:=az,ps:=[(.ro,(.aa eg))],rs:=[((.aa (.aa u8)),(aj (.aa (.aa u8)))),(i64,(ak i64))],gl:=[(156,gq.D.sig)],lv:=[(3,[0,4,5])],lx:=[(0,[4])],od:=[(7,[0,1,2,3])] }
def ab (a:A):P:=@lift O λk=>D.W k a
variable (a1:A)
def T0 (U:(List Byt)×Int):St:={ n:=28,sl:=[(0,.val (.aa eg) a1.1),(4,.own (.aa (.aa u8)) (aj (.aa (.aa u8))) [] U.1),(5,.val i64 U.2)],vr:=[],ay:=[] }
def b0 (self:((List Byt)×Int)->P) (e0:(List Byt)->P) (a1:A) (U:(List Byt)×Int):P:=cond (decide (U.2 < (a1.1.length:Int))) (if 0<=U.2 then ((a1.1[U.2.toNat]?).bind λa7=>(gq.ab (U.1,a7,())).bind λdz=>cond (!decide (dz.1.1=0)) (some (([]:List Byt),dz.1.1,()))<|self (dz.1.2.2.1,af (U.2+1))) else none)<|e0 U.1
def q0 (a1:A) (e8:(List Byt)):P:=some (e8,0,())
def r0:((List Byt)×Int)->P:=am (λw v=>b0 w (q0 a1) a1 v) k
theorem aq:@Eq (((List Byt)×Int)->P) (λU=>D.L k [1,1,0,1,0,0] [0,4,5] [] (ah 0 (aw (D.N k [1,1,1]) D.K0)) (T0 a1 U)) (r0 k a1):=
 funext λU=>ap _ _ _ (T0 a1) _ (λrec v=>Bye) k U
def p (l0:((List Byt)×Int)->P) (a1:A):P:=l0 (([]:List Byt),0)
theorem ae:@Eq P (D.W k a1) (p (r0 k a1) a1):=By8 (aq k a1) Bye
theorem ok:Ok prog 91 D.sig:=al func91 av Bye (fc gq.ok (ai _))
end nM
namespace m9
abbrev A:=(List Byt)×(List Byt)×Unit
abbrev O:=Bool×Unit
abbrev P:=Option O
noncomputable def D:FD:={ fn:=f92,tl:=az,ps:=[(.ro,(.aa (.aa u8))),(.ro,(.aa (.aa u8)))],rs:=[(.bool,(ak .bool))],lv:=[(4,[0,1,5])],lx:=[(0,[])],od:=[(6,[0,1,2,3,4,5,6,7,8,9,10])] }
def ab (a:A):P:=@lift O λk=>D.W k a
variable (a1:A)
def T0 (U:Int):St:={ n:=28,sl:=[(0,.val (.aa (.aa u8)) a1.1),(1,.val (.aa (.aa u8)) a1.2.1),(5,.val i64 U)],vr:=[],ay:=[] }
def b0 (self:Int->P) (e0:(Unit)->P) (a1:A) (U:Int):P:=cond (decide (U < (a1.1.length:Int))) (if 0<=U then ((a1.1[U.toNat]?).bind λa7=>if 0<=U then ((a1.2.1[U.toNat]?).bind λg_=>cond (!decide (a7=g_)) (some (false,()))<|self (af (U+1))) else none) else none)<|e0 ()
def q0 (a1:A) (e8:(Unit)):P:=some (true,())
def r0:(Int)->P:=am (λw v=>b0 w (q0 a1) a1 v) k
theorem aq:@Eq ((Int)->P) (λU=>D.L k [1,1,0,1,0,0] [0,1,5] [] (ah 0 (aw (D.N k [1,1,1]) D.K0)) (T0 a1 U)) (r0 k a1):=
 funext λU=>ap _ _ _ (T0 a1) _ (λrec v=>Bye) k U
def p (l0:(Int)->P) (a1:A):P:=cond (!decide ((a1.1.length:Int)=(a1.2.1.length:Int))) (some (false,()))<|l0 0
theorem ae:@Eq P (D.W k a1) (p (r0 k a1) a1):=By8 (aq k a1) Bye
theorem ok:Ok prog 92 D.sig:=al func92 av Bye (ai _)
end m9
namespace rG
abbrev A:=ba×Unit
abbrev O:=Int×Unit
noncomputable def D:FD:={ fn:=f39,tl:=az,ps:=[(.ro,(.ptr bv))],rs:=[(i64,(ak i64))],gl:=[(65,bp.D.sig),(76,pM.D.sig),(87,qU.D.sig),(88,ic.D.sig),(89,jk.D.sig),(90,qj.D.sig),(91,nM.D.sig),(92,m9.D.sig)],od:=[(13,[0,1,2,3,5,6,7,8,9,10,11,12,4,13,14,15])],ar:=[(13,[3,8,12])],pd:=[(13,[14])] }
def ab (a:A):Option O:=@lift O λk=>D.W k a
def p (a1:A):Option O:=(qU.ab (a1.1.2.2.1,())).bind λr2=>cond (!decide (r2.1=0)) (some (r2.1,()))<|cond (!a1.1.1) (cond (decide (0 < (a1.1.2.1.length:Int))) (some (1,()))<|cond (decide (0 < (a1.1.2.2.2.1.length:Int))) (some (1,()))<|cond (decide (0 < (a1.1.2.2.1.2.1.length:Int))) (some (1,()))<|(bp.ab (a1.1.2.2.2.2.1,1,100,())).bind λr3=>cond (!r3.1) (some (3,()))<|some (0,()))<|(ic.ab (a1.1.2.1,())).bind λr4=>cond (!decide (r4.1=0)) (some (r4.1,()))<|(jk.ab (a1.1.2.1,())).bind λr5=>(qj.ab ((r5.1,a1.1.2.2.2.1,a1.1.2.2.2.2.1,()),())).bind λr6=>cond (!decide (r6.1=0)) (some (r6.1,()))<|(pM.ab (a1.1.2.2.1,())).bind λr7=>(nM.ab (r7.1,())).bind λr8=>cond (!decide (r8.2.1=0)) (some (8,()))<|(m9.ab (r8.1,a1.1.2.1,())).bind λr9=>cond (!r9.1) (some (8,()))<|some (0,())
theorem ae (a1:A):@Eq (Option O) (D.W k a1) (p a1):=Bye
theorem ok:Ok prog 39 D.sig:=al func39 av Bye (fc bp.ok (fc pM.ok (fc qU.ok (fc ic.ok (fc jk.ok (fc qj.ok (fc nM.ok (fc m9.ok (ai _)))))))))
end rG
namespace nZ
abbrev A:=Int×Unit
abbrev O:=mn×Unit
noncomputable def D:FD:={ fn:=f40,tl:=az,ps:=[(.ro,i64)],rs:=[(ff,(aj ff))] }
def ab (a:A):Option O:=@lift O λk=>D.W k a
def p (a1:A):Option O:=some ((a1.1,0,(false,([]:List Byt),(([]:Byt),([]:Byt),()),([]:List Tx),0,()),()),())
theorem ae (a1:A):@Eq (Option O) (D.W k a1) (p a1):=Bye
theorem ok:Ok prog 40 D.sig:=al func40 av Bye (ai _)
end nZ
namespace nh
abbrev A:=Log×Unit
abbrev O:=Log×Unit
noncomputable def D:FD:={ fn:=f77,tl:=az,ps:=[(.ro,ey)],rs:=[(ey,(aj ey))],gl:=[(139,br.D.sig)],od:=[(1,[0,1,3,4,2,5,6,7])] }
def ab (a:A):Option O:=@lift O λk=>D.W k a
def p (a1:A):Option O:=(br.ab (a1.1.1,())).bind λr2=>(br.ab (a1.1.2.1,())).bind λr3=>some ((r2.1,r3.1,()),())
theorem ae (a1:A):@Eq (Option O) (D.W k a1) (p a1):=Bye
theorem ok:Ok prog 77 D.sig:=al func77 av Bye (fc br.ok (ai _))
end nh
namespace pO
abbrev A:=Tx×Unit
abbrev O:=Tx×Unit
noncomputable def D:FD:={ fn:=f205,tl:=az,ps:=[(.ro,bh)],rs:=[(bh,(aj bh))],od:=[(1,[0,1,3,4,7,8,11,12,2,5,6,9,10,13,14,15])],ar:=[(1,[1,4,8,12])],bx:=[(1,[1])],pd:=[(1,[2,6,10])] }
def ab (a:A):Option O:=@lift O λk=>D.W k a
def p (a1:A):Option O:=if ([]:List Change).length+a1.1.2.1.length<=ct then (if ([]:List Int).length+a1.1.2.2.1.length<=ct then (if ([]:List Key).length+a1.1.2.2.2.1.length<=ct then (some ((a1.1.1,([]:List Change)++a1.1.2.1,([]:List Int)++a1.1.2.2.1,([]:List Key)++a1.1.2.2.2.1,()),())) else none) else none) else none
theorem ae (a1:A):@Eq (Option O) (D.W k a1) (p a1):=Bye
theorem ok:Ok prog 205 D.sig:=al func205 av Bye (ai _)
end pO
namespace ln
abbrev A:=(List Tx)×Unit
abbrev O:=(List Tx)×Unit
abbrev P:=Option O
noncomputable def D:FD:={ fn:=f127,tl:=az,ps:=[(.ro,(.aa bh))],rs:=[((.aa bh),(aj (.aa bh)))],gl:=[(205,pO.D.sig)],lv:=[(3,[0,3,4])],lx:=[(0,[3])] }
def ab (a:A):P:=@lift O λk=>D.W k a
variable (a1:A)
def T0 (U:(List Tx)×Int):St:={ n:=21,sl:=[(0,.val (.aa bh) a1.1),(3,.own (.aa bh) (aj (.aa bh)) [] U.1),(4,.val i64 U.2)],vr:=[],ay:=[] }
def b0 (self:((List Tx)×Int)->P) (e0:(List Tx)->P) (a1:A) (U:(List Tx)×Int):P:=cond (decide (U.2 < (a1.1.length:Int))) (if 0<=U.2 then ((a1.1[U.2.toNat]?).bind λa7=>(pO.ab (a7,())).bind λdz=>if U.1.length+[dz.1].length<=ct then (self (U.1++[dz.1],af (U.2+1))) else none) else none)<|e0 U.1
def q0 (a1:A) (e8:(List Tx)):P:=some (e8,())
def r0:((List Tx)×Int)->P:=am (λw v=>b0 w (q0 a1) a1 v) k
theorem aq:@Eq (((List Tx)×Int)->P) (λU=>D.L k [1,1,0,1,0,0] [0,3,4] [] (ah 0 (aw (D.N k [1,1,1]) D.K0)) (T0 a1 U)) (r0 k a1):=
 funext λU=>ap _ _ _ (T0 a1) _ (λrec v=>Bye) k U
def p (l0:((List Tx)×Int)->P) (a1:A):P:=l0 (([]:List Tx),0)
theorem ae:@Eq P (D.W k a1) (p (r0 k a1) a1):=By8 (aq k a1) Bye
theorem ok:Ok prog 127 D.sig:=al func127 av Bye (fc pO.ok (ai _))
end ln
namespace sF
abbrev A:=ba×Unit
abbrev O:=ba×Unit
noncomputable def D:FD:={ fn:=f67,tl:=az,ps:=[(.ro,bv)],rs:=[(bv,(aj bv))],gl:=[(77,nh.D.sig),(126,iL.D.sig),(127,ln.D.sig)],od:=[(1,[0,1,2,3,5,6,8,9,11,12,4,7,10,13,14])] }
def ab (a:A):Option O:=@lift O λk=>D.W k a
def p (a1:A):Option O:=(iL.ab (a1.1.2.1,())).bind λr2=>(nh.ab (a1.1.2.2.1,())).bind λr3=>(ln.ab (a1.1.2.2.2.1,())).bind λr4=>some ((a1.1.1,r2.1,r3.1,r4.1,a1.1.2.2.2.2.1,()),())
theorem ae (a1:A):@Eq (Option O) (D.W k a1) (p a1):=Bye
theorem ok:Ok prog 67 D.sig:=al func67 av Bye (fc nh.ok (fc iL.ok (fc ln.ok (ai _))))
end sF
namespace iM
abbrev A:=Int×Unit
abbrev O:=bz×Unit
noncomputable def D:FD:={ fn:=f157,tl:=az,ps:=[(.ro,i64)],rs:=[(fh,(ak fh))] }
def ab (a:A):Option O:=@lift O λk=>D.W k a
def p (a1:A):Option O:=some ((a1.1,false,(false,(0,0,0,([]:Byt),()),false,(0,0,0,([]:Byt),()),()),()),())
theorem ae (a1:A):@Eq (Option O) (D.W k a1) (p a1):=Bye
theorem ok:Ok prog 157 D.sig:=al func157 av Bye (ai _)
end iM
namespace nk
abbrev A:=Int×Unit
abbrev O:=Bool×Unit
noncomputable def D:FD:={ fn:=f244,tl:=az,ps:=[(.ro,i64)],rs:=[(.bool,(ak .bool))],gl:=[(65,bp.D.sig)] }
def ab (a:A):Option O:=@lift O λk=>D.W k a
def p (a1:A):Option O:=(bp.ab (a1.1,2,4,())).bind λr2=>some (r2.1,())
theorem ae (a1:A):@Eq (Option O) (D.W k a1) (p a1):=Bye
theorem ok:Ok prog 244 D.sig:=al func244 av Bye (fc bp.ok (ai _))
end nk
namespace qW
abbrev A:=Op×Unit
abbrev O:=Bool×Unit
abbrev P:=Option O
noncomputable def D:FD:={ fn:=f243,tl:=az,ps:=[(.ro,(.ptr oY))],rs:=[(.bool,(ak .bool))],gl:=[(65,bp.D.sig),(244,nk.D.sig)] }
def ab (a:A):P:=@lift O λk=>D.W k a
def p (a1:A):P:=let j6:P:=let j8:P:=cond (decide (a1.1.1=4)) (cond (decide (a1.1.2.2.1.2.2.1=0)) (some (decide (a1.1.2.2.1.2.2.2.1=([]:Byt)),()))<|some (false,()))<|(nk.ab (a1.1.1,())).bind λr9=>cond r9.1 (some (true,()))<|some ((Ty.eq aT a1.1.2.2.1 (0,0,0,([]:Byt),())),());cond (decide (a1.1.1=1)) (cond (!decide (a1.1.2.1=0)) (some (false,()))<|j8)<|cond (decide (a1.1.1=9)) (cond (!decide (a1.1.2.1=0)) (some (false,()))<|j8)<|j8;(bp.ab (a1.1.1,1,9,())).bind λr2=>cond (!r2.1) (some (false,()))<|cond (!decide (a1.1.1=6)) (cond (!decide (a1.1.2.2.2.1=0)) (some (false,()))<|j6)<|j6
theorem ae (a1:A):@Eq P (D.W k a1) (p a1):=Bye
theorem ok:Ok prog 243 D.sig:=al func243 av Bye (fc bp.ok (fc nk.ok (ai _)))
end qW
namespace tD
abbrev A:=Op×Unit
abbrev O:=Int×Unit
noncomputable def D:FD:={ fn:=f158,tl:=az,ps:=[(.ro,(.ptr oY))],rs:=[(i64,(ak i64))],gl:=[(65,bp.D.sig),(234,gn.D.sig),(243,qW.D.sig),(244,nk.D.sig)] }
def ab (a:A):Option O:=@lift O λk=>D.W k a
def p (a1:A):Option O:=(qW.ab (a1.1,())).bind λr2=>cond (!r2.1) (some (1,()))<|cond (!decide (a1.1.1=1)) (cond (!decide (a1.1.1=9)) ((bp.ab (a1.1.2.1,1,99,())).bind λr3=>cond (!r3.1) (some (3,()))<|(bp.ab (a1.1.2.2.2.1,0,7,())).bind λr4=>cond (!r4.1) (some (3,()))<|(nk.ab (a1.1.1,())).bind λr9=>cond r9.1 ((gn.ab (a1.1.2.2.1,())).bind λsf=>some (sf.1,()))<|some (0,()))<|(bp.ab (a1.1.2.2.2.1,0,7,())).bind λr5=>cond (!r5.1) (some (3,()))<|(nk.ab (a1.1.1,())).bind λnu=>cond nu.1 ((gn.ab (a1.1.2.2.1,())).bind λru=>some (ru.1,()))<|some (0,()))<|(bp.ab (a1.1.2.2.2.1,0,7,())).bind λr6=>cond (!r6.1) (some (3,()))<|(nk.ab (a1.1.1,())).bind λzs=>cond zs.1 ((gn.ab (a1.1.2.2.1,())).bind λuF=>some (uF.1,()))<|some (0,())
theorem ae (a1:A):@Eq (Option O) (D.W k a1) (p a1):=Bye
theorem ok:Ok prog 158 D.sig:=al func158 av Bye (fc bp.ok (fc gn.ok (fc qW.ok (fc nk.ok (ai _)))))
end tD
namespace mO
abbrev A:=(List Tx)×Int×Unit
abbrev O:=Int×Unit
abbrev P:=Option O
noncomputable def D:FD:={ fn:=f160,tl:=az,ps:=[(.ro,(.aa bh)),(.ro,i64)],rs:=[(i64,(ak i64))],lv:=[(2,[0,1,5])],lx:=[(0,[])] }
def ab (a:A):P:=@lift O λk=>D.W k a
variable (a1:A)
def T0 (U:Int):St:={ n:=20,sl:=[(0,.val (.aa bh) a1.1),(1,.val i64 a1.2.1),(5,.val i64 U)],vr:=[],ay:=[] }
def b0 (self:Int->P) (e0:(Unit)->P) (a1:A) (U:Int):P:=cond (decide (U < (a1.1.length:Int))) (if 0<=U then ((a1.1[U.toNat]?).bind λa7=>cond (decide (a7.1=a1.2.1)) (some (U,()))<|self (af (U+1))) else none)<|e0 ()
def q0 (a1:A) (l_:(Unit)):P:=some ((-1),())
def r0:(Int)->P:=am (λw v=>b0 w (q0 a1) a1 v) k
theorem aq:@Eq ((Int)->P) (λU=>D.L k [1,0,1,0,0] [0,1,5] [] (ah 0 (aw (D.N k [1,1]) D.K0)) (T0 a1 U)) (r0 k a1):=
 funext λU=>ap _ _ _ (T0 a1) _ (λrec v=>Bye) k U
def p (l0:(Int)->P) (a1:A):P:=l0 0
theorem ae:@Eq P (D.W k a1) (p (r0 k a1) a1):=By8 (aq k a1) Bye
theorem ok:Ok prog 160 D.sig:=al func160 av Bye (ai _)
end mO
namespace ir
abbrev A:=(List Tx)×Int×Key×Unit
abbrev O:=Bool×Unit
abbrev P:=Option O
noncomputable def D:FD:={ fn:=f294,tl:=az,ps:=[(.ro,(.aa bh)),(.ro,i64),(.ro,bc)],rs:=[(.bool,(ak .bool))],lv:=[(2,[0,1,5,7]),(6,[0,1,5,7,8])],lx:=[(0,[]),(1,[0,1,5,7]),(2,[0,1,5,7])] }
def ab (a:A):P:=@lift O λk=>D.W k a
def T0 (a1:A) (U:(List Tx)×Int×Key×Int):St:={ n:=68,sl:=[(0,.val (.aa bh) U.1),(1,.val i64 U.2.1),(5,.box bc (ak bc) [] U.2.2.1),(7,.val i64 U.2.2.2)],vr:=[],ay:=[] }
def S0 (rec:RT O) (a1:A):((List Tx)×Int×Key×Int)->P:=λU=>rec (T0 a1 U)
def cw (K:KT O) (a1:A):(Unit)->P:=λz=>K (.exit 0) ({ n:=68,sl:=[],vr:=[],ay:=[] })
def T1 (a1:A) (fa:List Tx) (c8:Int) (cg:Key) (bt:Int) (oo:Int):St:={ n:=68,sl:=[(0,.val (.aa bh) fa),(1,.val i64 c8),(5,.box bc (ak bc) [] cg),(7,.val i64 bt),(8,.val i64 oo)],vr:=[],ay:=[] }
def b1 (self:Int->P) (e2:(Unit)->P) (a1:A) (fa:List Tx) (c8:Int) (cg:Key) (bt:Int) (oo:Int):P:=if 0<=bt then ((fa[bt.toNat]?).bind λzW=>cond (decide (oo < (zW.2.2.2.1.length:Int))) (if 0<=bt then ((fa[bt.toNat]?).bind λyN=>if 0<=oo then ((yN.2.2.2.1[oo.toNat]?).bind λum=>cond (Ty.eq bc um cg) (some (true,()))<|cond (decide (um.1=0)) (cond (decide (um.2.1=cg.1)) (some (true,()))<|cond (decide (cg.1=0)) (cond (decide (um.1=cg.2.1)) (some (true,()))<|self (af (oo+1)))<|self (af (oo+1)))<|cond (decide (cg.1=0)) (cond (decide (um.1=cg.2.1)) (some (true,()))<|self (af (oo+1)))<|self (af (oo+1))) else none) else none)<|e2 ()) else none
def q0 (self:((List Tx)×Int×Key×Int)->P) (e0:(Unit)->P) (a1:A) (fa:List Tx) (c8:Int) (cg:Key) (bt:Int) (u_:(Unit)):P:=self (fa,c8,cg,af (bt+1))
def s1 (rec:RT O) (K:KT O) (a1:A):(List Tx)->Int->Key->Int->(Int)->P:=λfa c8 cg bt=>λoo=>D.L k [1,0,1,0,0,1,0,0,1,1,0,0] [0,1,5,7,8] [] (ah 2 (ah 1 (aw (D.N k [1,0,1,0,0,1,1]) (im rec (fm [0,1,5,7] []) K)))) (T1 a1 fa c8 cg bt oo)
def r1 (self:((List Tx)×Int×Key×Int)->P) (e0:(Unit)->P) (a1:A):(List Tx)->Int->Key->Int->(Int)->P:=λfa c8 cg bt=>am (λw v=>b1 w (q0 self e0 a1 fa c8 cg bt) a1 fa c8 cg bt v) k
theorem kL (rec:RT O) (K:KT O) (a1:A):s1 k rec K a1=r1 k (S0 rec a1) (cw K a1) a1:=
 funext λfa=>funext λc8=>funext λcg=>funext λbt=>funext λoo=>ap _ _ _ (T1 a1 fa c8 cg bt) _ (λrec v=>Bye) k oo
def b0 (self:((List Tx)×Int×Key×Int)->P) (e0:(Unit)->P) (l1:(List Tx)->Int->Key->Int->(Int)->P) (a1:A) (U:(List Tx)×Int×Key×Int):P:=cond (decide (U.2.2.2 < (U.1.length:Int))) (if 0<=U.2.2.2 then ((U.1[U.2.2.2.toNat]?).bind λa7=>cond (decide (a7.1=U.2.1)) (self (U.1,U.2.1,U.2.2.1,af (U.2.2.2+1)))<|l1 U.1 U.2.1 U.2.2.1 U.2.2.2 0) else none)<|e0 ()
def B0 (self:((List Tx)×Int×Key×Int)->P) (e0:(Unit)->P) (a1:A) (U:(List Tx)×Int×Key×Int):P:=b0 self e0 (r1 k self e0 a1) a1 U
theorem kK (rec:RT O) (K:KT O) (a1:A) (U:(List Tx)×Int×Key×Int):D.N k [1,0,1,0,0] (T0 a1 U) (im rec (fm [0,1,5,7] []) K)=B0 k (S0 rec a1) (cw K a1) a1 U:=
 aL (b:=b0 (S0 rec a1) (cw K a1) (s1 k rec K a1) a1 U) Bye (by rw[kL];rfl)
def q1 (a1:A) (HW:(Unit)):P:=some (false,())
theorem pN (a1:A) (HW:(Unit)):cw (ah 0 (aw (D.N k [1,1]) D.K0)) a1 HW=q1 a1 HW:=Bye
def s0 (a1:A):((List Tx)×Int×Key×Int)->P:=λU=>D.L k [1,0,1,0,0] [0,1,5,7] [] (ah 0 (aw (D.N k [1,1]) D.K0)) (T0 a1 U)
def r0 (a1:A):((List Tx)×Int×Key×Int)->P:=am (λw v=>B0 k w (q1 a1) a1 v) k
theorem aq (a1:A):s0 k a1=r0 k a1:=by
 funext U;have h0:cw (ah 0 (aw (D.N k [1,1]) D.K0)) a1=q1 a1:=funext λz=>pN k a1 z;refine (ap _ _ _ (T0 a1) (λself v=>B0 k self (cw (ah 0 (aw (D.N k [1,1]) D.K0)) a1) a1 v) (λrec v=>kK k rec (ah 0 (aw (D.N k [1,1]) D.K0)) a1 v) k U).trans ?_;rw[h0];rfl
def p (l0:((List Tx)×Int×Key×Int)->P) (a1:A):P:=l0 (a1.1,a1.2.1,a1.2.2.1,0)
theorem ae (a1:A):@Eq P (D.W k a1) (p (r0 k a1) a1):=
 aL (b:=p (s0 k a1) a1) Bye (by rw[aq])
theorem ok:Ok prog 294 D.sig:=al func294 av Bye (ai _)
end ir
namespace pj
abbrev A:=(List Row)×Op×Unit
abbrev O:=Change×Int×Unit
abbrev P:=Option O
noncomputable def D:FD:={ fn:=f295,tl:=az,ps:=[(.ro,(.aa aT)),(.ro,(.ptr oY))],rs:=[(ao,(ak ao)),(i64,(ak i64))],gl:=[(312,ll.D.sig)],od:=[(1,[0,1,2,3,4,5,6,7,8,9,10,11,12])] }
def ab (a:A):P:=@lift O λk=>D.W k a
def p (a1:A):P:=(ll.ab (a1.1,a1.2.1.2.2.1.1,a1.2.1.2.2.1.2.1,())).bind λr2=>let j5:P:=let j7:P:=let FO:=λ(p9:Change)=>(cond p9.2.2.1 (some ((p9.1,p9.2.1,p9.2.2.1,a1.2.1.2.2.1,p9.2.2.2.2),0,()))<|some (p9,0,()):P);cond (decide (0<=r2.1)) (if 0<=r2.1 then ((a1.1[r2.1.toNat]?).bind λx8=>FO (decide (0<=r2.1),x8,!decide (a1.2.1.1=4),(0,0,0,([]:Byt),()),())) else none)<|FO (decide (0<=r2.1),(0,0,0,([]:Byt),()),!decide (a1.2.1.1=4),(0,0,0,([]:Byt),()),());cond (!decide (a1.2.1.1=2)) (cond (decide (r2.1 < 0)) (some ((false,(0,0,0,([]:Byt),()),false,(0,0,0,([]:Byt),()),()),4,()))<|j7)<|j7;cond (decide (a1.2.1.1=2)) (cond (decide (0<=r2.1)) (some ((false,(0,0,0,([]:Byt),()),false,(0,0,0,([]:Byt),()),()),6,()))<|j5)<|j5
theorem ae (a1:A):@Eq P (D.W k a1) (p a1):=Bye
theorem ok:Ok prog 295 D.sig:=al func295 av Bye (fc ll.ok (ai _))
end pj
namespace kg
abbrev A:=(List Row)×Change×Unit
abbrev O:=Int×Unit
abbrev P:=Option O
noncomputable def D:FD:={ fn:=f316,tl:=az,ps:=[(.ro,(.aa aT)),(.ro,(.ptr ao))],rs:=[(i64,(ak i64))],gl:=[(65,bp.D.sig),(204,jA.D.sig)],lv:=[(5,[0,1,6,7])],lx:=[(0,[])],od:=[(7,[0,1,2,3,4,5,6,7,8,9,10,11,12,13,14,15,16,17,18,19,20,21,22,23,24,25,26,27,28,29,30,31,32,33,34,35])] }
def ab (a:A):P:=@lift O λk=>D.W k a
variable (a1:A)
def T0 (bt:Int) (mt:Int):St:={ n:=80,sl:=[(0,.val (.aa aT) a1.1),(1,.cp ao a1.2.1),(6,.val i64 bt),(7,.val i64 mt)],vr:=[],ay:=[] }
def b0 (self:Int->P) (e0:(Unit)->P) (a1:A) (bt:Int) (mt:Int):P:=cond (decide (mt < (a1.1.length:Int))) (if 0<=mt then ((a1.1[mt.toNat]?).bind λzW=>cond (decide (zW.1=bt)) (if 0<=mt then ((a1.1[mt.toNat]?).bind λyN=>cond (!decide (yN.1=0)) (cond (!a1.2.1.2.2.1) (some (8,()))<|if 0<=mt then ((a1.1[mt.toNat]?).bind λum=>cond (decide (a1.2.1.2.2.2.1.2.2.1 < (um.2.2.2.1.length:Int))) (some (8,()))<|self (af (mt+1))) else none)<|self (af (mt+1))) else none)<|self (af (mt+1))) else none)<|e0 ()
def q0 (a1:A) (bt:Int) (u_:(Unit)):P:=some (0,())
def r0:Int->(Int)->P:=λbt=>am (λw v=>b0 w (q0 a1 bt) a1 bt v) k
theorem aq:@Eq (Int->(Int)->P) (λbt=>λmt=>D.L k [1,1,1,0,1,0,0] [0,1,6,7] [] (ah 0 (aw (D.N k [1,1,1,1]) D.K0)) (T0 a1 bt mt)) (r0 k a1):=
 funext λbt=>funext λmt=>ap _ _ _ (T0 a1 bt) _ (λrec v=>Bye) k mt
def p (l0:Int->(Int)->P) (a1:A):P:=(jA.ab (a1.2.1,())).bind λr2=>let acg:P:=l0 r2.2.1 0;cond a1.2.1.2.2.1 ((bp.ab (r2.2.1,1,3,())).bind λr3=>cond (!r3.1) (some (10,()))<|cond (decide (8 < a1.2.1.2.2.2.1.2.2.1)) (some (10,()))<|cond (!decide (a1.2.1.2.2.2.1.2.2.2.1=([]:Byt))) (some (10,()))<|acg)<|acg
theorem ae:@Eq P (D.W k a1) (p (r0 k a1) a1):=By8 (aq k a1) Bye
theorem ok:Ok prog 316 D.sig:=al func316 av Bye (fc bp.ok (fc jA.ok (ai _)))
end kg
namespace qD
abbrev A:=(List Row)×Int×Unit
abbrev O:=Int×Unit
noncomputable def D:FD:={ fn:=f317,tl:=az,ps:=[(.ro,(.aa aT)),(.ro,i64)],rs:=[(i64,(ak i64))],gl:=[(312,ll.D.sig)] }
def ab (a:A):Option O:=@lift O λk=>D.W k a
def p (a1:A):Option O:=(ll.ab (a1.1,0,a1.2.1,())).bind λr2=>cond (decide (r2.1 < 0)) (some ((-1),()))<|if 0<=r2.1 then ((a1.1[r2.1.toNat]?).bind λx3=>some (x3.2.2.1,())) else none
theorem ae (a1:A):@Eq (Option O) (D.W k a1) (p a1):=Bye
theorem ok:Ok prog 317 D.sig:=al func317 av Bye (fc ll.ok (ai _))
end qD
namespace tE
abbrev A:=(List Row)×Change×Unit
abbrev O:=Int×Unit
noncomputable def D:FD:={ fn:=f296,tl:=az,ps:=[(.ro,(.aa aT)),(.ro,(.ptr ao))],rs:=[(i64,(ak i64))],gl:=[(204,jA.D.sig),(316,kg.D.sig),(317,qD.D.sig)] }
def ab (a:A):Option O:=@lift O λk=>D.W k a
def p (a1:A):Option O:=(jA.ab (a1.2.1,())).bind λr2=>cond (decide (r2.1=0)) ((kg.ab (a1.1,a1.2.1,())).bind λr3=>some (r3.1,()))<|cond (!a1.2.1.2.2.1) (some (0,()))<|(qD.ab (a1.1,r2.1,())).bind λr4=>cond (decide (r4.1 < 0)) (some (4,()))<|cond (decide (r4.1 < (a1.2.1.2.2.2.1.2.2.2.1.length:Int))) (some (10,()))<|some (0,())
theorem ae (a1:A):@Eq (Option O) (D.W k a1) (p a1):=Bye
theorem ok:Ok prog 296 D.sig:=al func296 av Bye (fc jA.ok (fc kg.ok (fc qD.ok (ai _))))
end tE
namespace mP
abbrev A:=(List Row)×(List Tx)×Op×Unit
abbrev O:=bz×Unit
noncomputable def D:FD:={ fn:=f245,tl:=az,ps:=[(.ro,(.aa aT)),(.ro,(.aa bh)),(.ro,(.ptr oY))],rs:=[(fh,(ak fh))],gl:=[(154,cj.D.sig),(157,iM.D.sig),(238,jK.D.sig),(294,ir.D.sig),(295,pj.D.sig),(296,tE.D.sig)],od:=[(1,[0,1,2,3,4,5,6,7,8,9,10,11,12]),(2,[0,1,2,3,4,5,6])] }
def ab (a:A):Option O:=@lift O λk=>D.W k a
def p (a1:A):Option O:=(ir.ab (a1.2.1,a1.2.2.1.2.1,(a1.2.2.1.2.2.1.1,a1.2.2.1.2.2.1.2.1,()),())).bind λr2=>cond r2.1 ((iM.ab (7,())).bind λr3=>some (r3.1,()))<|(pj.ab (a1.1,a1.2.2.1,())).bind λr4=>cond (!decide (r4.2.1=0)) ((iM.ab (r4.2.1,())).bind λr5=>some (r5.1,()))<|(tE.ab (a1.1,r4.1,())).bind λr6=>cond (!decide (r6.1=0)) ((iM.ab (r6.1,())).bind λr7=>some (r7.1,()))<|(cj.ab (a1.1,a1.2.1,(a1.2.2.1.2.2.1.1,a1.2.2.1.2.2.1.2.1,()),())).bind λr8=>cond (decide (12 < r8.1)) ((iM.ab (9,())).bind λsf=>some (sf.1,()))<|(jK.ab (a1.2.1,())).bind λr9=>cond (decide (12<=r9.1)) ((iM.ab (9,())).bind λnu=>some (nu.1,()))<|cond r4.1.1 (cond r4.1.2.2.1 (cond (Ty.eq aT r4.1.2.1 r4.1.2.2.2.1) (some ((0,false,(false,(0,0,0,([]:Byt),()),false,(0,0,0,([]:Byt),()),()),()),()))<|some ((0,true,r4.1,()),()))<|some ((0,true,r4.1,()),()))<|some ((0,true,r4.1,()),())
theorem ae (a1:A):@Eq (Option O) (D.W k a1) (p a1):=Bye
theorem ok:Ok prog 245 D.sig:=al func245 av Bye (fc cj.ok (fc iM.ok (fc jK.ok (fc ir.ok (fc pj.ok (fc tE.ok (ai _)))))))
end mP
namespace qk
abbrev A:=(List Row)×(List Tx)×Op×Unit
abbrev O:=bz×Unit
noncomputable def D:FD:={ fn:=f159,tl:=az,ps:=[(.ro,(.aa aT)),(.ro,(.aa bh)),(.ro,(.ptr oY))],rs:=[(fh,(ak fh))],gl:=[(157,iM.D.sig),(160,mO.D.sig),(245,mP.D.sig)],od:=[(17,[0,1,2,3,4,5,6,7,8,9,10])] }
def ab (a:A):Option O:=@lift O λk=>D.W k a
def p (a1:A):Option O:=cond (decide (a1.2.2.1.1=1)) (cond (decide (4<=(a1.2.1.length:Int))) ((iM.ab (2,())).bind λr2=>some (r2.1,()))<|some ((0,false,(false,(0,0,0,([]:Byt),()),false,(0,0,0,([]:Byt),()),()),()),()))<|cond (decide (a1.2.2.1.1=9)) (some ((0,false,(false,(0,0,0,([]:Byt),()),false,(0,0,0,([]:Byt),()),()),()),()))<|(mO.ab (a1.2.1,a1.2.2.1.2.1,())).bind λr3=>cond (decide (r3.1 < 0)) ((iM.ab (4,())).bind λr4=>some (r4.1,()))<|cond (decide (a1.2.2.1.1=5)) (if 0<=r3.1 then ((a1.2.1[r3.1.toNat]?).bind λx5=>cond (decide (8<=(x5.2.2.1.length:Int))) ((iM.ab (2,())).bind λr6=>some (r6.1,()))<|some ((0,false,(false,(0,0,0,([]:Byt),()),false,(0,0,0,([]:Byt),()),()),()),())) else none)<|cond (decide (a1.2.2.1.1=6)) (if 0<=r3.1 then ((a1.2.1[r3.1.toNat]?).bind λx7=>cond (decide ((x7.2.2.1.length:Int)<=a1.2.2.1.2.2.2.1)) ((iM.ab (3,())).bind λr8=>some (r8.1,()))<|some ((0,false,(false,(0,0,0,([]:Byt),()),false,(0,0,0,([]:Byt),()),()),()),())) else none)<|cond (decide (a1.2.2.1.1=7)) (cond (decide (a1.2.2.1.1=7)) (some ((0,false,(false,(0,0,0,([]:Byt),()),false,(0,0,0,([]:Byt),()),()),()),()))<|(mP.ab (a1.1,a1.2.1,a1.2.2.1,())).bind λsf=>some (sf.1,()))<|cond (decide (a1.2.2.1.1=8)) (some ((0,false,(false,(0,0,0,([]:Byt),()),false,(0,0,0,([]:Byt),()),()),()),()))<|(mP.ab (a1.1,a1.2.1,a1.2.2.1,())).bind λnu=>some (nu.1,())
theorem ae (a1:A):@Eq (Option O) (D.W k a1) (p a1):=Bye
theorem ok:Ok prog 159 D.sig:=al func159 av Bye (fc iM.ok (fc mO.ok (fc mP.ok (ai _))))
end qk
namespace qX
abbrev A:=(List Row)×(List Tx)×Op×Unit
abbrev O:=bz×Unit
noncomputable def D:FD:={ fn:=f93,tl:=az,ps:=[(.ro,(.aa aT)),(.ro,(.aa bh)),(.ro,oY)],rs:=[(fh,(ak fh))],gl:=[(152,kd.D.sig),(153,i_.D.sig),(157,iM.D.sig),(158,tD.D.sig),(159,qk.D.sig)] }
def ab (a:A):Option O:=@lift O λk=>D.W k a
def p (a1:A):Option O:=(kd.ab (a1.1,())).bind λr2=>cond (!decide (r2.1=0)) ((iM.ab (r2.1,())).bind λr3=>some (r3.1,()))<|(i_.ab (a1.2.1,())).bind λr4=>cond (!decide (r4.1=0)) ((iM.ab (r4.1,())).bind λr5=>some (r5.1,()))<|(tD.ab (a1.2.2.1,())).bind λr6=>cond (!decide (r6.1=0)) ((iM.ab (r6.1,())).bind λr7=>some (r7.1,()))<|(qk.ab (a1.1,a1.2.1,a1.2.2.1,())).bind λr8=>some (r8.1,())
theorem ae (a1:A):@Eq (Option O) (D.W k a1) (p a1):=Bye
theorem ok:Ok prog 93 D.sig:=al func93 av Bye (fc kd.ok (fc i_.ok (fc iM.ok (fc tD.ok (fc qk.ok (ai _))))))
end qX
namespace pB
abbrev A:=Log×Unit
abbrev O:=Log×Unit
noncomputable def D:FD:={ fn:=f78,tl:=az,ps:=[(.ro,ey)],rs:=[(ey,(aj ey))],gl:=[(139,br.D.sig)],od:=[(1,[0,1,3,4,2,5,6,7])] }
def ab (a:A):Option O:=@lift O λk=>D.W k a
def p (a1:A):Option O:=(br.ab (a1.1.1,())).bind λr2=>if r2.1.length+a1.1.2.1.length<=ct then (some ((r2.1++a1.1.2.1,([]:Byt),()),())) else none
theorem ae (a1:A):@Eq (Option O) (D.W k a1) (p a1):=Bye
theorem ok:Ok prog 78 D.sig:=al func78 av Bye (fc br.ok (ai _))
end pB
namespace m_
abbrev A:=Log×bk×Unit
abbrev O:=Log×Bool×Unit
noncomputable def D:FD:={ fn:=f207,tl:=az,ps:=[(.ro,ey),(.ro,(.ptr eg))],rs:=[(ey,(ak ey)),(.bool,(ak .bool))],gl:=[(77,nh.D.sig),(272,jZ.D.sig)] }
def ab (a:A):Option O:=@lift O λk=>D.W k a
def p (a1:A):Option O:=(jZ.ab (a1.2.1,())).bind λr2=>cond (decide (16000 < af ((af ((a1.1.1.length:Int)+(a1.1.2.1.length:Int)))+(r2.1.length:Int)))) (some (a1.1,false,()))<|(nh.ab (a1.1,())).bind λr3=>if r3.1.2.1.length+r2.1.length<=ct then (some ((r3.1.1,r3.1.2.1++r2.1,r3.1.2.2),true,())) else none
theorem ae (a1:A):@Eq (Option O) (D.W k a1) (p a1):=Bye
theorem ok:Ok prog 207 D.sig:=al func207 av Bye (fc nh.ok (fc jZ.ok (ai _)))
end m_
namespace nl
abbrev A:=ba×bk×Unit
abbrev O:=Int×ba×Unit
noncomputable def D:FD:={ fn:=f129,tl:=az,ps:=[(.jl (ak bv) (ak bv),bv),(.ro,(.ptr eg))],rs:=[(i64,(ak i64))],gl:=[(207,m_.D.sig)],es:=[0] }
def ab (a:A):Option O:=@lift O λk=>D.W k a
def p (a1:A):Option O:=(m_.ab (a1.1.2.2.1,a1.2.1,())).bind λr2=>cond (!r2.2.1) (some (9,a1.1,()))<|some (0,(a1.1.1,a1.1.2.1,r2.1,a1.1.2.2.2),())
theorem ae (a1:A):@Eq (Option O) (D.W k a1) (p a1):=Bye
theorem ok:Ok prog 129 D.sig:=al func129 av Bye (fc m_.ok (ai _))
end nl
namespace lF
abbrev A:=ba×bk×Unit
abbrev O:=Int×ba×Unit
noncomputable def D:FD:={ fn:=f129,tl:=az,ps:=[(.jl Byy Byy,bv),(.ro,(.ptr eg))],rs:=[(i64,(ak i64))],gl:=[(207,m_.D.sig)],es:=[0] }
def ab (a:A):Option O:=@lift O λk=>D.W k a
def p (a1:A):Option O:=(m_.ab (a1.1.2.2.1,a1.2.1,())).bind λr2=>cond (!r2.2.1) (some (9,a1.1,()))<|some (0,(a1.1.1,a1.1.2.1,r2.1,a1.1.2.2.2),())
theorem ae (a1:A):@Eq (Option O) (D.W k a1) (p a1):=Bye
theorem ok:Ok prog 129 D.sig:=al func129 av Bye (fc m_.ok (ai _))
end lF
namespace nm
abbrev A:=(List Byt)×Int×Int×Unit
abbrev O:=ax×Bool×Unit
abbrev P:=Option O
noncomputable def D:FD:={ fn:=f297,tl:=az,ps:=[(.ro,(.aa (.aa u8))),(.ro,i64),(.ro,i64)],rs:=[(ij,(ak ij)),(.bool,(ak .bool))],gl:=[(150,jn.D.sig)],lv:=[(3,[1,2,6,8,9])],lx:=[(0,[6])] }
def ab (a:A):P:=@lift O λk=>D.W k a
variable (a1:A)
def T0 (d7:List ax) (bf:Int):St:={ n:=43,sl:=[(1,.val i64 a1.2.1),(2,.val i64 a1.2.2.1),(6,.box ij (ak ij) [] ((0:Int),(0:Int),((0:Int),(0:Int),(0:Int),(0:Int),((0:Int),(0:Int),(0:Int),([]:Byt),()),()),())),(8,.own (.aa ij) (aj (.aa ij)) [] d7),(9,.val i64 bf)],vr:=[],ay:=[] }
def b0 (self:Int->P) (e0:(Unit)->P) (a1:A) (d7:List ax) (bf:Int):P:=cond (decide (bf < (d7.length:Int))) (if 0<=bf/\bf < (d7.length:Int) then ((d7[bf.toNat]?).bind λen=>cond (decide (en.2.2.1.2.2.2.2.1.1=a1.2.1)) (if 0<=bf/\bf < (d7.length:Int) then ((d7[bf.toNat]?).bind λtW=>cond (decide (tW.2.2.1.2.2.2.2.1.2.1=a1.2.2.1)) (if 0<=bf/\bf < (d7.length:Int) then ((d7[bf.toNat]?).bind λsX=>some (sX,true,())) else none)<|self (af (bf+1))) else none)<|self (af (bf+1))) else none)<|e0 ()
def q0 (a1:A) (d7:List ax) (sY:(Unit)):P:=some ((0,0,(0,0,0,0,(0,0,0,([]:Byt),()),()),()),false,())
def r0:(List ax)->(Int)->P:=λd7=>am (λw v=>b0 w (q0 a1 d7) a1 d7 v) k
theorem aq:@Eq ((List ax)->(Int)->P) (λd7=>λbf=>D.L k [1,1,0,1,0,0] [1,2,6,8,9] [] (ah 0 (aw (D.N k [1,1,1]) D.K0)) (T0 a1 d7 bf)) (r0 k a1):=
 funext λd7=>funext λbf=>ap _ _ _ (T0 a1 d7) _ (λrec v=>Bye) k bf
def p (l0:(List ax)->(Int)->P) (a1:A):P:=(jn.ab (a1.1,())).bind λr2=>l0 r2.1 0
theorem ae:@Eq P (D.W k a1) (p (r0 k a1) a1):=By8 (aq k a1) Bye
theorem ok:Ok prog 297 D.sig:=al func297 av Bye (fc jn.ok (ai _))
end nm
namespace lq
abbrev A:=(List Byt)×Unit
abbrev O:=a_×Unit
noncomputable def D:FD:={ fn:=f318,tl:=az,ps:=[(.ro,(.aa (.aa u8)))],rs:=[((.ptr de),(aj (.ptr de)))],gl:=[(126,iL.D.sig)] }
def ab (a:A):Option O:=@lift O λk=>D.W k a
def p (a1:A):Option O:=(iL.ab (a1.1,())).bind λr2=>some ((r2.1,([]:List cr),()),())
theorem ae (a1:A):@Eq (Option O) (D.W k a1) (p a1):=Bye
theorem ok:Ok prog 318 D.sig:=al func318 av Bye (fc iL.ok (ai _))
end lq
namespace kA
abbrev A:=Byt×Unit
abbrev O:=Int×Unit
abbrev P:=Option O
noncomputable def D:FD:={ fn:=f358,tl:=az,ps:=[(.ro,(.aa u8))],rs:=[(i64,(ak i64))],gl:=[(228,c_.D.sig),(229,cn.D.sig)],lv:=[(2,[0,3])],lx:=[(0,[0])] }
def ab (a:A):P:=@lift O λk=>D.W k a
variable (a1:A)
def T0 (U:Int):St:={ n:=17,sl:=[(0,.val (.aa u8) a1.1),(3,.val i64 U)],vr:=[],ay:=[] }
def b0 (self:Int->P) (e0:(Unit)->P) (a1:A) (U:Int):P:=(c_.ab (a1.1,())).bind λxe=>cond (decide (U < xe.1)) ((cn.ab (a1.1,U,())).bind λdz=>cond (decide (dz.1=0)) (some (U,()))<|self (af (U+1)))<|e0 ()
def q0 (e8:(Unit)):P:=(c_.ab (a1.1,())).bind λjm=>some (jm.1,())
def r0:(Int)->P:=am (λw v=>b0 w (q0 a1) a1 v) k
theorem aq:@Eq ((Int)->P) (λU=>D.L k [1,0,1,0,0] [0,3] [] (ah 0 (aw (D.N k [1,1]) D.K0)) (T0 a1 U)) (r0 k a1):=
 funext λU=>ap _ _ _ (T0 a1) _ (λrec v=>Bye) k U
def p (l0:(Int)->P) (a1:A):P:=l0 0
theorem ae:@Eq P (D.W k a1) (p (r0 k a1) a1):=By8 (aq k a1) Bye
theorem ok:Ok prog 358 D.sig:=al func358 av Bye (fc c_.ok (fc cn.ok (ai _)))
end kA
namespace kQ
abbrev A:=Byt×Unit
abbrev O:=Int×Unit
abbrev P:=Option O
noncomputable def D:FD:={ fn:=f359,tl:=az,ps:=[(.ro,(.aa u8))],rs:=[(i64,(ak i64))],gl:=[(228,c_.D.sig),(229,cn.D.sig)],lv:=[(3,[0,3,4])],lx:=[(0,[3])] }
def ab (a:A):P:=@lift O λk=>D.W k a
variable (a1:A)
def T0 (bf:Int×Int):St:={ n:=21,sl:=[(0,.val (.aa u8) a1.1),(3,.val i64 bf.1),(4,.val i64 bf.2)],vr:=[],ay:=[] }
def b0 (self:(Int×Int)->P) (e0:Int->P) (a1:A) (bf:Int×Int):P:=(c_.ab (a1.1,())).bind λdz=>cond (decide (bf.2 < dz.1)) ((cn.ab (a1.1,bf.2,())).bind λlj=>self (af (bf.1 - lj.1),af (bf.2+1)))<|e0 bf.1
def q0 (a1:A) (rW:Int):P:=some (rW,())
def r0:(Int×Int)->P:=am (λw v=>b0 w (q0 a1) a1 v) k
theorem aq:@Eq ((Int×Int)->P) (λbf=>D.L k [1,1,0,1,0,0] [0,3,4] [] (ah 0 (aw (D.N k [1,1,1]) D.K0)) (T0 a1 bf)) (r0 k a1):=
 funext λbf=>ap _ _ _ (T0 a1) _ (λrec v=>Bye) k bf
def p (l0:(Int×Int)->P) (a1:A):P:=(c_.ab (a1.1,())).bind λr2=>l0 (af (62 - (af (2*r2.1))),0)
theorem ae:@Eq P (D.W k a1) (p (r0 k a1) a1):=By8 (aq k a1) Bye
theorem ok:Ok prog 359 D.sig:=al func359 av Bye (fc c_.ok (fc cn.ok (ai _)))
end kQ
end
end OT
