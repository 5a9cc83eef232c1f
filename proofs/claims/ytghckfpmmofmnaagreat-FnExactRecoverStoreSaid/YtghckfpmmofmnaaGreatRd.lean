/- The proof's parts, merged: slices.Delete at elements of any size  what it computes, as a contract of this framework.. No conditions but those that each states. -/
import Derived.Test.YtghckfpmmofmnaaGreatRc
import Derived.Shelf.SlLaysE0
import Derived.Shelf.RegionOpenPlain
import Derived.WalkKit
import Derived.Deep.LoopGhost
import Derived.Deep.RegionLaw
import Derived.Lib.Walk
import Derived.Sort.WalkB12
import Derived.Lib.SliceRun
import Derived.Shelf.Lays2
import Derived.Shelf.SlGeneric
import Derived.Lib.JoinLaws
import Derived.Lib.AppendZeros
import Derived.Lib.AppendZerosOnto
import Derived.Lib.Overlaps
import Derived.Laws.Externs
import Derived.Laws.IdiomCopy
import Derived.Laws.NewBlocks
set_option linter.unusedVariables false
set_option linter.unusedSimpArgs false
namespace OT
open Go Go.Shelf Go.RowKit Go.Lib Go.Proofs
section
variable {P:Program} {ρ:Ren}
theorem RH (w:World) (t e ty:TypeId) (z:Value) (ht:P.underlying t=some (.slice e)) (hv:∀ w,(zeroValue e).run P w=.ok z w) (b o n c:Nat) (hn:0 < n)
  (hc:∀ j,j < (Builtin.zeroCells z.cells n).toList.length->(w.cell? ⟨b,o+j,none⟩).isSome=true) (hf:∀ j,j < (Builtin.zeroCells z.cells n).toList.length->w.frozen? ⟨b,o+j,none⟩=false) (h1:∀ v ∈ (Builtin.zeroCells z.cells n).toList,v.oneCell'=true) :
  (Builtin.clear_ #[t] ty #[.slice (some ⟨b,o,none⟩) n c]).run P w=.ok (.tuple #[]) (w.setCells b o (Builtin.zeroCells z.cells n).toList):=by
 have dp:=run_storeCells_cells (P:=P) b o (Builtin.zeroCells z.cells n).toList 0 w (by simpa using hc) (by simpa using hf) h1;simp only[eJ] at dp
 obtain ⟨m,rfl⟩:∃ m,n=m+1:=⟨n - 1,by omega⟩
 simp_all [Builtin.clear_,run_underlying]
theorem vP (b:Nat) (vs:List Value) (o:Nat) (w:World) (h:∀ j,j < vs.length->(w.cell? ⟨b,o+j,none⟩).isSome=true) (k:Nat) (hk:(w.cell? ⟨b,k,none⟩).isSome=true):((w.setCells b o vs).cell? ⟨b,k,none⟩).isSome=true:=by
 by_cases iZ:o<=k/\k < o+vs.length
 ·have:=World.cell?_setCells_in b vs o w h (k - o) Bys;grind
 grind [World.cell?_setCells_out]
set_option maxHeartbeats 4000000 in
set_option maxRecDepth 1000000 in
theorem Xk (L:SlLaysE0.n45 P ρ) (k:Nat) (inf:TypeInfo) (zv:Value) (M9:P.info? (ρ.t 23)=some inf) (hsk:inf.size=k) (hz:∀ w,(zeroValue (ρ.t 23)).run P w=.ok zv w) (IE:zv.cells.size=k) (AK:∀ n,∀ v ∈ (Builtin.zeroCells zv.cells n).toList,v.oneCell'=true)
  (b off n c i j:Nat) (cs:List Value) (w:World) (ta:cs.length=n*k) (qD:∀ t v,cs[t]?=some v->w.cell? ⟨b,off+t,none⟩=some v) (M_:∀ t,t < n*k->w.frozen? ⟨b,off+t,none⟩=false) (Tm:∀ v ∈ cs,v.oneCell'=true)
  (oU:n<=c) (hm:c<=9223372036854775807) (ul:i < j) (hj:j<=n) :
  Calls P (ρ.f 45) #[.slice (some ⟨b,off,none⟩) n c,.int .i64 i,.int .i64 j] w λe w'=>e=.returned (.slice (some ⟨b,off,none⟩) (i+(n - j)) c) /\
   w'=(w.drew.setCells b (off+i*k) (cs.drop (j*k))).setCells b (off+(i+(n - j))*k) (Builtin.zeroCells zv.cells (n - (i+(n - j)))).toList:=by
 have mixed:=L.mixed;have t0:=L.t0;have a0:=L.a0;have z0:=L.z0;have v0:=L.v0;have t3:=L.t3;have a3:=L.a3;have z3:=L.z3;have v3:=L.v3;have t4:=L.t4;have a4:=L.a4;have z4:=L.z4;have v4:=L.v4;have t22:=L.t22;have a22:=L.a22;have z22:=L.z22;have v22:=L.v22
 have z23:∀ w,(Go.sizeOf (ρ.t 23)).run P w=.ok k w:=λw=>by simp[Go.sizeOf,typeInfo,M9,hsk]
 have hjk:j*k<=n*k:=aX _ hj
 obtain ⟨news,KQ⟩:∃ news,news=cs.drop (j*k):=⟨_,rfl⟩
 have hlen:news.length=(n - j)*k:=by rw[KQ,cC,ta,fS]
 obtain ⟨A,hA,Mf⟩:∃ A:Addr,(if c=j then some (⟨b,off,none⟩:Addr) else some ⟨b,off+j*k,none⟩)=some A/\Hid (∀ t u,news[t]?=some u->w.drew.cell? (A.add t)=some u):=by
  by_cases h:c=j
  ·refine ⟨⟨b,off,none⟩,by simp[h],λt u hu=>?_⟩
   have h0:news.length=0:=by rw[hlen,show n - j=0 by omega,Nat.zero_mul]
   rw[List.length_eq_zero_iff.1 h0] at hu;simp at hu
  ·refine ⟨⟨b,off+j*k,none⟩,by simp[h],λt u hu=>?_⟩
   rw[KQ,bK] at hu;rw[Addr.add_lit,show off+j*k+t=off+(j*k+t) by omega];exact qD _ u hu
 have s1:Hid (news.length=(n - j)*k):=hlen
 have s2:Hid (∀ u ∈ news,u.oneCell'=true):=by
  intro u hu;rw[KQ] at hu;exact Tm u (cQ hu)
 have Ie:∀ t,t < n*k->(w.cell? ⟨b,off+t,none⟩).isSome=true:=λt ht=>by rw[qD t _ (aB Bys)];rfl
 have afR:i*k+(n - j)*k<=n*k:=by rw[<-bW];exact aX _ Bys
 have s3:Hid (∀ t,t < news.length->(w.drew.cell? ⟨b,off+i*k+t,none⟩).isSome=true/\w.drew.frozen? ⟨b,off+i*k+t,none⟩=false):=by
  intro t ht;rw[hlen] at ht;rw[cB];exact ⟨Ie _ Bys,M_ _ Bys⟩
 obtain ⟨W1,zJ⟩:∃ W1,W1=w.drew.setCells b (off+i*k) news:=⟨_,rfl⟩
 have hZ:(Builtin.zeroCells zv.cells (n - (i+(n - j)))).toList.length=(n - (i+(n - j)))*k:=by simp[Builtin.zeroCells,IE]
 have hnk:(i+(n - j))*k+(n - (i+(n - j)))*k=n*k:=by rw[<-bW];congr 1;omega
 have ae2:∀ ty,(Builtin.clear_ #[ρ.t 22] ty #[.slice (some ⟨b,off+(i+(n - j))*k,none⟩) (n - (i+(n - j))) (c - (i+(n - j)))]).run P W1=.ok (.tuple #[]) (W1.setCells b (off+(i+(n - j))*k) (Builtin.zeroCells zv.cells (n - (i+(n - j)))).toList):=
  λty=>RH W1 _ _ ty zv t22 hz b (off+(i+(n - j))*k) _ _ Bys (λt ht=>by
   rw[hZ] at ht;rw[zJ,cB]
   exact vP b _ _ _ (λt ht=>by rw[hlen] at ht;rw[cB];exact Ie _ Bys) _ (Ie _ Bys)) (λt ht=>by rw[hZ] at ht;rw[zJ,World.frozen?_setCells,cB];exact M_ _ Bys) (AK _)
 have hW:Hid (W1=w.drew.setCells b (off+i*k) news):=zJ;have jx:¬ (i:Int)=(j:Int):=by omega
 have hic:i<=c:=by omega
 have hjc:j<=c:=by omega
 have hcn:¬ c=i+(n - j):=by omega
 rw[<-KQ,<- zJ]
 obtain ⟨Z,hZd⟩:∃ Z,Z=(Builtin.zeroCells zv.cells (n - (i+(n - j)))).toList:=⟨_,rfl⟩
 rw[<-hZd] at ae2 ⊢;clear zJ KQ hlen Ie qD M_ ta Tm hZ hZd AK IE;obtain ⟨_,_,FG⟩:=L.f45
 go_enter FG,SlBodyN.n45_ntmps ρ
 go_wp2_with fail
 go_region_law_o (refine step_append_room rfl (.tmp 22) (.tmp 25) (ρ.t 22) rfl (ρ.t 23) inf k t22 M9 hsk b off i c (by simp[Act.eval,Act.put]) A (n - j) (c - j) news (by simp[Act.eval,Act.put]) s1.out Mf.out s2.out Bys s3.out ?_;rw[<-hW.out])
 go_wp2
 go_ret
 exact ⟨rfl,rfl⟩
set_option maxHeartbeats 4000000 in
set_option maxRecDepth 1000000 in
theorem Zi (L:SlLaysE0.n45 P ρ) (b:Option Addr) (n c i:Nat) (w:World) (iZ:i<=n) (oU:n<=c) (hm:c<=9223372036854775807) (hb:∀ ad,b=some ad->ad.spot=none) (Kh:b=none->c=0) (k:Nat) (z23:∀ w,(Go.sizeOf (ρ.t 23)).run P w=.ok k w) :
  Calls P (ρ.f 45) #[.slice b n c,.int .i64 i,.int .i64 i] w λe w'=>e=.returned (.slice b n c)/\w'=w:=by
 have mixed:=L.mixed;have t0:=L.t0;have a0:=L.a0;have z0:=L.z0;have v0:=L.v0;have t3:=L.t3;have a3:=L.a3;have z3:=L.z3;have v3:=L.v3;have t4:=L.t4;have a4:=L.a4;have z4:=L.z4;have v4:=L.v4;have t22:=L.t22;have a22:=L.a22;have z22:=L.z22;have v22:=L.v22
 have hic:i<=c:=by omega
 obtain ⟨_,_,FG⟩:=L.f45
 cases b with
 | none=>
  have h0:=Kh rfl;subst h0;have El:n=0:=by omega
  subst El;have M9:i=0:=by omega
  subst M9
  go_enter FG,SlBodyN.n45_ntmps ρ
  go_wp2
  all_goals (go_ret;exact ⟨rfl,rfl⟩)
 | some ad=>
  obtain ⟨b,off,sp⟩:=ad;have:=hb _ rfl;simp only at this;subst this
  go_enter FG,SlBodyN.n45_ntmps ρ
  go_wp2
  all_goals (go_ret;exact ⟨rfl,rfl⟩)
theorem ae3 (w:World) {e:Ty} {i:TypeId} (hl:bn P e (.inl i)=true) (hz:e.xn=true) {inf:TypeInfo} {zv:Value} (h1:P.info? i=some inf) (h2:inf.zero=some zv):∀ n,∀ v ∈ (Builtin.zeroCells zv.cells n).toList,v.oneCell'=true:=by
 obtain ⟨L,hL⟩:=wz e hz;obtain ⟨afS,z',i1,i2,i3,i4,i5,i6⟩:=xA (lX hl);rw[h1] at i1;injection i1 with i1;subst i1;rw[h2] at i4;injection i4 with i4;subst i4;have hc:=i6 L hL;obtain ⟨r1,_,_⟩:=Dm (P:=P) (w:=w) (A:=λ_ _=>True) e hL hl;grind [ax.one,Builtin.zeroCells,Nat.mod_lt]
theorem Zj {w w':World} {A:Cells} {F0:FP} {e:Ty} {me:Md} {b cap:Nat} {vs:List e.den} {news:List Value} {Hi:Nat->FP} {F1:FP}
  (hw:Ext w w' (de b 0 (cap*e.sz))) (oU:cap<=maxLen) (iU:iR w' b (cap*e.sz,zO e)) (hlen:List.length vs<=cap) (wa:Has w' b 0 news)
  (rW:∀ (i:Nat) (y:e.den),vs[i]?=some y->ax P w A e me [] y ((news.drop (i*e.sz)).take e.sz) (Hi i))
  (hF:∀ b' i,de b 0 (cap*e.sz) b' i+bk (List.length vs) Hi b' i<=F1 b' i) (hle:∀ b' i,F1 b' i<=F0 b' i) (h1:∀ b i,F0 b i<=1) (xp:∀ b i,1<=F0 b i->¬ A b i) (CO:∀ b i,1<=F0 b i\/A b i->b < w.heap.size) :
  ax P w' A (.aa e) (.aa true me) [] vs [.slice (some ⟨b,0,none⟩) (List.length vs) cap] F1:=by
 simp only[ax,hole,bT,aF,aS,aj,u0,Md.own,aJ,Md.e];refine ⟨some ⟨b,0,none⟩,cap,rfl,hlen,oU,(λe=>by cases e),λad e2=>?_⟩
 injection e2 with e2;subst e2;refine ⟨rfl,rfl,iU,Hi,hF,λi y hy=>?_⟩
 have hr:=rW i y hy;have hi:=(aM.1 hy).1;refine ⟨_,ax.length _ hr,λj u hu=>?_,?_⟩
 ·rw[bN] at hu;split at hu
  ·rw[bK] at hu;have:=wa _ u hu;grind
  ·cases hu
 ·simp only[eA];refine ax.mono (P:=P) (λ_ _ h=>h) (λb' k ha u hu=>hw.cell b' k (CO b' k (.inr ha)) ?_ u hu) hw.wg e hr (λ_ _=>aH _) (λb' k hp u hu=>hw.cell b' k ?_ ?_ u hu)
  ·grind
  ·exact CO b' k (.inl (by grind [dz]))
  grind [dz]
def PA (e:Ty) (v:List e.den×Int×Int×Unit):Option (List e.den×Unit):=if 0<=v.2.1/\v.2.1<=v.2.2.1/\v.2.2.1<=(v.1.length:Int) then some (v.1.take v.2.1.toNat++v.1.drop v.2.2.1.toNat,()) else none
def Fe (i j:Int) (k:Nat):Bool:=decide (i<=(k:Int))&&decide ((k:Int) < j)
def Mg (i j:Int):List Path->Bool
 | []=>true
 | [.idx k::_]=>Fe i j k
 | _=>false
theorem UQ {i j:Int} {H:List Path} (h:Mg i j H=true):hole H=false/\(j<=i->H=[])/\∀ t:Nat,((t:Int) < i\/j<=(t:Int))->H.filterMap (k8 t)=[]:=by
 unfold Mg at h;split at h
 ·exact ⟨rfl,λ_=>rfl,λ_ _=>rfl⟩
 ·rename_i k q;simp only[Fe,aD,bP] at h;refine ⟨rfl,λul=>by omega,λt ht=>?_⟩
  grind [k8]
 ·cases h
theorem Na (L:SlLaysE0.n45 P ρ) {e:Ty} {me:Md} (hl:bn P e (.inl (ρ.t 23))=true) (h1:1<=e.sz) (IE:e.xn=true) (he:vW P (ρ.f 45) false) :
  Ok P (ρ.f 45) { ps:=[(.nK (.aa true me),.aa e),(.ro,.int .i64),(.ro,.int .i64)],rs:=[(.aa e,.aa true me)],F:=PA e,Eb:=λv H=>Mg v.2.1 v.2.2.1 H }:=by
 refine ⟨?_,he⟩
 intro w A F0 v xs lO hle xp CO JD out mL;obtain ⟨vs,i,j,⟨⟩⟩:=v;obtain ⟨x,O2,F1,F2,rfl,hF,⟨H,cs,hH,rfl,iT⟩,x2,xs2,F3,F4,rfl,S_,⟨d9,rfl,hi⟩,x3,xs3,F5,F6,rfl,hF3,⟨M2,rfl,hj⟩,t6⟩:=lO;have t6:xs3=[]:=t6;subst t6;have iT:ax P w A (.aa e) (.aa true me) H vs cs F1:=iT;have hH:Mg i j H=true:=hH;obtain ⟨hH1,hH2,GQ⟩:=UQ hH;have hi:d9=[.int .i64 i]:=hi;have hj:M2=[.int .i64 j]:=hj;subst hi;subst hj;have mL:PA e (vs,i,j,())=some out:=mL;unfold PA at mL;split at mL;rotate_left
 ·cases mL
 rename_i hb;obtain ⟨b1,b2,b3⟩:=hb;simp only at b1 b2 b3 mL;injection mL with mL;subst mL;obtain ⟨ni,rfl⟩:=cV b1;obtain ⟨nj,rfl⟩:=cV (Int.le_trans b1 b2);simp only[aC];have ul:ni<=nj:=by omega
 have hjn:nj<=List.length vs:=by omega
 obtain ⟨inf,zv,i1,i2,i3,i4,i5,_⟩:=xA (lX hl);have hz:∀ w,(zeroValue (ρ.t 23)).run P w=.ok zv w:=λw=>by simp[zeroValue,typeInfo,i1,i4]
 have z23:∀ w,(Go.sizeOf (ρ.t 23)).run P w=.ok e.sz w:=λw=>by simp[Go.sizeOf,typeInfo,i1,i2]
 obtain ⟨xa,cap,gu,Fi,r1,r2,r3,r4,r5,r6,r7,r8⟩:=KA hH1 (v:=vs) iT;obtain ⟨c1,c2,c3,c4⟩:=r8 rfl;subst r1;have yc:cap<=9223372036854775807:=by grind [maxLen]
 have hx:(cu (.aa e) [.slice xa (List.length vs) cap]::[cu (.int .i64) [.int .i64 (ni:Int)],cu (.int .i64) [.int .i64 (nj:Int)]]).toArray=#[.slice xa (List.length vs) cap,.int .i64 ni,.int .i64 nj]:=rfl;show Calls P (ρ.f 45) (cu (.aa e) [.slice xa (List.length vs) cap]::[cu (.int .i64) [.int .i64 (ni:Int)],cu (.int .i64) [.int .i64 (nj:Int)]]).toArray w _;rw[hx]
 have zX:∀ (w':World) (rv:Value),Ext w w' F0->(∃ cs,rv=cu (.aa e) cs/\ax P w' A (.aa e) (.aa true me) [] (vs.take ni++vs.drop nj) cs F1) ->
   ∃ Dx,Ending.returned rv=.returned Dx/\Ext w w' F0/\∃ (A':Cells) (G GR GM:FP),(∀ b i,A b i->A' b i)/\(∀ b i,A' b i->A b i\/1<=F0 b i\/w.heap.size<=b)/\(∀ b i,1<=G b i->1<=F0 b i\/w.heap.size<=b)/\(∀ b i,G b i<=1)/\(∀ b i,1<=G b i->¬ A' b i)/\(∀ b i,1<=G b i\/A' b i->b < w'.heap.size)/\(∀ b i,GR b i+GM b i<=G b i) /\
   nx P w' A' [⟨.aa e,.aa true me,vs.take ni++vs.drop nj⟩] Dx GR/\nG P w' A' [(.nK (.aa true me),.aa e),(.ro,.int .i64),(.ro,.int .i64)] () [cu (.aa e) [.slice xa (List.length vs) cap],cu (.int .i64) [.int .i64 (ni:Int)],cu (.int .i64) [.int .i64 (nj:Int)]] GM:=λw' rv eo hr=>
  ⟨_,rfl,eo,A,F0,F1,λ_ _=>0,λ_ _ h=>h,λ_ _ h=>.inl h,λ_ _ h=>.inl h,hle,xp,λb i h=>bX (CO b i h) eo.size,λb i=>by grind,hr,trivial⟩
 by_cases heq:ni=nj
 ·subst heq;refine (Zi L xa (List.length vs) cap ni w hjn c1 yc (λad j0=>(c4 ad j0).2.1) c3 e.sz z23).mono ?_;rintro ex w' ⟨rfl,rfl⟩;refine zX _ _ (Ext.refl _ _) ⟨_,(ee _ _ rfl).symm,?_⟩;grind [List.take_append_drop]
 ·cases xa with
  | none=>grind
  | some ad=>
   obtain ⟨q1,q2,q3,q4⟩:=c4 ad rfl;obtain ⟨_,d5⟩:=r3 ad rfl;obtain ⟨b,off,sp⟩:=ad;simp only at q1 q2 q3 q4 d5;subst q1;subst q2;have afT:List.length vs*e.sz<=cap*e.sz:=aX _ c1
   have nI:∀ t,t < cap*e.sz->(w.cell? ⟨b,t,none⟩).isSome=true:=λt ht=>by
    obtain ⟨c,e',fr,w1,w2,w3⟩:=q3;grind [World.cell?]
   have UP:=Xk L e.sz inf zv i1 i2 hz i5 (ae3 w hl IE i1 i4) b 0 (List.length vs) cap ni nj gu w r4 (λt u hu=>sy (d5 t u hu) (r5 u (bI hu))) (λt ht=>by rw[bE];exact q3.frozen (by grind)) r5 c1 yc Bys hjn;refine UP.mono ?_;rintro ex w' ⟨rfl,hw⟩;simp only[bE] at hw;have xY:List.length (vs.take ni++vs.drop nj)=ni+(List.length vs - nj):=by simp;omega
   have m1:ni*e.sz+(List.length vs - nj)*e.sz=(ni+(List.length vs - nj))*e.sz:=by rw[bW]
   have m2:(ni+(List.length vs - nj))*e.sz<=List.length vs*e.sz:=aX _ Bys;have m3:(gu.drop (nj*e.sz)).length=(List.length vs - nj)*e.sz:=by grind [Nat.sub_mul]
   have hZ:(Builtin.zeroCells zv.cells (List.length vs - (ni+(List.length vs - nj)))).toList.length=(List.length vs - (ni+(List.length vs - nj)))*e.sz:=by simp[Builtin.zeroCells,i5]
   have m4:(ni+(List.length vs - nj))*e.sz+(List.length vs - (ni+(List.length vs - nj)))*e.sz=List.length vs*e.sz:=by rw[<-bW];congr 1;omega
   have x1:=k_ (b:=b) (o:=ni*e.sz) (gu.drop (nj*e.sz)) w.drew (ni*e.sz);have x2:=k_ (b:=b) (o:=(ni+(List.length vs - nj))*e.sz) (Builtin.zeroCells zv.cells (List.length vs - (ni+(List.length vs - nj)))).toList (w.drew.setCells b (ni*e.sz) (gu.drop (nj*e.sz))) ((ni+(List.length vs - nj))*e.sz)
   have xE:∀ b' t,de b 0 (cap*e.sz) b' t=0->de b (ni*e.sz) (gu.drop (nj*e.sz)).length b' t=0:=λb' t h0=>by
    simp only[de] at h0 ⊢;split at h0
    ·cases h0
    grind
   have Pa:∀ b' t,de b 0 (cap*e.sz) b' t=0->de b ((ni+(List.length vs - nj))*e.sz) (Builtin.zeroCells zv.cells (List.length vs - (ni+(List.length vs - nj)))).toList.length b' t=0:=λb' t h0=>by
    simp only[de] at h0 ⊢;split at h0
    ·cases h0
    grind
   have eo:Ext w w' (de b 0 (cap*e.sz)):=by
    rw[hw];exact (((wy w).mono (λ_ _ _=>rfl)).trans (x1.mono xE) (λ_ _ _ h=>h)).trans (x2.mono Pa) (λ_ _ _ h=>h)
   refine zX w' _ (eo.mono λb' t h0=>by grind) ⟨[.slice (some ⟨b,0,none⟩) (ni+(List.length vs - nj)) cap],(ee _ _ rfl).symm,?_⟩;rw[<-xY];refine Zj (news:=gu.take (ni*e.sz)++gu.drop (nj*e.sz)) (Hi:=λt=>if t < ni then Fi t else Fi (nj+(t - ni))) (F0:=F0) eo c2 (eo.wg _ _ q3) (by grind) ?_ ?_ (λb' t=>?_) (λb' t=>by grind) hle xp CO
   ·intro t u hu;rw[bE];have vM:(gu.take (ni*e.sz)).length=ni*e.sz:=by rw[dC,r4];omega
    rw[hw]
    have Uj:t < (ni+(List.length vs - nj))*e.sz:=by
     grind
    refine x2.cell b t ?_ ?_ u ?_
    ·have:=x1.size;have hb:=q3.lt;exact bX hb x1.size
    ·grind [de]
    ·by_cases ht:t < ni*e.sz
     ·rw[bO Bys,bN,aR ht] at hu;refine x1.cell b t q3.lt ?_ u ?_
      ·grind [de]
      ·have:=d5 t u hu;rw[bE] at this;exact this
     ·rw[cL Bys,vM] at hu;have:=pN (w:=w.drew) (b:=b) (o:=ni*e.sz) (L:=gu.drop (nj*e.sz)) (λk hk=>by rw[m3] at hk;exact nI _ Bys) (λu hu=>r5 u (cQ hu)) _ u hu;rw[show ni*e.sz+(t - ni*e.sz)=t by omega] at this;exact this
   ·have vM:(gu.take (ni*e.sz)).length=(vs.take ni).length*e.sz:=by grind [Nat.mul_le_mul_right]
    have hr:=Jv (P:=P) (w:=w) (A:=A) (e:=e) (me:=me) (v:=vs.take ni) (y:=vs.drop nj) (Fi:=Fi) (Gi:=λt=>Fi (nj+t)) vM (λt z hz=>by
      rw[bN] at hz;split at hz
      ·rename_i ht;have:=r6 t z hz;rw[GQ t (.inl Bys)] at this;have h6:t*e.sz+e.sz<=ni*e.sz:=by rw[<-dW];exact aX _ Bys
       rw[eN,eO,gI Bys];exact this
      ·cases hz) (λt z hz=>by
      rw[bK] at hz;have:=r6 (nj+t) z hz;rw[GQ (nj+t) (.inr Bys)] at this;rw[dB,<- bW]
      exact this)
    grind
   ·rw[xY];have s1:=OY ni (List.length vs - nj) Fi (λt=>Fi (nj+t)) b' t;have s2:=wr nj (List.length vs - nj) Fi b' t;have s3:=MP (List.length vs) Fi 0 ni Bys b' t;have s4:=wr ni (nj - ni) Fi b' t;rw[show ni+(nj - ni)=nj by omega] at s4;rw[show nj+(List.length vs - nj)=List.length vs by omega] at s2;grind
end
end OT
namespace OT
open Go Go.Shelf Go.RowKit Go.Lib Go.Proofs
section
variable {P:Program} {ρ:Ren}
theorem Xl (w:World) {o:Oper} {a:Act} {K:Act->World->Prop} {Q:Exit->Act->World->Prop} (d s:Operand) (t t':TypeId)
  (ho:o.op=.call { callee:=.builtin .copy,args:=#[d,s],argTypes:=#[t,t'] }) (v u:Value) (hd:a.eval d=v) (hs:a.eval s=u) {v':Value} {w':World}
  (hr:(Builtin.copy_ #[t,t'] o.type #[v,u]).run P w=.ok v' w') (h:K (a.put o.dst v') w'):o.wp P a w K Q:=by
 unfold Oper.wp execOp;simp only[ho,resolve,invoke,builtin,Sem.run_bind,Sem.run_pure,Result.andThen_ok,List.map_toArray,dH,gQ,hd,hs,hr];exact h
theorem Bg (w:World) {ops:Array Oper} {rest:List Oper} {o:Oper} {a:Act} {Q:Exit->Act->World->Prop} (hgd:o.guard=none) (d s:Operand) (t t':TypeId)
  (ho:o.op=.call { callee:=.builtin .copy,args:=#[d,s],argTypes:=#[t,t'] }) (v u:Value) (hd:a.eval d=v) (hs:a.eval s=u) {v':Value} {w':World}
  (hr:(Builtin.copy_ #[t,t'] o.type #[v,u]).run P w=.ok v' w') (h:wpList P ops Q rest (a.put o.dst v') w'):wpList P ops Q (o::rest) a w:=
 wpList_plain hgd λ_ hK=>Xl w d s t t' ho v u hd hs hr (hK _ _ h)
theorem IN {ops:Array Oper} {o:Oper} {a:Act} {w:World} {K:Act->World->Prop} {Q:Exit->Act->World->Prop} {E:Prop}
  (hg:o.guard=none) (d x:Operand) (dT sT:TypeId) (S5:o.op=Op.call { callee:=Callee.builtin Builtin.copy,args:=#[d,x],argTypes:=#[dT,sT] })
  (v u:Value) (hd:a.eval d=v) (hx:a.eval x=u) {v':Value} {w':World} (hr:(Builtin.copy_ #[dT,sT] o.type #[v,u]).run P w=.ok v' w') (hK:K (a.put o.dst v') w') :
  if Region.wanted o (yielded ops a.tmps)=true then Oper.wp P o a w K Q else E:=by
 have hw:Region.wanted o (yielded ops a.tmps)=true:=by simp[Region.wanted,hg]
 rw[aR hw];unfold Oper.wp;simp[execOp,S5,resolve,invoke,builtin,hd,hx,hr,Result.andThen];exact hK
theorem BE (w:World) (dT sT ty elem:TypeId) (inf:TypeInfo) (b o Zk ae4:Nat) (a:Addr) (Zl ae5:Nat) (cs:List Value)
  (hu:P.underlying dT=some (.slice elem)) (hs:P.info? elem=some inf) (hn:cs.length=Nat.min Zl Zk*inf.size)
  (Mf:∀ j v,cs[j]?=some v->w.cell? (a.add j)=some v) (hc:∀ j,j < cs.length->(w.cell? ⟨b,o+j,none⟩).isSome=true) (hf:∀ j,j < cs.length->w.frozen? ⟨b,o+j,none⟩=false) (h1:∀ v ∈ cs,v.oneCell'=true) :
  (Builtin.copy_ #[dT,sT] ty #[.slice (some ⟨b,o,none⟩) Zk ae4,.slice (some a) Zl ae5]).run P w=.ok (goInt (Nat.min Zl Zk)) (w.setCells b o cs):=by
 have hl:=run_loadCells_list (P:=P) w a cs Mf;have dp:=run_storeCells_cells (P:=P) b o cs 0 w (by simpa using hc) (by simpa using hf) h1;simp[Builtin.copy_,run_underlying hu,Builtin.lenOf,Builtin.firstCells,Go.sizeOf,typeInfo,hs,<- hn,hl,dp]
structure KR (P:Program) (ρ:Ren) (e:Ty):Prop where
 mixed:P.follows .mixedOrders=true
 f22:Bears P (ρ.f 22) (Body2.n22 ρ)
 f29:∃ fn,P.funcs[ρ.f 29]?=some fn/\(fn.name == "runtime.NumGoroutine")=false/\fn.body.isNone=true/\Extern.findNext fn=none/\Extern.find fn=some (Extern.SlicesOverlaps.overlaps #[ρ.t 24,ρ.t 24] #[ρ.t 4])
 l3:bn P (.int .i64) (.inl (ρ.t 3))=true
 l4:bn P .bool (.inl (ρ.t 4))=true
 l24:bn P (.aa e) (.inl (ρ.t 24))=true
 t24:P.underlying (ρ.t 24)=some (TypeDesc.slice (ρ.t 9))
 l9:bn P e (.inl (ρ.t 9))=true
 z3:(P.info? (ρ.t 3)).bind (·.zero)=some (Value.int IntKind.i64 0)
 z4:(P.info? (ρ.t 4)).bind (·.zero)=some (Value.bool false)
 z24:(P.info? (ρ.t 24)).bind (·.zero)=some (Value.slice none 0 0)
theorem Mh (w:World) (tS tR e:TypeId) (ht:P.underlying tS=some (.slice e)) (size:Nat) (hz:∀ w,(Go.sizeOf e).run P w=.ok size w)
  (a b:Addr) (la ca lb cb:Nat) (jx:a.block≠b.block) (tA tB:TypeId) (kA kB:Nat)
  (PB:w.shape? a.block=some (tA,kA)) (OE:w.shape? b.block=some (tB,kB)) (Xm:kA≠0)
  (hfb:w.frozen? b=false) (PC:w.frozen? { block:=b.block,off:=kB }=false) :
  (Extern.SlicesOverlaps.overlaps #[tS,tS] #[tR] #[.slice (some a) la ca,.slice (some b) lb cb]).run P w=.ok (.bool false) w:=by
 have hnb:(a.block != b.block)=true:=by simpa using jx
 have Zm:(a.block == b.block)=false:=by simpa using jx
 change Sem.run P (α:=Value) (do
  let some t:=(#[tS,tS]:Array TypeId)[0]? | stuck "slices.overlaps: no parameter types"
  let .slice elem <- underlying t | stuck "slices.overlaps: slice type expected"
  let size <- Go.sizeOf elem
  match (some a:Option Addr),(some b:Option Addr) with
  | some a,some b=>
   if la=0\/lb=0\/size=0 then pure (Value.bool false)
   else if a.block != b.block&&(<- frozen a)&&(<- frozen b) then unsupported .addressObserved
   else do
    if a.block != b.block then do
     noView a;noView b
     if <- mayBeOne a b then return Value.bool ((<- choose (.extern "sameAddr.stringBytes" 2)) == 1)
    pure (Value.bool (a.block == b.block&&a.off < b.off+lb*size&&b.off < a.off+la*size))
  | _,_=>pure (Value.bool false)) w=_
 by_cases h0:la=0\/lb=0\/size=0
 ·simp[run_underlying ht,hz,h0]
 ·cases kA with
  | zero=>exact absurd rfl Xm
  | succ kA=>
   cases hfa:w.frozen? a with
   | true=>simp[run_underlying ht,hz,h0,hnb,Zm,frozen,noView,viewAt,mayBeOne,stringish,shape,Sem.run,PB,OE,hfa,hfb,PC]
   | false=>
    cases acK:w.frozen? { block:=a.block,off:=kA+1 } with
    | true=>simp[run_underlying ht,hz,h0,hnb,Zm,frozen,noView,viewAt,mayBeOne,stringish,shape,Sem.run,PB,OE,hfa,acK,hfb,PC]
    | false=>simp[run_underlying ht,hz,h0,hnb,Zm,frozen,noView,viewAt,mayBeOne,stringish,shape,Sem.run,PB,OE,hfa,acK,hfb,PC]
structure CP (P:Program) (ρ:Ren) (k:Nat) (inf:TypeInfo) (zv:Value):Prop where
 mixed:P.follows .mixedOrders=true
 f22:Bears P (ρ.f 22) (Body2.n22 ρ)
 f29:∃ fn,P.funcs[ρ.f 29]?=some fn/\(fn.name == "runtime.NumGoroutine")=false/\fn.body.isNone=true/\Extern.findNext fn=none/\Extern.find fn=some (Extern.SlicesOverlaps.overlaps #[ρ.t 24,ρ.t 24] #[ρ.t 4])
 t3:P.underlying (ρ.t 3)=some (TypeDesc.int IntKind.i64)
 a3:∀ w,(Go.isAgg (ρ.t 3)).run P w=.ok false w
 z3:∀ w,(Go.sizeOf (ρ.t 3)).run P w=.ok 1 w
 v3:∀ w,(zeroValue (ρ.t 3)).run P w=.ok (Value.int IntKind.i64 0) w
 t4:P.underlying (ρ.t 4)=some (TypeDesc.bool)
 a4:∀ w,(Go.isAgg (ρ.t 4)).run P w=.ok false w
 z4:∀ w,(Go.sizeOf (ρ.t 4)).run P w=.ok 1 w
 v4:∀ w,(zeroValue (ρ.t 4)).run P w=.ok (Value.bool false) w
 t24:P.underlying (ρ.t 24)=some (TypeDesc.slice (ρ.t 9))
 a24:∀ w,(Go.isAgg (ρ.t 24)).run P w=.ok false w
 z24:∀ w,(Go.sizeOf (ρ.t 24)).run P w=.ok 1 w
 v24:∀ w,(zeroValue (ρ.t 24)).run P w=.ok (Value.slice none 0 0) w
 z9:∀ w,(Go.sizeOf (ρ.t 9)).run P w=.ok k w
 i9:P.info? (ρ.t 9)=some inf
 is:inf.size=k
 iz:inf.zero=some zv
 ik:zv.cells.size=k
 hk:1<=k
set_option maxHeartbeats 4000000 in
set_option maxRecDepth 100000 in
theorem Xn {k:Nat} {inf:TypeInfo} {zv:Value} (L:CP P ρ k inf zv) (b off n c i vb qw m vc:Nat) (cs vs:List Value) (w:World) (hi:i < n) (hm:0 < m) (sW:n+m<=c) (acL:c<=9223372036854775807) (hvb:vb≠b)
  (ta:cs.length=n*k) (IB:vs.length=m*k)
  (qD:∀ j v,cs[j]?=some v->w.cell? ⟨b,off+j,none⟩=some v) (oT:∀ j,j < (n+m)*k->(w.cell? ⟨b,off+j,none⟩).isSome=true) (M_:∀ j,j < (n+m)*k->w.frozen? ⟨b,off+j,none⟩=false)
  (IM:∀ j v,vs[j]?=some v->w.cell? ⟨vb,qw+j,none⟩=some v) (Tm:∀ v ∈ cs,v.oneCell'=true) (h1v:∀ v ∈ vs,v.oneCell'=true)
  (tA tB:TypeId) (kA kB:Nat) (PB:w.shape? vb=some (tA,kA)) (OE:w.shape? b=some (tB,kB)) (Xm:kA≠0) (PC:w.frozen? ⟨b,kB,none⟩=false) :
  Calls P (ρ.f 22) #[.slice (some ⟨b,off,none⟩) n c,.int .i64 i,.slice (some ⟨vb,qw,none⟩) m vc] w λe w'=>
   e=.returned (.slice (some ⟨b,off,none⟩) (n+m) c)/\w'=(w.drew.setCells b (off+(i+m)*k) (cs.drop (i*k))).setCells b (off+i*k) vs:=by
 have t3:=L.t3;have a3:=L.a3;have z3:=L.z3;have v3:=L.v3;have t4:=L.t4;have a4:=L.a4;have z4:=L.z4;have v4:=L.v4;have z9:=L.z9;have t24:=L.t24;have a24:=L.a24;have z24:=L.z24;have v24:=L.v24
 have u3:=run_underlying L.t3;have u4:=run_underlying L.t4;have u24:=run_underlying L.t24
 have AK:¬ ((m:Int)=0):=by omega
 have CB:¬ ((i:Int)=(n:Int)):=by omega
 have hk:=L.hk;have hmk:i*k+m*k=(i+m)*k:=by rw[bW]
 have hnm:n*k+m*k=(n+m)*k:=by rw[bW]
 have AU:i*k < n*k:=gR hi hk;have acM:1<=m*k:=fJ hm hk
 have hov:∀ lb cb,(callFunc (ρ.f 29) #[.slice (some ⟨vb,qw,none⟩) m vc,.slice (some ⟨b,off+(i+m)*k,none⟩) lb cb]).run P w=.ok (.value (.bool false)) w:=λlb cb=>by
  obtain ⟨fn,hf,hn1,hn2,hn3,hn4⟩:=L.f29
  rw[run_callFunc_extern hf hn1 hn2 hn3 hn4,
   Mh w (ρ.t 24) (ρ.t 4) (ρ.t 9) L.t24 k L.z9 ⟨vb,qw,none⟩ ⟨b,off+(i+m)*k,none⟩ m vc lb cb hvb tA tB kA kB PB OE Xm (M_ _ Bys) PC]
  rfl
 have W_:(cs.drop (i*k)).length=(n - i)*k:=by rw[cC,ta,fS]
 have mixed:=L.mixed;have xB:IntKind.i64.wrap ((i:Int)+(m:Int))=(i:Int)+(m:Int):=by rw[IntKind.wrap_i64];omega
 have Wr:(0:Int)<=(i:Int)+(m:Int):=by omega
 have iZ:i<=n:=by omega
 have htn:((i:Int)+(m:Int)).toNat=i+m:=by omega
 have SL:¬ (c=i+m):=by omega
 have hb3:(i:Int)<=(n:Int)+(m:Int):=by omega
 have hb4:¬ (c=i):=by omega
 have hni:(n - i)*k=n*k - i*k:=fS _ _ _
 have acN:∀ ty dc sc,(Builtin.copy_ #[(ρ.t 24),(ρ.t 24)] ty #[.slice (some ⟨b,off+(i+m)*k,none⟩) (n+m - (i+m)) dc,.slice (some ⟨b,off+i*k,none⟩) (n+m - i) sc]).run P w.drew=.ok (goInt (Nat.min (n+m - i) (n+m - (i+m)))) (w.drew.setCells b (off+(i+m)*k) (cs.drop (i*k))):=λty dc sc=>
  BE w.drew _ _ ty (ρ.t 9) inf b (off+(i+m)*k) (n+m - (i+m)) dc ⟨b,off+i*k,none⟩ (n+m - i) sc (cs.drop (i*k)) L.t24 L.i9 (by rw[W_,L.is];congr 1;simp only[gH];split <;> omega)
   (λj v hj=>by rw[Addr.add_lit,cB];exact qD (i*k+j) v (by rwa [bK] at hj))
   (λj hj=>by rw[cB];exact oT _ Bys) (λj hj=>by rw[cB];exact M_ _ Bys) (λv hv=>Tm v (cQ hv))
 obtain ⟨W1,zJ⟩:∃ W1,W1=w.drew.setCells b (off+(i+m)*k) (cs.drop (i*k)):=⟨_,rfl⟩
 have ae6:∀ t,t < (n+m)*k->(W1.cell? ⟨b,off+t,none⟩).isSome=true:=λt ht=>by
  rw[zJ];exact vP b _ _ _ (λj hj=>by rw[cB];exact oT _ Bys) _ (oT t ht)
 have ae7:∀ (W:World),(∀ x,W.cell? x=W1.cell? x)->(∀ x,W.frozen? x=W1.frozen? x)->∀ ty dc,(Builtin.copy_ #[(ρ.t 24),(ρ.t 24)] ty #[.slice (some ⟨b,off+i*k,none⟩) (n+m - i) dc,.slice (some ⟨vb,qw,none⟩) m vc]).run P W=.ok (goInt (Nat.min m (n+m - i))) (W.setCells b (off+i*k) vs):=λW Nb Xo ty dc=>
  BE W _ _ ty (ρ.t 9) inf b (off+i*k) (n+m - i) dc ⟨vb,qw,none⟩ m vc vs L.t24 L.i9 (by rw[IB,L.is];congr 1;simp only[gH];split <;> omega)
   (λj v hj=>by
    rw[Addr.add_lit,Nb,zJ,World.cell?_setCells_out b _ _ _ _ (λh _=>absurd h hvb)]
    exact IM j v hj)
   (λj hj=>by rw[Nb,cB];exact ae6 _ Bys) (λj hj=>by rw[Xo,zJ,World.frozen?_setCells,cB];exact M_ _ Bys) h1v
 rw[<-zJ] at acN;obtain ⟨_,_,FG⟩:=L.f22
 go_enter FG,Body2.n22_ntmps ρ
 go_wp2_with (simp only[hov])
 go_region_law_o (refine IN rfl _ _ (ρ.t 24) (ρ.t 24) rfl _ _ (by simp[Act.eval,Act.put]) (by simp[Act.eval,Act.put]) (acN _ _ _) ?_)
 go_wp2_with (at_builtin;refine Bg _ rfl _ _ (ρ.t 24) (ρ.t 24) rfl _ _ rfl rfl (ae7 _ (λ_=>rfl) (λ_=>rfl) _ _) ?_)
 go_ret
 first | exact ⟨rfl,rfl⟩ | exact ⟨rfl,by rw[zJ]⟩
set_option maxHeartbeats 4000000 in
set_option maxRecDepth 100000 in
theorem Tn {k:Nat} {inf:TypeInfo} {zv:Value} (L:CP P ρ k inf zv) (base:Option Addr) (n c m vc:Nat) (ya:Option Addr) (w w':World) (v':Value) (hm:0 < m) (hnc:n<=c) (acL:c<=9223372036854775807) (t6:base=none->c=0) (hb:∀ ad,base=some ad->ad.spot=none)
  (jL:∀ ty,(Builtin.append_ #[(ρ.t 24),(ρ.t 24)] ty #[.slice base n c,.slice ya m vc]).run P w=.ok v' w') :
  Calls P (ρ.f 22) #[.slice base n c,.int .i64 n,.slice ya m vc] w λe w2=>e=.returned v'/\w2=w':=by
 have t3:=L.t3;have a3:=L.a3;have z3:=L.z3;have v3:=L.v3;have t4:=L.t4;have a4:=L.a4;have z4:=L.z4;have v4:=L.v4;have z9:=L.z9;have t24:=L.t24;have a24:=L.a24;have z24:=L.z24;have v24:=L.v24
 have u3:=run_underlying L.t3;have u4:=run_underlying L.t4;have u24:=run_underlying L.t24
 have mixed:=L.mixed;have AK:¬ ((m:Int)=0):=by omega
 obtain ⟨_,_,FG⟩:=L.f22
 cases base with
 | none=>
  have h0:=t6 rfl;subst h0;have El:n=0:=by omega
  subst El
  go_enter FG,Body2.n22_ntmps ρ
  go_wp2_with (at_builtin;refine Lib.wpList_append_run _ rfl _ _ _ _ rfl _ _ rfl rfl _ _ (jL _) ?_)
  go_ret
  exact ⟨rfl,rfl⟩
 | some a=>
  obtain ⟨ab,ao,asp⟩:=a;have:=hb _ rfl;simp only at this;subst this
  go_enter FG,Body2.n22_ntmps ρ
  go_wp2_with (at_builtin;refine Lib.wpList_append_run _ rfl _ _ _ _ rfl _ _ rfl rfl _ _ (jL _) ?_)
  all_goals (go_ret;exact ⟨rfl,rfl⟩)
set_option maxHeartbeats 4000000 in
set_option maxRecDepth 100000 in
theorem Zn {k:Nat} {inf:TypeInfo} {zv:Value} (L:CP P ρ k inf zv) (base:Option Addr) (n c i vc:Nat) (ya:Option Addr) (w:World) (iZ:i<=n) (hnc:n<=c) (acL:c<=9223372036854775807) (t6:base=none->c=0) (hb:∀ ad,base=some ad->ad.spot=none) :
  Calls P (ρ.f 22) #[.slice base n c,.int .i64 i,.slice ya 0 vc] w λe w2=>e=.returned (.slice base n c)/\w2=w:=by
 have t3:=L.t3;have a3:=L.a3;have z3:=L.z3;have v3:=L.v3;have t4:=L.t4;have a4:=L.a4;have z4:=L.z4;have v4:=L.v4;have z9:=L.z9;have t24:=L.t24;have a24:=L.a24;have z24:=L.z24;have v24:=L.v24
 have u3:=run_underlying L.t3;have u4:=run_underlying L.t4;have u24:=run_underlying L.t24
 have mixed:=L.mixed;have hic:i<=c:=by omega
 obtain ⟨_,_,FG⟩:=L.f22
 cases base with
 | none=>
  have h0:=t6 rfl;subst h0;have El:n=0:=by omega
  subst El;have M9:i=0:=by omega
  subst M9
  go_enter FG,Body2.n22_ntmps ρ
  go_wp2
  all_goals (go_ret;exact ⟨rfl,rfl⟩)
 | some a=>
  obtain ⟨ab,ao,asp⟩:=a;have:=hb _ rfl;simp only at this;subst this
  go_enter FG,Body2.n22_ntmps ρ
  go_wp2
  all_goals (go_ret;exact ⟨rfl,rfl⟩)
set_option maxHeartbeats 4000000 in
set_option maxRecDepth 100000 in
theorem Zo {k:Nat} {inf:TypeInfo} {zv:Value} (L:CP P ρ k inf zv) (b off n c i vb qw m vc:Nat) (cs vs:List Value) (w:World) (hi:i < n) (hm:0 < m) (hnc:n<=c) (sW:c < n+m) (Mi:(n+m)*inf.bytes<=140737488355328) (hbg:n+m<=9223372036854775807)
  (ta:cs.length=n*k) (IB:vs.length=m*k)
  (qD:∀ j v,cs[j]?=some v->w.cell? ⟨b,off+j,none⟩=some v)
  (IM:∀ j v,vs[j]?=some v->w.cell? ⟨vb,qw+j,none⟩=some v) (Tm:∀ v ∈ cs,v.oneCell'=true) (h1v:∀ v ∈ vs,v.oneCell'=true) :
  Calls P (ρ.f 22) #[.slice (some ⟨b,off,none⟩) n c,.int .i64 i,.slice (some ⟨vb,qw,none⟩) m vc] w λe w'=>
   e=.returned (.slice (some ⟨w.heap.size,0,none⟩) (n+m) (grownCap w (n+m) c (ρ.t 9))) /\
   w'=(((w.alloc (.cells ((cs.take (i*k)).toArray++Builtin.zeroCells zv.cells (n+m - i)++Builtin.zeroCells zv.cells (grownCap w (n+m) c (ρ.t 9) - (n+m))) (ρ.t 9))).drew.setCells w.heap.size (i*k) vs).drew).setCells w.heap.size ((i+m)*k) (cs.drop (i*k)):=by
 have t3:=L.t3;have a3:=L.a3;have z3:=L.z3;have v3:=L.v3;have t4:=L.t4;have a4:=L.a4;have z4:=L.z4;have v4:=L.v4;have z9:=L.z9;have t24:=L.t24;have a24:=L.a24;have z24:=L.z24;have v24:=L.v24
 have u3:=run_underlying L.t3;have u4:=run_underlying L.t4;have u24:=run_underlying L.t24
 have mixed:=L.mixed;have hk:=L.hk;have AK:¬ ((m:Int)=0):=by omega
 have CB:¬ ((i:Int)=(n:Int)):=by omega
 have hz3:(c:Int) < (n:Int)+(m:Int):=by omega
 have hmk:i*k+m*k=(i+m)*k:=by rw[bW]
 have hnm:n*k+m*k=(n+m)*k:=by rw[bW]
 have afU:i*k < n*k:=gR hi hk;have acM:1<=m*k:=fJ hm hk;have hbw:b < w.heap.size:=block_lt_of_cell (qD 0 _ (aB Bys));have hvw:vb < w.heap.size:=block_lt_of_cell (IM 0 _ (aB Bys));have Km:(n:Int)+(m:Int) - (i:Int)=((n+m - i:Nat):Int):=by omega
 have AU:i+(n+m - i)=n+m:=by omega
 have hold:(Builtin.firstCells inf.size i (.slice (some ⟨b,off,none⟩) i c)).run P w.drew=.ok (cs.take (i*k)).toArray w.drew:=by
  rw[L.is]
  exact run_firstCells_some w.drew k i ⟨b,off,none⟩ i c (cs.take (i*k)) (by rw[dC];omega) (λj v hj=>by
   rw[Addr.add_lit];rw[bN] at hj;split at hj
   ·exact qD j v hj
   ·cases hj)
 have acO:(n+m - i)*inf.bytes<=281474976710656:=bG (aX _ Bys) (bG Mi (by decide))
 have hrz:∀ ty,(Builtin.append_ #[(ρ.t 24),(ρ.t 3)] ty #[.slice (some ⟨b,off,none⟩) i c,.int .i64 ((n:Int)+(m:Int) - (i:Int))]).run P w =
   .ok (.slice (some ⟨w.heap.size,0,none⟩) (n+m) (grownCap w (n+m) c (ρ.t 9))) (w.drew.alloc (.cells ((cs.take (i*k)).toArray++Builtin.zeroCells zv.cells (n+m - i)++Builtin.zeroCells zv.cells (grownCap w (n+m) c (ρ.t 9) - (n+m))) (ρ.t 9))):=λty=>by
  have h:=Lib.run_append_grow_zeros w (ρ.t 24) (ρ.t 3) ty (ρ.t 9) inf _ .i64 .i64 L.t24 L.t3 L.i9 L.iz (some ⟨b,off,none⟩) i c (cs.take (i*k)) hold (n+m - i) Bys (by rw[L.is];omega) Bys Bys acO (by rw[AU];exact growslice_fits sW Mi);rw[AU] at h;rw[Km];exact h
 obtain ⟨G,hG⟩:∃ G,G=grownCap w (n+m) c (ρ.t 9):=⟨_,rfl⟩
 obtain ⟨sM,JH⟩:∃ sM:Array Value,sM=(cs.take (i*k)).toArray++Builtin.zeroCells zv.cells (n+m - i)++Builtin.zeroCells zv.cells (G - (n+m)):=⟨_,rfl⟩
 rw[<-hG] at hrz ⊢;rw[<-JH] at hrz ⊢;have afV:(n+m - i)*k=(n+m)*k - i*k:=fS _ _ _
 have hRl:(n+m)*k<=sM.size:=by
  rw[JH];have e1:(Builtin.zeroCells zv.cells (n+m - i)).size=(n+m - i)*k:=by simp[Builtin.zeroCells,L.ik]
  have e2:(cs.take (i*k)).length=i*k:=by rw[dC,ta];omega
  simp only[fE,eU,e1,e2];omega
 obtain ⟨W1,zJ⟩:∃ W1,W1=w.drew.alloc (.cells sM (ρ.t 9)):=⟨_,rfl⟩
 rw[<-zJ] at hrz
 have hN:∀ j,j < (n+m)*k->(W1.cell? ⟨w.heap.size,j,none⟩).isSome=true:=λj hj=>by
  rw[zJ,World.cell?_alloc_at (w:=w.drew) sM _ w.heap.size j rfl,dJ Bys];rfl
 have hNf:∀ j,W1.frozen? ⟨w.heap.size,j,none⟩=false:=λj=>by rw[zJ];exact World.frozen?_alloc_at (w:=w.drew) sM _ w.heap.size j rfl
 have hOb:∀ j v,w.cell? ⟨b,j,none⟩=some v->W1.cell? ⟨b,j,none⟩=some v:=λj v h=>by rw[zJ,World.cell?_alloc_past (w:=w.drew) _ b j hbw];exact h
 have hOv:∀ j v,w.cell? ⟨vb,j,none⟩=some v->W1.cell? ⟨vb,j,none⟩=some v:=λj v h=>by rw[zJ,World.cell?_alloc_past (w:=w.drew) _ vb j hvw];exact h
 have ae8:∀ (W:World),(∀ x,W.cell? x=W1.cell? x)->(∀ x,W.frozen? x=W1.frozen? x)->∀ ty dc,(Builtin.copy_ #[(ρ.t 24),(ρ.t 24)] ty #[.slice (some ⟨w.heap.size,i*k,none⟩) (n+m - i) dc,.slice (some ⟨vb,qw,none⟩) m vc]).run P W=.ok (goInt (Nat.min m (n+m - i))) (W.setCells w.heap.size (i*k) vs):=λW Nb Xo ty dc=>
  BE W _ _ ty (ρ.t 9) inf w.heap.size (i*k) (n+m - i) dc ⟨vb,qw,none⟩ m vc vs L.t24 L.i9 (by rw[IB,L.is];congr 1;simp only[gH];split <;> omega)
   (λj v hj=>by rw[Addr.add_lit,Nb];exact hOv _ v (IM j v hj))
   (λj hj=>by rw[Nb];exact hN _ Bys) (λj hj=>by rw[Xo];exact hNf _) h1v
 have hGn:n+m<=G:=by rw[hG];exact grownCap_ge w _ _ _
 have afW:G<=9223372036854775807:=by
  have:=grownCap_le_maxLen w (n+m) c (ρ.t 9) (by unfold maxLen;omega);rw[<-hG] at this;unfold maxLen at this;omega
 have hGi:¬ (G=i):=by omega
 have afX:¬ (G=i+m):=by omega
 have hci:¬ (c=i):=by omega
 have hbN:b≠w.heap.size:=by omega
 have hni:(n - i)*k=n*k - i*k:=fS _ _ _;have W_:(cs.drop (i*k)).length=(n - i)*k:=by rw[cC,ta,fS]
 have acP:∀ (W:World),(∀ x,W.cell? x=(W1.setCells w.heap.size (i*k) vs).cell? x)->(∀ x,W.frozen? x=(W1.setCells w.heap.size (i*k) vs).frozen? x)->∀ ty dc sc,(Builtin.copy_ #[(ρ.t 24),(ρ.t 24)] ty #[.slice (some ⟨w.heap.size,(i+m)*k,none⟩) (n+m - (i+m)) dc,.slice (some ⟨b,off+i*k,none⟩) (n - i) sc]).run P W=.ok (goInt (Nat.min (n - i) (n+m - (i+m)))) (W.setCells w.heap.size ((i+m)*k) (cs.drop (i*k))):=λW Nb Xo ty dc sc=>
  BE W _ _ ty (ρ.t 9) inf w.heap.size ((i+m)*k) (n+m - (i+m)) dc ⟨b,off+i*k,none⟩ (n - i) sc (cs.drop (i*k)) L.t24 L.i9 (by rw[W_,L.is];congr 1;simp only[gH];split <;> omega)
   (λj v hj=>by
    rw[Addr.add_lit,Nb,World.cell?_setCells_out _ _ _ _ _ (λh _=>absurd h hbN),cB]
    exact hOb _ v (qD (i*k+j) v (by rwa [bK] at hj)))
   (λj hj=>by rw[Nb];exact vP _ _ _ _ (λt ht=>hN _ Bys) _ (hN _ Bys))
   (λj hj=>by rw[Xo,World.frozen?_setCells];exact hNf _) (λv hv=>Tm v (cQ hv))
 subst zJ;have hE1:∀ x,((w.alloc (.cells sM (ρ.t 9))).drew).cell? x=(w.drew.alloc (.cells sM (ρ.t 9))).cell? x:=λx=>rfl;have hE2:∀ x,((w.alloc (.cells sM (ρ.t 9))).drew).frozen? x=(w.drew.alloc (.cells sM (ρ.t 9))).frozen? x:=λx=>rfl;have hF1:∀ x,(((w.alloc (.cells sM (ρ.t 9))).drew.setCells w.heap.size (i*k) vs).drew).cell? x=((w.drew.alloc (.cells sM (ρ.t 9))).setCells w.heap.size (i*k) vs).cell? x:=λx=>rfl;have S_:∀ x,(((w.alloc (.cells sM (ρ.t 9))).drew.setCells w.heap.size (i*k) vs).drew).frozen? x=((w.drew.alloc (.cells sM (ρ.t 9))).setCells w.heap.size (i*k) vs).frozen? x:=λx=>rfl;have xB:IntKind.i64.wrap ((i:Int)+(m:Int))=(i:Int)+(m:Int):=by rw[IntKind.wrap_i64];omega
 have Wr:(0:Int)<=(i:Int)+(m:Int):=by omega
 have iZ:i<=n:=by omega
 have htn:((i:Int)+(m:Int)).toNat=i+m:=by omega
 have hb3:(i:Int)<=(n:Int):=by omega
 clear Km AU hold JH hG hRl acO Mi;obtain ⟨_,_,FG⟩:=L.f22
 go_enter FG,Body2.n22_ntmps ρ
 go_wp2_with (first
  | (at_builtin;refine Lib.wpList_append_run _ rfl _ _ _ _ rfl _ _ rfl rfl _ _ (hrz _) ?_)
  | (at_builtin;refine Bg _ rfl _ _ (ρ.t 24) (ρ.t 24) rfl _ _ rfl rfl (ae8 _ hE1 hE2 _ _) ?_)
  | (at_builtin;refine Bg _ rfl _ _ (ρ.t 24) (ρ.t 24) rfl _ _ rfl rfl (acP _ (λ_=>rfl) (λ_=>rfl) _ _ _) ?_))
 go_region_law_o (refine IN rfl _ _ (ρ.t 24) (ρ.t 24) rfl (.slice (some ⟨w.heap.size,(i+m)*k,none⟩) (n+m - (i+m)) (G - (i+m))) (.slice (some ⟨b,off+i*k,none⟩) (n - i) (c - i)) (by simp[Act.eval,Act.put]) (by simp[Act.eval,Act.put]) (acP _ hF1 S_ (ρ.t 3) (G - (i+m)) (c - i)) ?_)
 go_wp2
 go_ret
 exact ⟨rfl,rfl⟩
theorem Mj {i:TypeId} {v:Value} (h:(P.info? i).bind (·.zero)=some v) (w:World):(zeroValue i).run P w=.ok v w:=by
 cases hi:P.info? i with
 | none=>rw[hi] at h;cases h
 | some inf=>
  rw[hi] at h;simp[zeroValue,typeInfo,hi,show inf.zero=some v from h]
theorem Zp {i:TypeId} (h:bn P .bool (.inl i)=true):P.underlying i=some .bool:=by
 simp only[bn,aD] at h;have h2:=h.2;split at h2
 ·assumption
 ·cases h2
theorem KR.facts {e:Ty} (L:KR P ρ e) (h1:1<=e.sz):∃ inf zv,CP P ρ e.sz inf zv/\inf.bytes<=512:=by
 obtain ⟨inf,zv,i1,i2,i3,i4,i5,_⟩:=xA (lX L.l9);exact ⟨inf,zv,⟨L.mixed,L.f22,L.f29,qI L.l3,λw=>yq L.l3,λw=>run_sizeOf L.l3,Mj L.z3,Zp L.l4,λw=>yq L.l4,λw=>run_sizeOf L.l4,Mj L.z4,L.t24,λw=>yq L.l24,λw=>run_sizeOf L.l24,Mj L.z24,λw=>run_sizeOf L.l9,i1,i2,i4,i5,h1⟩,i3⟩
def UR (e:Ty) (v:List e.den×Int×List e.den×Unit):Option (List e.den×Unit):=if 0<=v.2.1/\v.2.1<=(v.1.length:Int)/\v.1.length+v.2.2.1.length<=b9 then some (v.1.take v.2.1.toNat++v.2.2.1++v.1.drop v.2.1.toNat,()) else none
theorem PD {w':World} {A:Cells} {e:Ty} (hs:wX e=true) {b cap:Nat} {vs:List e.den} {news:List Value} {F1:FP} (oU:cap<=maxLen) (iU:iR w' b (cap*e.sz,zO e)) (hlen:List.length vs<=cap) (wa:Has w' b 0 news)
  (rW:∀ (i:Nat) (y:e.den),vs[i]?=some y->(news.drop (i*e.sz)).take e.sz=oV e y) (hF:∀ b' i,de b 0 (cap*e.sz) b' i<=F1 b' i) :
  ax P w' A (.aa e) (aj (.aa e)) [] vs [.slice (some ⟨b,0,none⟩) (List.length vs) cap] F1:=by
 simp only[ax,hole,bT,aF,aS,aj,u0,Md.own,aJ,Md.e];refine ⟨some ⟨b,0,none⟩,cap,rfl,hlen,oU,(λe=>by cases e),λad e2=>?_⟩
 injection e2 with e2;subst e2;refine ⟨rfl,rfl,iU,λ_ _ _=>0,λx i=>by rw[ns];exact hF x i,λi y hy=>⟨oV e y,Ro.length e (vO (P:=P) (w:=w') (A:=A) e hs y),λj u hu=>?_,Ro.flat e _ (AT e hs) (vO e hs y)⟩⟩
 rw[<-rW i y hy,bN] at hu;split at hu
 ·rw[bK] at hu;have:=wa _ u hu;rw[bE] at this;exact this
 ·cases hu
theorem PE {e:Ty} {v y:List e.den} {gu news:List Value} (hl:gu.length=List.length v*e.sz)
  (h1:∀ (i:Nat) (z:e.den),v[i]?=some z->(gu.drop (i*e.sz)).take e.sz=oV e z) (h2:∀ (i:Nat) (z:e.den),y[i]?=some z->(news.drop (i*e.sz)).take e.sz=oV e z) :
  ∀ (i:Nat) (z:e.den),(v++y)[i]?=some z->((gu++news).drop (i*e.sz)).take e.sz=oV e z:=by
 intro i z hz;by_cases hi:i < List.length v
 ·rw[bO hi] at hz;have h6:i*e.sz+e.sz<=List.length v*e.sz:=by rw[<-dW];exact aX _ Bys
  rw[eY Bys,gG (by simp;omega)];exact h1 i z hz
 ·rw[cL Bys] at hz;have h6:List.length v*e.sz<=i*e.sz:=aX _ Bys;rw[gZ,eK Bys,cJ,hl,<- fS];exact h2 _ z hz
theorem Xp {e:Ty} (L:KR P ρ e) (hs:wX e=true) (hu:zO e=false) (h1:1<=e.sz) (he:vW P (ρ.f 22) false) :
  Ok P (ρ.f 22) { ps:=[(.nK (aj (.aa e)),.aa e),(.ro,.int .i64),(.ro,.aa e)],rs:=[(.aa e,aj (.aa e))],F:=UR e }:=by
 obtain ⟨inf,zv,LF,OS⟩:=L.facts h1;refine ⟨?_,he⟩
 intro w A F0 v xs lO hle xp CO JD out mL;obtain ⟨vs,i,ys,⟨⟩⟩:=v;obtain ⟨x,O2,F1,F2,rfl,hF,⟨H,cs,hH,rfl,iT⟩,x2,xs2,F3,F4,rfl,S_,⟨d9,rfl,hi⟩,x3,xs3,F5,F6,rfl,hF3,⟨M2,rfl,hy⟩,t6⟩:=lO;obtain rfl:=bD.1 hH;have t6:xs3=[]:=t6;subst t6;have hi:d9=[.int .i64 i]:=hi;subst hi;have hy:Ro P w A (.aa e) ys M2:=hy;have mL:UR e (vs,i,ys,())=some out:=mL;unfold UR at mL;split at mL;rotate_left
 ·cases mL
 rename_i hb;obtain ⟨b1,b2,b3⟩:=hb;simp only at b1 b2 b3 mL;injection mL with mL;subst mL;obtain ⟨ni,rfl⟩:=cV b1;simp only[aC];have iZ:ni<=List.length vs:=by omega
 unfold b9 at b3;obtain ⟨xa,cap,gu,Fi,r1,r2,r3,r4,r5,r6,r7,r8⟩:=AL (v:=vs) iT;obtain ⟨c1,c2,c3,c4⟩:=r8 rfl;subst r1;have hyr:ax P w A (.aa e) (an (.aa e)) [] ys M2 (λ_ _=>0):=Ro.rep _ _ (iF _) hy;obtain ⟨ya,yd,news,Gi,s1,s2,s3,s4,s5,s6,s7,_⟩:=AL (v:=ys) hyr;subst s1;have yc:cap<=9223372036854775807:=by unfold maxLen at c2;omega
 have hx:(cu (.aa e) [.slice xa (List.length vs) cap]::[cu (.int .i64) [.int .i64 (ni:Int)],cu (.aa e) [.slice ya (List.length ys) yd]]).toArray=#[.slice xa (List.length vs) cap,.int .i64 ni,.slice ya (List.length ys) yd]:=rfl;show Calls P (ρ.f 22) (cu (.aa e) [.slice xa (List.length vs) cap]::[cu (.int .i64) [.int .i64 (ni:Int)],cu (.aa e) [.slice ya (List.length ys) yd]]).toArray w _;rw[hx];have acQ:∀ (t:Nat) (z:e.den),vs[t]?=some z->(gu.drop (t*e.sz)).take e.sz=oV e z:=λt z hz=>Pu e hs (ax.flat e (AT e hs) (r6 t z hz));have YV:∀ (t:Nat) (z:e.den),ys[t]?=some z->(news.drop (t*e.sz)).take e.sz=oV e z:=λt z hz=>Pu e hs (ax.flat e (AT e hs) (s6 t z hz));have acR:(gu.take (ni*e.sz)).length=(vs.take ni).length*e.sz:=by rw[dC,dC,r4,gI iZ,gI (aX _ iZ)]
 have Ei:∀ (t:Nat) (z:e.den),(vs.take ni++ys++vs.drop ni)[t]?=some z->((gu.take (ni*e.sz)++news++gu.drop (ni*e.sz)).drop (t*e.sz)).take e.sz=oV e z:=
  PE (by rw[bU,bU,acR,s4,bW]) (PE acR (λt z hz=>by
   rw[bN] at hz;split at hz
   ·have:=acQ t z hz;have h6:t*e.sz+e.sz<=ni*e.sz:=by rw[<-dW];exact aX _ Bys
    rw[eN,eO,gI Bys];exact this
   ·cases hz) YV) (λt z hz=>by
   rw[bK] at hz;have:=acQ (ni+t) z hz;rw[dB,<- bW]
   exact this)
 have Ek:List.length (vs.take ni++ys++vs.drop ni)=List.length vs+List.length ys:=by simp;omega
 have zX:∀ (w':World) (rv:Value) (GR:FP),Ext w w' F0->(∀ b i,GR b i<=F0 b i\/(w.heap.size<=b/\b < w'.heap.size/\GR b i<=1))->(∃ cs,rv=cu (.aa e) cs/\ax P w' A (.aa e) (aj (.aa e)) [] (vs.take ni++ys++vs.drop ni) cs GR) ->
   ∃ Dx,Ending.returned rv=.returned Dx/\Ext w w' F0/\∃ (A':Cells) (G GR GM:FP),(∀ b i,A b i->A' b i)/\(∀ b i,A' b i->A b i\/1<=F0 b i\/w.heap.size<=b)/\(∀ b i,1<=G b i->1<=F0 b i\/w.heap.size<=b)/\(∀ b i,G b i<=1)/\(∀ b i,1<=G b i->¬ A' b i)/\(∀ b i,1<=G b i\/A' b i->b < w'.heap.size)/\(∀ b i,GR b i+GM b i<=G b i) /\
   nx P w' A' [⟨.aa e,aj (.aa e),vs.take ni++ys++vs.drop ni⟩] Dx GR/\nG P w' A' [(.nK (aj (.aa e)),.aa e),(.ro,.int .i64),(.ro,.aa e)] () [cu (.aa e) [.slice xa (List.length vs) cap],cu (.int .i64) [.int .i64 (ni:Int)],cu (.aa e) [.slice ya (List.length ys) yd]] GM:=λw' rv GR eo Xb hr=>
  ⟨_,rfl,eo,A,GR,GR,λ_ _=>0,λ_ _ h=>h,λ_ _ h=>.inl h,λb i h=>by
   rcases Xb b i with h2 | h2
   ·exact .inl Bys
   ·exact .inr h2.1,λb i=>by
   rcases Xb b i with h2 | h2
   ·have:=hle b i;omega
   ·exact h2.2.2,λb i h ha=>by
   rcases Xb b i with h2 | h2
   ·exact xp b i Bys ha
   ·have:=CO b i (.inr ha);omega,λb i h=>by
   rcases h with h | h
   ·rcases Xb b i with h2 | h2
    ·exact bX (CO b i (.inl Bys)) eo.size
    ·exact h2.2.1
   ·exact bX (CO b i (.inr h)) eo.size,λb i=>aH _,hr,trivial⟩
 by_cases WN:List.length ys=0
 ·have hys:ys=[]:=bF WN;rw[WN];refine (Zn LF xa (List.length vs) cap ni yd ya w iZ c1 yc c3 (λad j0=>(c4 ad j0).2.1)).mono ?_;rintro ex w' ⟨rfl,rfl⟩;rw[WN] at zX;refine zX _ _ F1 (Ext.refl _ _) (λb i=>.inl (by have:=hF b i;omega)) ⟨_,(ee _ _ rfl).symm,?_⟩;rw[hys,cR,dA];exact iT
 ·have hm:0 < List.length ys:=by omega
  cases ya with
  | none=>have:=s2.2 rfl;omega
  | some Cx=>
   obtain ⟨vb,qw,vsp⟩:=Cx;obtain ⟨y1,y2⟩:=s3 _ rfl;have oT:vsp=none:=y1 (by have:=s2.1;omega);subst oT;simp only at y2;have IM:∀ j u,news[j]?=some u->w.cell? ⟨vb,qw+j,none⟩=some u:=λj u ny=>sy (y2 j u ny) (s5 u (bI ny))
   have Mf:Src P inf.size (ρ.t 24) (.slice (some ⟨vb,qw,none⟩) (List.length ys) yd) (List.length ys) news w:=by
    rw[LF.is];exact Src.ofSlice w LF.t24 ⟨vb,qw,none⟩ (List.length ys) yd news s4 (λj u hj=>by rw[Addr.add_lit];exact IM j u hj) s5
   have Mi:(List.length vs+List.length ys)*inf.bytes<=140737488355328:=bG (fJ b3 OS) (by decide)
   have US:∀ (w':World) (cap':Nat),Ext w w' (λ_ _=>0)->w.heap.size < w'.heap.size->List.length vs+List.length ys<=cap'->cap'<=maxLen->iR w' w.heap.size (cap'*e.sz,zO e)->Has w' w.heap.size 0 (gu.take (ni*e.sz)++news++gu.drop (ni*e.sz)) ->
     ∃ Dx,Ending.returned (.slice (some ⟨w.heap.size,0,none⟩) (List.length vs+List.length ys) cap')=.returned Dx/\Ext w w' F0/\∃ (A':Cells) (G GR GM:FP),(∀ b i,A b i->A' b i)/\(∀ b i,A' b i->A b i\/1<=F0 b i\/w.heap.size<=b)/\(∀ b i,1<=G b i->1<=F0 b i\/w.heap.size<=b)/\(∀ b i,G b i<=1)/\(∀ b i,1<=G b i->¬ A' b i)/\(∀ b i,1<=G b i\/A' b i->b < w'.heap.size)/\(∀ b i,GR b i+GM b i<=G b i) /\
   nx P w' A' [⟨.aa e,aj (.aa e),vs.take ni++ys++vs.drop ni⟩] Dx GR/\nG P w' A' [(.nK (aj (.aa e)),.aa e),(.ro,.int .i64),(.ro,.aa e)] () [cu (.aa e) [.slice xa (List.length vs) cap],cu (.int .i64) [.int .i64 (ni:Int)],cu (.aa e) [.slice (some ⟨vb,qw,none⟩) (List.length ys) yd]] GM:=λw' cap' eo a_ lY IG ho hh=>
    zX w' _ (de w.heap.size 0 (cap'*e.sz)) (eo.mono λ_ _ _=>rfl) (λb i=>by
     simp only[de];split
     ·rename_i hq;obtain ⟨rfl,_⟩:=hq;exact .inr ⟨aH _,a_,aH _⟩
     ·exact .inl (aZ _)) ⟨_,(ee _ _ rfl).symm,by rw[<-Ek];exact PD hs IG ho (by rw[Ek];exact lY) hh Ei (λ_ _=>aH _)⟩
   have Cr:∀ (w':World) (b:Nat),xa=some ⟨b,0,none⟩->Ext w w' (de b 0 (cap*e.sz))->List.length vs+List.length ys<=cap->Has w' b 0 (gu.take (ni*e.sz)++news++gu.drop (ni*e.sz)) ->
     ∃ Dx,Ending.returned (.slice (some ⟨b,0,none⟩) (List.length vs+List.length ys) cap)=.returned Dx/\Ext w w' F0/\∃ (A':Cells) (G GR GM:FP),(∀ b i,A b i->A' b i)/\(∀ b i,A' b i->A b i\/1<=F0 b i\/w.heap.size<=b)/\(∀ b i,1<=G b i->1<=F0 b i\/w.heap.size<=b)/\(∀ b i,G b i<=1)/\(∀ b i,1<=G b i->¬ A' b i)/\(∀ b i,1<=G b i\/A' b i->b < w'.heap.size)/\(∀ b i,GR b i+GM b i<=G b i) /\
   nx P w' A' [⟨.aa e,aj (.aa e),vs.take ni++ys++vs.drop ni⟩] Dx GR/\nG P w' A' [(.nK (aj (.aa e)),.aa e),(.ro,.int .i64),(.ro,.aa e)] () [cu (.aa e) [.slice xa (List.length vs) cap],cu (.int .i64) [.int .i64 (ni:Int)],cu (.aa e) [.slice (some ⟨vb,qw,none⟩) (List.length ys) yd]] GM:=λw' b OL eo lY hh=>by
    obtain ⟨_,_,q3,q4⟩:=c4 _ OL;simp only at q3 q4
    exact zX w' _ (de b 0 (cap*e.sz)) (eo.mono λb' i h0=>by have:=q4 b' i;have:=hF b' i;omega) (λb' i=>.inl (by have:=q4 b' i;have:=hF b' i;omega))
     ⟨_,(ee _ _ rfl).symm,by rw[<-Ek];exact PD hs c2 (eo.wg _ _ q3) (by rw[Ek];exact lY) hh Ei (λ_ _=>aH _)⟩
   have hk:=h1;have hmk:ni*e.sz+List.length ys*e.sz=(ni+List.length ys)*e.sz:=by rw[bW]
   have hnm:List.length vs*e.sz+List.length ys*e.sz=(List.length vs+List.length ys)*e.sz:=by rw[bW]
   have acM:1<=List.length ys*e.sz:=fJ hm h1;have afY:ni*e.sz<=List.length vs*e.sz:=aX _ iZ;have vM:(gu.take (ni*e.sz)).length=ni*e.sz:=by rw[dC,r4];omega
   have SM:(gu.drop (ni*e.sz)).length=List.length vs*e.sz - ni*e.sz:=by rw[cC,r4]
   have zT:∀ (w1 w2 w3:World) (b:Nat),b < w1.heap.size->Ext w1 w2 (de b ((ni+List.length ys)*e.sz) (gu.drop (ni*e.sz)).length)->Has w2 b ((ni+List.length ys)*e.sz) (gu.drop (ni*e.sz))->Ext w2 w3 (de b (ni*e.sz) news.length)->Has w3 b (ni*e.sz) news ->
     Has w1 b 0 (gu.take (ni*e.sz))->Has w3 b 0 (gu.take (ni*e.sz)++news++gu.drop (ni*e.sz)):=λw1 w2 w3 b hb x1 g1 x2 g2 g0 t u ny=>by
    rw[bE];by_cases ht:t < ni*e.sz
    ·rw[cA,bO Bys] at ny;have h5:=g0 t u ny;rw[bE] at h5;exact x2.cell b t (bX hb x1.size) (by simp only[de];rw[aV Bys]) u (x1.cell b t hb (by simp only[de];rw[aV Bys]) u h5)
    ·by_cases ht2:t < (ni+List.length ys)*e.sz
     ·rw[bO (by rw[bU,vM,s4];omega),cL Bys,vM] at ny;have h5:=g2 _ u ny;rw[show ni*e.sz+(t - ni*e.sz)=t by omega] at h5;exact h5
     ·rw[cL (by rw[bU,vM,s4];omega),bU,vM,s4] at ny;have h5:=g1 _ u ny;rw[show (ni+List.length ys)*e.sz+(t - (ni*e.sz+List.length ys*e.sz))=t by omega] at h5;exact x2.cell b t (bX hb x1.size) (by simp only[de,s4];rw[aV Bys]) u h5
   have aaM:∀ u ∈ gu.drop (ni*e.sz),u.oneCell'=true:=λu ny=>r5 u (cQ ny);by_cases zW:ni=List.length vs
   ·have qS:gu.take (ni*e.sz)=gu:=by rw[zW,<- r4];simp
    have GP:gu.drop (ni*e.sz)=[]:=by rw[zW,<- r4];simp
    rw[qS,GP,cR] at US Cr;by_cases sW:List.length vs+List.length ys<=cap
    ·cases xa with
     | none=>have:=c3 rfl;omega
     | some ad=>
      obtain ⟨q1,q2,q3,q4⟩:=c4 ad rfl;obtain ⟨_,d5⟩:=r3 ad rfl;obtain ⟨b,off,sp⟩:=ad;simp only at q1 q2 q3 q4 d5;subst q1;subst q2;have yY:(List.length vs+List.length ys)*e.sz<=cap*e.sz:=aX _ sW
      have nI:∀ j,j < cap*e.sz->(w.cell? ⟨b,j,none⟩).isSome=true:=λj hj=>by
       obtain ⟨c,e',fr,w1,w2,w3⟩:=q3;unfold World.cell?;simp only[w1,fP,aF,aS];rw[dJ (by simp only at w2;omega)];rfl
      have jL:∀ ty,_:=λty=>run_append_room_src (P:=P) w (ρ.t 24) (ρ.t 24) ty (ρ.t 9) inf LF.t24 LF.i9 b 0 (List.length vs) cap (.slice (some ⟨vb,qw,none⟩) (List.length ys) yd) (List.length ys) news Mf sW
       (λj hj=>by rw[LF.is,bE];exact nI _ Bys) (λj hj=>by rw[LF.is,bE];exact q3.frozen (by simp only;omega))
      rw[zW];refine (Tn LF (some ⟨b,0,none⟩) (List.length vs) cap (List.length ys) yd (some ⟨vb,qw,none⟩) w _ _ hm c1 yc (λe=>by cases e) (λad j0=>by injection j0 with j0;subst j0;rfl) jL).mono ?_;rintro ex w' ⟨rfl,rfl⟩;rw[LF.is,bE];have eo:=k_ (b:=b) (o:=List.length vs*e.sz) news w (List.length vs*e.sz)
      have:=Cr _ b rfl (eo.mono λb' t h0=>by
       simp only[de] at h0 ⊢;split at h0
       ·cases h0
       ·rw[aV Bys]) sW (λt u ny=>by
       rw[bE];by_cases ht:t < gu.length
       ·rw[bO ht] at ny;have h5:=d5 t u ny;rw[bE] at h5;exact eo.cell b t q3.lt (by simp only[de];rw[aV Bys]) u h5
       ·rw[cL Bys] at ny;have h5:=pN (w:=w) (b:=b) (o:=List.length vs*e.sz) (L:=news) (λk hk=>nI _ Bys) s5 _ u ny;rw[show List.length vs*e.sz+(t - gu.length)=t by omega] at h5
        exact h5)
      rw[zW] at this;exact this
    ·have SL:∀ ad,xa=some ad->ad.spot=none:=λad j0=>(c4 ad j0).2.1
     have Uz:(Builtin.firstCells inf.size (List.length vs) (.slice xa (List.length vs) cap)).run P w.drew=.ok gu.toArray w.drew:=by
      cases xa with
      | none=>
       have h0:=r2.2 rfl;have:gu=[]:=bF (by rw[r4,h0,Nat.zero_mul]);subst this;exact run_firstCells_none w.drew inf.size (List.length vs) (List.length vs) cap
      | some ad=>
       obtain ⟨_,d4,_,_⟩:=c4 ad rfl;obtain ⟨_,d5⟩:=r3 ad rfl;obtain ⟨b,off,sp⟩:=ad;simp only at d4 d5;subst d4;exact run_firstCells_some w.drew inf.size (List.length vs) ⟨b,off,none⟩ (List.length vs) cap gu (by rw[LF.is];exact r4) (λj u ny=>by rw[qG];exact sy (d5 j u ny) (r5 u (bI ny)))
     have jL:∀ ty,_:=λty=>run_append_grow_src (P:=P) w (ρ.t 24) (ρ.t 24) ty (ρ.t 9) inf zv LF.t24 LF.i9 LF.iz xa (List.length vs) cap gu Uz (.slice (some ⟨vb,qw,none⟩) (List.length ys) yd) (List.length ys) news Mf Bys Bys (growslice_fits Bys Mi);rw[zW];refine (Tn LF xa (List.length vs) cap (List.length ys) yd (some ⟨vb,qw,none⟩) w _ _ hm c1 yc c3 SL jL).mono ?_;rintro ex w' ⟨rfl,rfl⟩;have IF:=grownCap_ge w (List.length vs+List.length ys) cap (ρ.t 9);have S6:=grownCap_le_maxLen w (List.length vs+List.length ys) cap (ρ.t 9) (by simp only[maxLen];omega)
     have nt:((gu++news).toArray++Builtin.zeroCells zv.cells (grownCap w (List.length vs+List.length ys) cap (ρ.t 9) - (List.length vs+List.length ys))).size=grownCap w (List.length vs+List.length ys) cap (ρ.t 9)*e.sz:=by
      rw[fE,size_zeroCells,LF.ik,eU,bU,r4,s4,<- bW,<- bW];congr 1;omega
     have iU:=yt w.drew ((gu++news).toArray++Builtin.zeroCells zv.cells (grownCap w (List.length vs+List.length ys) cap (ρ.t 9) - (List.length vs+List.length ys))) (ρ.t 9) (0,0) (zO e) (.inr (aH _));rw[nt] at iU
     have:=US _ _ ((wy w).trans (oH w.drew _) (λ_ _ _ _=>rfl)) (by simp[World.alloc]) IF S6 iU (yu w.drew _ (ρ.t 9) (0,0) (λj u ny=>by
      have a_:=(aM.1 ny).1;rw[bE,dY (by simpa using a_)]
      simpa using ny) (λu ny=>by
      rcases bR.1 ny with h | h
      ·exact r5 u h
      ·exact s5 u h))
     rw[zW] at this;exact this
   ·have a_:ni < List.length vs:=by omega
    cases xa with
    | none=>have:=c3 rfl;omega
    | some ad=>
     obtain ⟨q1,q2,q3,q4⟩:=c4 ad rfl;obtain ⟨_,d5⟩:=r3 ad rfl;obtain ⟨b,off,sp⟩:=ad;simp only at q1 q2 q3 q4 d5;subst q1;subst q2;have qD:∀ j u,gu[j]?=some u->w.cell? ⟨b,0+j,none⟩=some u:=λj u ny=>sy (d5 j u ny) (r5 u (bI ny))
     have Wx:Has w b 0 (gu.take (ni*e.sz)):=λt u ny=>by
      rw[bN] at ny;split at ny
      ·exact d5 t u ny
      ·cases ny
     by_cases sW:List.length vs+List.length ys<=cap
     ·have yY:(List.length vs+List.length ys)*e.sz<=cap*e.sz:=aX _ sW;obtain ⟨c,e',fr,w1,w2,w3,w4⟩:=q3
      have q3:iR w b (cap*e.sz,zO e):=⟨c,e',fr,w1,w2,w3,w4⟩
      simp only at w2 w3 w4
      have nI:∀ j,j < cap*e.sz->(w.cell? ⟨b,j,none⟩).isSome=true:=λj hj=>by
       unfold World.cell?;simp only[w1,fP,aF,aS];rw[dJ Bys];rfl
      have Xq:0 < news.length:=by omega
      have KS:=y2 0 _ (aB Xq);have To:=IM 0 _ (aB Xq);obtain ⟨a',cap',g1,g2,g3,g4⟩:=hy;injection g1 with g1 _;injection g1 with g1 _ _;subst g1;obtain ⟨Ly,l1,l2,_⟩:=(g4 _ rfl).2 0 _ (aB hm)
      have hA:A vb qw:=by
       have:=(l2 0 _ (aB Bys)).2
       simpa using this
      have hvb:vb≠b:=λe0=>by
       subst e0;have:=Pv w1 KS;have Me:=(bS.1 this).1;have h5:=q4 vb (qw+0);have h6:de vb 0 (cap*e.sz) vb (qw+0)=1:=by simp only[de];rw[aR ⟨trivial,by omega,by omega⟩]
       have h7:=hF vb (qw+0);exact xp vb qw (by rw[eJ] at h5 h6 h7;omega) hA
      obtain ⟨tA,kA,PB,Xm⟩:∃ tA kA,w.shape? vb=some (tA,kA)/\kA≠0:=by
       unfold World.cell? at To;unfold World.shape?;split at To
       ·rename_i heq;split at To
        ·cases To
        ·simp only at heq;simp only[heq];refine ⟨_,_,rfl,λh0=>?_⟩
         have:=(bS.1 To).1;omega
       ·cases To
      have PC:w.frozen? ⟨b,cap*e.sz,none⟩=false:=by
       simp only[World.frozen?,w1];have:=w4 hu;simp only[Bool.and_eq_false_iff,fR];omega
      refine (Xn LF b 0 (List.length vs) cap ni vb qw (List.length ys) yd gu news w a_ hm sW yc hvb r4 s4 qD (λj hj=>by rw[bE];exact nI _ Bys) (λj hj=>by rw[bE];exact q3.frozen (by simp only;omega)) IM r5 s5 tA e' kA (cap*e.sz) PB (by simp only[World.shape?,w1,w2]) Xm PC).mono ?_;rintro ex w' ⟨rfl,hw⟩;simp only[bE] at hw;have x1:=k_ (b:=b) (o:=(ni+List.length ys)*e.sz) (gu.drop (ni*e.sz)) w.drew ((ni+List.length ys)*e.sz);have x2:=k_ (b:=b) (o:=ni*e.sz) news (w.drew.setCells b ((ni+List.length ys)*e.sz) (gu.drop (ni*e.sz))) (ni*e.sz);rw[<-hw] at x2;have Xr:∀ j,j < (gu.drop (ni*e.sz)).length->(w.drew.cell? ⟨b,(ni+List.length ys)*e.sz+j,none⟩).isSome=true:=λj hj=>nI _ Bys;refine Cr w' b rfl ?_ sW (zT w.drew _ w' b q3.lt x1 (pN Xr aaM) x2 ?_ Wx)
      ·refine (((wy w).mono (λ_ _ _=>rfl)).trans (x1.mono (λb' t h0=>?_)) (λ_ _ _ h=>h)).trans (x2.mono (λb' t h0=>?_)) (λ_ _ _ h=>h)
       ·simp only[de] at h0 ⊢;split at h0
        ·cases h0
        ·rw[aV Bys]
       ·simp only[de] at h0 ⊢;split at h0
        ·cases h0
        ·rw[aV Bys]
      ·rw[hw];exact pN (λj hj=>vP b _ _ _ Xr _ (nI _ Bys)) s5
     ·refine (Zo LF b 0 (List.length vs) cap ni vb qw (List.length ys) yd gu news w a_ hm c1 Bys Mi Bys r4 s4 qD IM r5 s5).mono ?_;rintro ex w' ⟨rfl,hw⟩;have IF:=grownCap_ge w (List.length vs+List.length ys) cap (ρ.t 9);have S6:=grownCap_le_maxLen w (List.length vs+List.length ys) cap (ρ.t 9) (by simp only[maxLen];omega)
      obtain ⟨G,hG⟩:∃ G,G=grownCap w (List.length vs+List.length ys) cap (ρ.t 9):=⟨_,rfl⟩
      rw[<-hG] at hw IF S6 ⊢
      obtain ⟨sM,JH⟩:∃ sM:Array Value,sM=(gu.take (ni*e.sz)).toArray++Builtin.zeroCells zv.cells (List.length vs+List.length ys - ni)++Builtin.zeroCells zv.cells (G - (List.length vs+List.length ys)):=⟨_,rfl⟩
      rw[<-JH] at hw
      have nt:sM.size=G*e.sz:=by
       rw[JH,fE,fE,size_zeroCells,size_zeroCells,LF.ik,eU,vM,<- bW,<- bW];congr 1;omega
      have yY:(List.length vs+List.length ys)*e.sz<=G*e.sz:=aX _ IF;have iU:=yt w sM (ρ.t 9) (0,0) (zO e) (.inr (aH _));rw[nt] at iU
      have nI:∀ j,j < G*e.sz->((w.alloc (.cells sM (ρ.t 9))).drew.cell? ⟨w.heap.size,j,none⟩).isSome=true:=λj hj=>by
       have:=World.cell?_alloc_at (w:=w) sM (ρ.t 9) w.heap.size j rfl;show ((w.alloc (.cells sM (ρ.t 9))).cell? _).isSome=true;rw[this,dJ Bys];rfl
      have x0:Ext w (w.alloc (.cells sM (ρ.t 9))).drew (λ_ _=>0):=(oH w _).trans (wy _) (λ_ _ _ _=>rfl);have x1:=k_ (b:=w.heap.size) (o:=ni*e.sz) news (w.alloc (.cells sM (ρ.t 9))).drew (ni*e.sz);have x2:=k_ (b:=w.heap.size) (o:=(ni+List.length ys)*e.sz) (gu.drop (ni*e.sz)) ((w.alloc (.cells sM (ρ.t 9))).drew.setCells w.heap.size (ni*e.sz) news).drew ((ni+List.length ys)*e.sz);rw[<-hw] at x2;have rD:∀ (o n b' t:Nat),b' < w.heap.size->de w.heap.size o n b' t=0:=λo n b' t vN=>by simp only[de];rw[aV Bys]
      have x12:Ext w w' (λ_ _=>0):=((x0.trans x1 (λb' t vN _=>rD _ _ _ _ vN)).trans (wy _) (λ_ _ _ _=>rfl)).trans x2 (λb' t vN _=>rD _ _ _ _ vN)
      have g0:Has (w.alloc (.cells sM (ρ.t 9))).drew w.heap.size 0 (gu.take (ni*e.sz)):=yu w sM (ρ.t 9) (0,0) (λj u ny=>by
       have Me:=(aM.1 ny).1;rw[JH,bE,Array.append_assoc,dY (by simpa using Me)]
       simpa using ny) (λu ny=>r5 u (dU ny))
      have acS:w.heap.size < (w.alloc (.cells sM (ρ.t 9))).drew.heap.size:=by show w.heap.size < (w.heap.push _).size;rw[Array.size_push];omega
      have g1:=pN (w:=(w.alloc (.cells sM (ρ.t 9))).drew) (b:=w.heap.size) (o:=ni*e.sz) (L:=news) (λj hj=>nI _ Bys) s5;have g2:=pN (w:=((w.alloc (.cells sM (ρ.t 9))).drew.setCells w.heap.size (ni*e.sz) news).drew) (b:=w.heap.size) (o:=(ni+List.length ys)*e.sz) (L:=gu.drop (ni*e.sz)) (λj hj=>vP w.heap.size _ _ _ (λj hj=>nI _ Bys) _ (nI _ Bys)) aaM;rw[<-hw] at g2;have xE:w.heap.size < ((w.alloc (.cells sM (ρ.t 9))).drew.setCells w.heap.size (ni*e.sz) news).drew.heap.size:=bX acS x1.size;refine US w' G x12 (bX xE x2.size) IF S6 (x2.wg _ _ ((wy _).wg _ _ (x1.wg _ _ iU))) (λt u ny=>?_);rw[bE];by_cases ht:t < ni*e.sz
      ·rw[cA,bO Bys] at ny;have h5:=g0 t u ny;rw[bE] at h5;exact x2.cell _ t xE (by simp only[de];rw[aV Bys]) u (x1.cell _ t acS (by simp only[de];rw[aV Bys]) u h5)
      ·by_cases ht2:t < (ni+List.length ys)*e.sz
       ·rw[bO (by rw[bU,vM,s4];omega),cL Bys,vM] at ny;have h5:=g1 _ u ny;rw[show ni*e.sz+(t - ni*e.sz)=t by omega] at h5;exact x2.cell _ t xE (by simp only[de];rw[aV Bys]) u h5
       ·rw[cL (by rw[bU,vM,s4];omega),bU,vM,s4] at ny;have h5:=g2 _ u ny;rw[show (ni+List.length ys)*e.sz+(t - (ni*e.sz+List.length ys*e.sz))=t by omega] at h5;exact h5
end
end OT
