/- The proof's parts, merged: slices.Delete at elements of any size  what it computes, as a contract of this framework.. No conditions but those that each states. -/
import Derived.Test.YtaebhfnbgkbdhaaGreatQc
import Derived.Shelf.SlLaysE0
import Derived.Shelf.RegionOpenPlain
import Derived.WalkKit
import Derived.Deep.LoopGhost
import Derived.Deep.RegionLaw
import Derived.Lib.Walk
import Derived.Sort.WalkB12
import Derived.Lib.SliceRun
import Derived.Test.YtaebhfnbgkbdhaaGreatProg
import Derived.KernelRfl
set_option linter.unusedVariables false
set_option linter.unusedSimpArgs false
namespace OT
open Go Go.Shelf Go.RowKit Go.Lib Go.Proofs
section
variable {P:Program} {ρ:Ren}
theorem CJ (w:World) (t e ty:TypeId) (z:Value) (ht:P.underlying t=some (.slice e)) (hv:∀ w,(zeroValue e).run P w=.ok z w) (b o n c:Nat) (hn:0 < n)
  (hc:∀ j,j < (Builtin.zeroCells z.cells n).toList.length->(w.cell? ⟨b,o+j,none⟩).isSome=true) (hf:∀ j,j < (Builtin.zeroCells z.cells n).toList.length->w.frozen? ⟨b,o+j,none⟩=false) (h1:∀ v ∈ (Builtin.zeroCells z.cells n).toList,v.oneCell'=true) :
  (Builtin.clear_ #[t] ty #[.slice (some ⟨b,o,none⟩) n c]).run P w=.ok (.tuple #[]) (w.setCells b o (Builtin.zeroCells z.cells n).toList):=by
 have br:=run_storeCells_cells (P:=P) b o (Builtin.zeroCells z.cells n).toList 0 w (by simpa using hc) (by simpa using hf) h1
 simp only[Nat.add_zero] at br
 obtain ⟨m,rfl⟩:∃ m,n=m+1:=⟨n - 1,by omega⟩
 simp_all [Builtin.clear_,run_underlying]
theorem z8 (b:Nat) (vs:List Value) (o:Nat) (w:World) (h:∀ j,j < vs.length->(w.cell? ⟨b,o+j,none⟩).isSome=true) (k:Nat) (hk:(w.cell? ⟨b,k,none⟩).isSome=true):((w.setCells b o vs).cell? ⟨b,k,none⟩).isSome=true:=by
 by_cases cI:o<=k/\k < o+vs.length
 ·have:=World.cell?_setCells_in b vs o w h (k - o) (by omega)
  grind
 grind [World.cell?_setCells_out]
set_option maxHeartbeats 4000000 in
set_option maxRecDepth 1000000 in
theorem G0 (L:SlLaysE0.n45 P ρ) (k:Nat) (inf:TypeInfo) (zv:Value) (J3:P.info? (ρ.t 23)=some inf) (OZ:inf.size=k) (hz:∀ w,(zeroValue (ρ.t 23)).run P w=.ok zv w) (vu:zv.cells.size=k) (A7:∀ n,∀ v ∈ (Builtin.zeroCells zv.cells n).toList,v.oneCell'=true)
  (b off n c i j:Nat) (cs:List Value) (w:World) (kC:cs.length=n*k) (fM:∀ t v,cs[t]?=some v->w.cell? ⟨b,off+t,none⟩=some v) (J4:∀ t,t < n*k->w.frozen? ⟨b,off+t,none⟩=false) (O0:∀ v ∈ cs,v.oneCell'=true)
  (gX:n<=c) (hm:c<=9223372036854775807) (gB:i < j) (hj:j<=n) :
  Calls P (ρ.f 45) #[.slice (some ⟨b,off,none⟩) n c,.int .i64 i,.int .i64 j] w λe w'=>e=.returned (.slice (some ⟨b,off,none⟩) (i+(n - j)) c) /\
   w'=(w.drew.setCells b (off+i*k) (cs.drop (j*k))).setCells b (off+(i+(n - j))*k) (Builtin.zeroCells zv.cells (n - (i+(n - j)))).toList:=by
 have mixed:=L.mixed;have t0:=L.t0;have a0:=L.a0;have z0:=L.z0;have v0:=L.v0;have t3:=L.t3;have a3:=L.a3;have z3:=L.z3;have v3:=L.v3;have t4:=L.t4;have a4:=L.a4;have z4:=L.z4;have v4:=L.v4;have t22:=L.t22;have a22:=L.a22;have z22:=L.z22;have v22:=L.v22
 have z23:∀ w,(Go.sizeOf (ρ.t 23)).run P w=.ok k w:=λw=>by simp[Go.sizeOf,typeInfo,J3,OZ]
 have L9:j*k<=n*k:=Nat.mul_le_mul_right _ hj
 obtain ⟨news,xB⟩:∃ news,news=cs.drop (j*k):=⟨_,rfl⟩
 have hlen:news.length=(n - j)*k:=by rw[xB,List.length_drop,kC,Nat.sub_mul]
 obtain ⟨A,hA,P5⟩:∃ A:Addr,(if c=j then some (⟨b,off,none⟩:Addr) else some ⟨b,off+j*k,none⟩)=some A/\Hid (∀ t u,news[t]?=some u->w.drew.cell? (A.add t)=some u):=by
  by_cases h:c=j
  ·refine ⟨⟨b,off,none⟩,by simp[h],λt u hu=>?_⟩
   have h0:news.length=0:=by rw[hlen,show n - j=0 by omega,Nat.zero_mul]
   rw[List.length_eq_zero_iff.1 h0] at hu
   simp at hu
  ·refine ⟨⟨b,off+j*k,none⟩,by simp[h],λt u hu=>?_⟩
   rw[xB,List.getElem?_drop] at hu
   rw[Addr.add_lit,show off+j*k+t=off+(j*k+t) by omega]
   exact fM _ u hu
 have s1:Hid (news.length=(n - j)*k):=hlen
 have s2:Hid (∀ u ∈ news,u.oneCell'=true):=by
  intro u hu
  rw[xB] at hu
  exact O0 u (List.mem_of_mem_drop hu)
 have uX:∀ t,t < n*k->(w.cell? ⟨b,off+t,none⟩).isSome=true:=λt ht=>by rw[fM t _ (List.getElem?_eq_getElem (by omega))];rfl
 have SW:i*k+(n - j)*k<=n*k:=by rw[<-Nat.add_mul];exact Nat.mul_le_mul_right _ (by omega)
 have s3:Hid (∀ t,t < news.length->(w.drew.cell? ⟨b,off+i*k+t,none⟩).isSome=true/\w.drew.frozen? ⟨b,off+i*k+t,none⟩=false):=by
  intro t ht
  rw[hlen] at ht
  rw[Nat.add_assoc]
  exact ⟨uX _ (by omega),J4 _ (by omega)⟩
 obtain ⟨W1,G3⟩:∃ W1,W1=w.drew.setCells b (off+i*k) news:=⟨_,rfl⟩
 have hZ:(Builtin.zeroCells zv.cells (n - (i+(n - j)))).toList.length=(n - (i+(n - j)))*k:=by simp[Builtin.zeroCells,vu]
 have Mp:(i+(n - j))*k+(n - (i+(n - j)))*k=n*k:=by rw[<-Nat.add_mul];congr 1;omega
 have P6:∀ ty,(Builtin.clear_ #[ρ.t 22] ty #[.slice (some ⟨b,off+(i+(n - j))*k,none⟩) (n - (i+(n - j))) (c - (i+(n - j)))]).run P W1=.ok (.tuple #[]) (W1.setCells b (off+(i+(n - j))*k) (Builtin.zeroCells zv.cells (n - (i+(n - j)))).toList):=
  λty=>CJ W1 _ _ ty zv t22 hz b (off+(i+(n - j))*k) _ _ (by omega) (λt ht=>by
   rw[hZ] at ht
   rw[G3,Nat.add_assoc]
   exact z8 b _ _ _ (λt ht=>by rw[hlen] at ht;rw[Nat.add_assoc];exact uX _ (by omega)) _ (uX _ (by omega))) (λt ht=>by rw[hZ] at ht;rw[G3,World.frozen?_setCells,Nat.add_assoc];exact J4 _ (by omega)) (A7 _)
 have hW:Hid (W1=w.drew.setCells b (off+i*k) news):=G3
 have ci:¬ (i:Int)=(j:Int):=by omega
 have RD:i<=c:=by omega
 have TJ:j<=c:=by omega
 have TK:¬ c=i+(n - j):=by omega
 rw[<-xB,<- G3]
 obtain ⟨Z,O1⟩:∃ Z,Z=(Builtin.zeroCells zv.cells (n - (i+(n - j)))).toList:=⟨_,rfl⟩
 rw[<-O1] at P6 ⊢
 clear G3 xB hlen uX fM J4 kC O0 hZ O1 A7 vu
 obtain ⟨_,_,FG⟩:=L.f45
 go_enter FG,SlBodyN.n45_ntmps ρ
 go_wp2_with fail
 go_region_law_o (refine step_append_room rfl (.tmp 22) (.tmp 25) (ρ.t 22) rfl (ρ.t 23) inf k t22 J3 OZ b off i c (by simp[Act.eval,Act.put]) A (n - j) (c - j) news (by simp[Act.eval,Act.put]) s1.out P5.out s2.out (by omega) s3.out ?_;rw[<-hW.out])
 go_wp2
 go_ret
 exact ⟨rfl,rfl⟩
set_option maxHeartbeats 4000000 in
set_option maxRecDepth 1000000 in
theorem Ix (L:SlLaysE0.n45 P ρ) (b:Option Addr) (n c i:Nat) (w:World) (cI:i<=n) (gX:n<=c) (hm:c<=9223372036854775807) (hb:∀ ad,b=some ad->ad.spot=none) (wR:b=none->c=0) (k:Nat) (z23:∀ w,(Go.sizeOf (ρ.t 23)).run P w=.ok k w) :
  Calls P (ρ.f 45) #[.slice b n c,.int .i64 i,.int .i64 i] w λe w'=>e=.returned (.slice b n c)/\w'=w:=by
 have mixed:=L.mixed;have t0:=L.t0;have a0:=L.a0;have z0:=L.z0;have v0:=L.v0;have t3:=L.t3;have a3:=L.a3;have z3:=L.z3;have v3:=L.v3;have t4:=L.t4;have a4:=L.a4;have z4:=L.z4;have v4:=L.v4;have t22:=L.t22;have a22:=L.a22;have z22:=L.z22;have v22:=L.v22
 have RD:i<=c:=by omega
 obtain ⟨_,_,FG⟩:=L.f45
 cases b with
 | none=>
  have h0:=wR rfl
  subst h0
  have tj:n=0:=by omega
  subst tj
  have J3:i=0:=by omega
  subst J3
  go_enter FG,SlBodyN.n45_ntmps ρ
  go_wp2
  all_goals (go_ret;exact ⟨rfl,rfl⟩)
 | some ad=>
  obtain ⟨b,off,sp⟩:=ad
  have:=hb _ rfl
  simp only at this
  subst this
  go_enter FG,SlBodyN.n45_ntmps ρ
  go_wp2
  all_goals (go_ret;exact ⟨rfl,rfl⟩)
theorem P7 (w:World) {e:Ty} {i:TypeId} (hl:aq P e (.inl i)=true) (hz:e.lw=true) {inf:TypeInfo} {zv:Value} (h1:P.info? i=some inf) (Y:inf.zero=some zv):∀ n,∀ v ∈ (Builtin.zeroCells zv.cells n).toList,v.oneCell'=true:=by
 obtain ⟨L,hL⟩:=jT e hz
 obtain ⟨SX,z',i1,i2,i3,i4,i5,i6⟩:=nO (eh hl)
 rw[h1] at i1
 injection i1 with i1
 subst i1
 rw[Y] at i4
 injection i4 with i4
 subst i4
 have hc:=i6 L hL
 obtain ⟨r1,_,_⟩:=o3 (P:=P) (w:=w) (A:=λ_ _=>True) e hL hl
 grind [af.one,Builtin.zeroCells,Nat.mod_lt]
theorem Iy {w w':World} {A:Cells} {F0:FP} {e:Ty} {me:Md} {b cap:Nat} {vs:List e.den} {news:List Value} {Hi:Nat->FP} {F1:FP}
  (hw:Ext w w' (bj b 0 (cap*e.sz))) (gX:cap<=maxLen) (cy:cr w' b (cap*e.sz,vT e)) (hlen:List.length vs<=cap) (qX:Has w' b 0 news)
  (jG:∀ (i:Nat) (y:e.den),vs[i]?=some y->af P w A e me [] y ((news.drop (i*e.sz)).take e.sz) (Hi i))
  (hF:∀ b' i,bj b 0 (cap*e.sz) b' i+ao (List.length vs) Hi b' i<=F1 b' i) (hle:∀ b' i,F1 b' i<=F0 b' i) (h1:∀ b i,F0 b i<=1) (pI:∀ b i,1<=F0 b i->¬ A b i) (BH:∀ b i,1<=F0 b i\/A b i->b < w.heap.size) :
  af P w' A (.aa e) (.aa true me) [] vs [.slice (some ⟨b,0,none⟩) (List.length vs) cap] F1:=by
 simp only[af,hole,List.any_nil,Bool.false_eq_true,if_false,av,lz,Md.own,if_true,Md.e]
 refine ⟨some ⟨b,0,none⟩,cap,rfl,hlen,gX,(λe=>by cases e),λad e2=>?_⟩
 injection e2 with e2
 subst e2
 refine ⟨rfl,rfl,cy,Hi,hF,λi y hy=>?_⟩
 have hr:=jG i y hy
 have hi:=(List.getElem?_eq_some_iff.1 hy).1
 refine ⟨_,af.length _ hr,λj u hu=>?_,?_⟩
 ·rw[List.getElem?_take] at hu
  split at hu
  ·rw[List.getElem?_drop] at hu
   have:=qX _ u hu
   grind
  ·cases hu
 ·simp only[List.filterMap_nil]
  refine af.mono (P:=P) (λ_ _ h=>h) (λb' k ha u hu=>hw.cell b' k (BH b' k (.inr ha)) ?_ u hu) hw.lY e hr (λ_ _=>Nat.le_refl _) (λb' k hp u hu=>hw.cell b' k ?_ ?_ u hu)
  ·grind
  ·exact BH b' k (.inl (by grind [a_]))
  grind [a_]
def yK (e:Ty) (v:List e.den×Int×Int×Unit):Option (List e.den×Unit):=if 0<=v.2.1/\v.2.1<=v.2.2.1/\v.2.2.1<=(v.1.length:Int) then some (v.1.take v.2.1.toNat++v.1.drop v.2.2.1.toNat,()) else none
def J5 (i j:Int) (k:Nat):Bool:=decide (i<=(k:Int))&&decide ((k:Int) < j)
def BI (i j:Int):List Path->Bool
 | []=>true
 | [.idx k::_]=>J5 i j k
 | _=>false
theorem EL {i j:Int} {H:List Path} (h:BI i j H=true):hole H=false/\(j<=i->H=[])/\∀ t:Nat,((t:Int) < i\/j<=(t:Int))->H.filterMap (dy t)=[]:=by
 unfold BI at h
 split at h
 ·exact ⟨rfl,λ_=>rfl,λ_ _=>rfl⟩
 ·rename_i k q
  simp only[J5,Bool.and_eq_true,decide_eq_true_eq] at h
  refine ⟨rfl,λgB=>by omega,λt ht=>?_⟩
  grind [dy]
 ·cases h
theorem G4 (L:SlLaysE0.n45 P ρ) {e:Ty} {me:Md} (hl:aq P e (.inl (ρ.t 23))=true) (h1:1<=e.sz) (vu:e.lw=true) (he:l8 P (ρ.f 45) false) :
  Ok P (ρ.f 45) { ps:=[(.fh (.aa true me),.aa e),(.ro,.int .i64),(.ro,.int .i64)],rs:=[(.aa e,.aa true me)],F:=yK e,vj:=λv H=>BI v.2.1 v.2.2.1 H }:=by
 refine ⟨?_,he⟩
 intro w A F0 v xs eO hle pI BH EH out iQ
 obtain ⟨vs,i,j,⟨⟩⟩:=v
 obtain ⟨x,Gu,F1,F2,rfl,hF,⟨H,cs,hH,rfl,cH⟩,x2,TM,F3,F4,rfl,zo,⟨be,rfl,hi⟩,x3,RF,F5,F6,rfl,TN,⟨GC,rfl,hj⟩,yA⟩:=eO
 have yA:RF=[]:=yA
 subst yA
 have cH:af P w A (.aa e) (.aa true me) H vs cs F1:=cH
 have hH:BI i j H=true:=hH
 obtain ⟨RG,TO,tG⟩:=EL hH
 have hi:be=[.int .i64 i]:=hi
 have hj:GC=[.int .i64 j]:=hj
 subst hi;subst hj
 have iQ:yK e (vs,i,j,())=some out:=iQ
 unfold yK at iQ
 split at iQ
 rotate_left
 ·cases iQ
 rename_i hb
 obtain ⟨b1,b2,b3⟩:=hb
 simp only at b1 b2 b3 iQ
 injection iQ with iQ
 subst iQ
 obtain ⟨ni,rfl⟩:=Int.eq_ofNat_of_zero_le b1
 obtain ⟨nj,rfl⟩:=Int.eq_ofNat_of_zero_le (Int.le_trans b1 b2)
 simp only[Int.toNat_natCast]
 have gB:ni<=nj:=by omega
 have JY:nj<=List.length vs:=by omega
 obtain ⟨inf,zv,i1,i2,i3,i4,i5,_⟩:=nO (eh hl)
 have hz:∀ w,(zeroValue (ρ.t 23)).run P w=.ok zv w:=λw=>by simp[zeroValue,typeInfo,i1,i4]
 have z23:∀ w,(Go.sizeOf (ρ.t 23)).run P w=.ok e.sz w:=λw=>by simp[Go.sizeOf,typeInfo,i1,i2]
 obtain ⟨xa,cap,gY,Fi,r1,r2,r3,r4,r5,r6,r7,r8⟩:=xi RG (v:=vs) cH
 obtain ⟨c1,c2,c3,c4⟩:=r8 rfl
 subst r1
 have yG:cap<=9223372036854775807:=by grind [maxLen]
 have hx:(aZ (.aa e) [.slice xa (List.length vs) cap]::[aZ (.int .i64) [.int .i64 (ni:Int)],aZ (.int .i64) [.int .i64 (nj:Int)]]).toArray=#[.slice xa (List.length vs) cap,.int .i64 ni,.int .i64 nj]:=rfl
 show Calls P (ρ.f 45) (aZ (.aa e) [.slice xa (List.length vs) cap]::[aZ (.int .i64) [.int .i64 (ni:Int)],aZ (.int .i64) [.int .i64 (nj:Int)]]).toArray w _
 rw[hx]
 have EM:∀ (w':World) (rv:Value),Ext w w' F0->(∃ cs,rv=aZ (.aa e) cs/\af P w' A (.aa e) (.aa true me) [] (vs.take ni++vs.drop nj) cs F1) ->
   ∃ GW,Ending.returned rv=.returned GW/\Ext w w' F0/\∃ (A':Cells) (G GR GM:FP),(∀ b i,A b i->A' b i)/\(∀ b i,A' b i->A b i\/1<=F0 b i\/w.heap.size<=b)/\(∀ b i,1<=G b i->1<=F0 b i\/w.heap.size<=b)/\(∀ b i,G b i<=1)/\(∀ b i,1<=G b i->¬ A' b i)/\(∀ b i,1<=G b i\/A' b i->b < w'.heap.size)/\(∀ b i,GR b i+GM b i<=G b i) /\
   fj P w' A' [⟨.aa e,.aa true me,vs.take ni++vs.drop nj⟩] GW GR/\fY P w' A' [(.fh (.aa true me),.aa e),(.ro,.int .i64),(.ro,.int .i64)] () [aZ (.aa e) [.slice xa (List.length vs) cap],aZ (.int .i64) [.int .i64 (ni:Int)],aZ (.int .i64) [.int .i64 (nj:Int)]] GM:=λw' rv bI hr=>
  ⟨_,rfl,bI,A,F0,F1,λ_ _=>0,λ_ _ h=>h,λ_ _ h=>.inl h,λ_ _ h=>.inl h,hle,pI,λb i h=>Nat.lt_of_lt_of_le (BH b i h) bI.size,λb i=>by grind,hr,trivial⟩
 by_cases heq:ni=nj
 ·subst heq
  refine (Ix L xa (List.length vs) cap ni w JY c1 yG (λad di=>(c4 ad di).2.1) c3 e.sz z23).mono ?_
  rintro ex w' ⟨rfl,rfl⟩
  refine EM _ _ (Ext.refl _ _) ⟨_,(bp _ _ rfl).symm,?_⟩
  grind [List.take_append_drop]
 ·cases xa with
  | none=>grind
  | some ad=>
   obtain ⟨q1,q2,q3,q4⟩:=c4 ad rfl
   obtain ⟨_,d5⟩:=r3 ad rfl
   obtain ⟨b,off,sp⟩:=ad
   simp only at q1 q2 q3 q4 d5
   subst q1;subst q2
   have SY:List.length vs*e.sz<=cap*e.sz:=Nat.mul_le_mul_right _ c1
   have mL:∀ t,t < cap*e.sz->(w.cell? ⟨b,t,none⟩).isSome=true:=λt ht=>by
    obtain ⟨c,e',fr,w1,w2,w3⟩:=q3
    grind [World.cell?]
   have P8:=G0 L e.sz inf zv i1 i2 hz i5 (P7 w hl vu i1 i4) b 0 (List.length vs) cap ni nj gY w r4 (λt u hu=>lh (d5 t u hu) (r5 u (List.mem_of_getElem? hu))) (λt ht=>by rw[Nat.zero_add];exact q3.frozen (by grind)) r5 c1 yG (by omega) JY
   refine P8.mono ?_
   rintro ex w' ⟨rfl,hw⟩
   simp only[Nat.zero_add] at hw
   have qZ:List.length (vs.take ni++vs.drop nj)=ni+(List.length vs - nj):=by simp;omega
   have m1:ni*e.sz+(List.length vs - nj)*e.sz=(ni+(List.length vs - nj))*e.sz:=by rw[Nat.add_mul]
   have m2:(ni+(List.length vs - nj))*e.sz<=List.length vs*e.sz:=Nat.mul_le_mul_right _ (by omega)
   have m3:(gY.drop (nj*e.sz)).length=(List.length vs - nj)*e.sz:=by grind [Nat.sub_mul]
   have hZ:(Builtin.zeroCells zv.cells (List.length vs - (ni+(List.length vs - nj)))).toList.length=(List.length vs - (ni+(List.length vs - nj)))*e.sz:=by simp[Builtin.zeroCells,i5]
   have m4:(ni+(List.length vs - nj))*e.sz+(List.length vs - (ni+(List.length vs - nj)))*e.sz=List.length vs*e.sz:=by rw[<-Nat.add_mul];congr 1;omega
   have x1:=fS (b:=b) (o:=ni*e.sz) (gY.drop (nj*e.sz)) w.drew (ni*e.sz)
   have x2:=fS (b:=b) (o:=(ni+(List.length vs - nj))*e.sz) (Builtin.zeroCells zv.cells (List.length vs - (ni+(List.length vs - nj)))).toList (w.drew.setCells b (ni*e.sz) (gY.drop (nj*e.sz))) ((ni+(List.length vs - nj))*e.sz)
   have Bs:∀ b' t,bj b 0 (cap*e.sz) b' t=0->bj b (ni*e.sz) (gY.drop (nj*e.sz)).length b' t=0:=λb' t h0=>by
    simp only[bj] at h0 ⊢
    split at h0
    ·cases h0
    grind
   have mP:∀ b' t,bj b 0 (cap*e.sz) b' t=0->bj b ((ni+(List.length vs - nj))*e.sz) (Builtin.zeroCells zv.cells (List.length vs - (ni+(List.length vs - nj)))).toList.length b' t=0:=λb' t h0=>by
    simp only[bj] at h0 ⊢
    split at h0
    ·cases h0
    grind
   have bI:Ext w w' (bj b 0 (cap*e.sz)):=by
    rw[hw]
    exact (((v_ w).mono (λ_ _ _=>rfl)).trans (x1.mono Bs) (λ_ _ _ h=>h)).trans (x2.mono mP) (λ_ _ _ h=>h)
   refine EM w' _ (bI.mono λb' t h0=>by grind) ⟨[.slice (some ⟨b,0,none⟩) (ni+(List.length vs - nj)) cap],(bp _ _ rfl).symm,?_⟩
   rw[<-qZ]
   refine Iy (news:=gY.take (ni*e.sz)++gY.drop (nj*e.sz)) (Hi:=λt=>if t < ni then Fi t else Fi (nj+(t - ni))) (F0:=F0) bI c2 (bI.lY _ _ q3) (by grind) ?_ ?_ (λb' t=>?_) (λb' t=>by grind) hle pI BH
   ·intro t u hu
    rw[Nat.zero_add]
    have nu:(gY.take (ni*e.sz)).length=ni*e.sz:=by rw[List.length_take,r4];omega
    rw[hw]
    have PD:t < (ni+(List.length vs - nj))*e.sz:=by
     grind
    refine x2.cell b t ?_ ?_ u ?_
    ·have:=x1.size
     have hb:=q3.lt
     exact Nat.lt_of_lt_of_le hb x1.size
    ·grind [bj]
    ·by_cases ht:t < ni*e.sz
     ·rw[List.getElem?_append_left (by omega),List.getElem?_take,if_pos ht] at hu
      refine x1.cell b t q3.lt ?_ u ?_
      ·grind [bj]
      ·have:=d5 t u hu
       rw[Nat.zero_add] at this
       exact this
     ·rw[List.getElem?_append_right (by omega),nu] at hu
      have:=mI (w:=w.drew) (b:=b) (o:=ni*e.sz) (L:=gY.drop (nj*e.sz)) (λk hk=>by rw[m3] at hk;exact mL _ (by omega)) (λu hu=>r5 u (List.mem_of_mem_drop hu)) _ u hu
      rw[show ni*e.sz+(t - ni*e.sz)=t by omega] at this
      exact this
   ·have nu:(gY.take (ni*e.sz)).length=(vs.take ni).length*e.sz:=by grind [Nat.mul_le_mul_right]
    have hr:=wa (P:=P) (w:=w) (A:=A) (e:=e) (me:=me) (v:=vs.take ni) (y:=vs.drop nj) (Fi:=Fi) (Gi:=λt=>Fi (nj+t)) nu (λt z hz=>by
      rw[List.getElem?_take] at hz
      split at hz
      ·rename_i ht
       have:=r6 t z hz
       rw[tG t (.inl (by omega))] at this
       have h6:t*e.sz+e.sz<=ni*e.sz:=by rw[<-Nat.succ_mul];exact Nat.mul_le_mul_right _ (by omega)
       rw[List.drop_take,List.take_take,Nat.min_eq_left (by omega)]
       exact this
      ·cases hz) (λt z hz=>by
      rw[List.getElem?_drop] at hz
      have:=r6 (nj+t) z hz
      rw[tG (nj+t) (.inr (by omega))] at this
      rw[List.drop_drop,<- Nat.add_mul]
      exact this)
    grind
   ·rw[qZ]
    have s1:=Bb ni (List.length vs - nj) Fi (λt=>Fi (nj+t)) b' t
    have s2:=kH nj (List.length vs - nj) Fi b' t
    have s3:=y_ (List.length vs) Fi 0 ni (by omega) b' t
    have s4:=kH ni (nj - ni) Fi b' t
    rw[show ni+(nj - ni)=nj by omega] at s4
    rw[show nj+(List.length vs - nj)=List.length vs by omega] at s2
    grind
end
end OT
set_option maxRecDepth 100000
set_option linter.unusedVariables false
namespace OT
open Go Go.Proofs.Tryz
abbrev ax:Type:=((List UInt8)×Int×Unit)
abbrev bi:Ty:=(ba [(.aa u8),i64])
abbrev Row:Type:=(Int×Int×Int×(List UInt8)×Unit)
abbrev ak:Ty:=(ba [i64,i64,i64,.str])
abbrev Change:Type:=(Bool×Row×Bool×Row×Unit)
abbrev ay:Ty:=(ba [.bool,ak,.bool,ak])
abbrev Key:Type:=(Int×Int×Unit)
abbrev aF:Ty:=(ba [i64,i64])
abbrev Tx:Type:=(Int×(List Change)×(List Int)×(List Key)×Unit)
abbrev aC:Ty:=(ba [i64,(.aa ay),(.aa i64),(.aa aF)])
abbrev Plain:Type:=((List Row)×(List Tx)×Int×Unit)
abbrev bF:Ty:=(ba [(.aa ak),(.aa aC),i64])
abbrev dN:Type:=(Int×Int×Plain×Unit)
abbrev dD:Ty:=(ba [i64,i64,bF])
abbrev aK:Type:=(Int×Bool×Change×Unit)
abbrev bz:Ty:=(ba [i64,.bool,ay])
abbrev Op:Type:=(Int×Int×Row×Int×Unit)
abbrev e_:Ty:=(ba [i64,i64,ak,i64])
abbrev dt:Type:=(Int×(List Int)×(List Int)×Plain×Unit)
abbrev iZ:Ty:=(ba [i64,(.aa i64),(.aa i64),bF])
abbrev o7:Type:=(Int×(List Row)×Unit)
abbrev lJ:Ty:=(ba [i64,(.aa ak)])
abbrev ue:Type:=(Int×(List Tx)×Unit)
abbrev sJ:Ty:=(ba [i64,(.aa aC)])
abbrev o8:Type:=(Int×Int×Int×Int×Row×Unit)
abbrev CK:Ty:=(ba [i64,i64,i64,i64,ak])
abbrev gE:Type:=(Int×Int×o8×Unit)
abbrev Qq:Ty:=(ba [i64,i64,CK])
abbrev uf:Type:=(Int×(List UInt8)×Unit)
abbrev J6:Ty:=(ba [i64,(.aa u8)])
abbrev NA:Type:=(Int×(List uf)×(List (List UInt8))×Unit)
abbrev Mq:Ty:=(ba [i64,(.aa J6),(.aa (.aa u8))])
abbrev kU:Type:=((List (List UInt8))×(List uf)×Unit)
abbrev Qr:Ty:=(ba [(.aa (.aa u8)),(.aa J6)])
abbrev Seen:Type:=(Row×Int×Int×Bool×Int×Int×Unit)
abbrev SE:Ty:=(ba [ak,i64,i64,.bool,i64,i64])
abbrev NU:Type:=(Int×Int×(List UInt8)×Unit)
abbrev NB:Ty:=(ba [i64,i64,(.aa u8)])
abbrev Ln:Type:=(Int×(List Change)×Unit)
abbrev K5:Ty:=(ba [i64,(.aa ay)])
noncomputable def bd:TL:=[(2,i64),(29,ak),(24,(.aa ak)),(76,aC),(25,(.aa aC)),(45,ay),(53,(.aa ay)),(4,.bool),(31,e_),(73,(.aa i64)),(155,aF),(74,(.aa aF)),(9,.str),(27,bF),(70,bz),(35,dD),(96,(.map aF .bool)),(22,(.aa u8)),(38,lJ),(5,u8),(79,sJ),(140,bi),(142,iZ),(144,(.aa e_)),(177,(.aa .str)),(3,i64),(239,(.int .u64))]
theorem aM:(EK prog bd&&Ak prog bd)=true:=by kernel_rfl
namespace lm
abbrev Arg:Type:=(List UInt8)×Unit
abbrev Out:Type:=Bool×Unit
abbrev ps:PQ:=[(.ro,(.aa u8))]
noncomputable def D:FD:={ fn:=f6,tl:=bd,ps:=ps,rs:=[(.bool,(ag .bool))] }
noncomputable def ab (a:Arg):Option Out:=@lift Out λk=>D.W k a
noncomputable def p (J:Arg):Option Out:=some (decide ((1048576:Int) < (J.1.length:Int)),())
theorem ae (k:Nat) (J:Arg):@Eq (Option Out) (D.W k J) (p J):=by kernel_rfl
theorem ok:Ok prog 6 D.sig:=aw func6 aM (by kernel_rfl) (an _)
end lm
namespace iT
abbrev Arg:Type:=(List UInt8)×Unit
abbrev Out:Type:=ax×Unit
abbrev ps:PQ:=[(.ro,(.aa u8))]
noncomputable def D:FD:={ fn:=f25,tl:=bd,ps:=ps,rs:=[((.ptr bi),(.ptr true (ag bi)))] }
noncomputable def ab (a:Arg):Option Out:=@lift Out λk=>D.W k a
noncomputable def p (J:Arg):Option Out:=some ((J.1,(0:Int),()),())
theorem ae (k:Nat) (J:Arg):@Eq (Option Out) (D.W k J) (p J):=by kernel_rfl
theorem ok:Ok prog 25 D.sig:=aw func25 aM (by kernel_rfl) (an _)
end iT
namespace am
abbrev Arg:Type:=ax×Int×Unit
abbrev Out:Type:=Int×ax×Unit
abbrev ps:PQ:=[(.du (ag bi) (ag bi),bi),(.ro,i64)]
noncomputable def D:FD:={ fn:=f51,tl:=bd,ps:=ps,rs:=[(i64,(ag i64))],es:=[0],od:=[(8,[0,1,2,3,4,5,6,7,8,9,10,11,12,13,14,15]),(10,[0,1,2,3,4,5,6,7,8,9,10,11,12,13,14,15,16,17])] }
noncomputable def ab (a:Arg):Option Out:=@lift Out λk=>D.W k a
noncomputable def p (J:Arg):Option Out:=bif decide (J.2.1 < (1:Int)) then (some ((0:Int),(J.1.1,ai (J.1.2.1+(1:Int)),J.1.2.2),())) else bif decide ((J.1.1.length:Int)=(0:Int)) then (if J.2.1=0 then none else some ((ai ((ai ((ai (J.1.2.1+(1:Int))) - (1:Int)))*(7:Int))).tmod J.2.1,(J.1.1,ai (J.1.2.1+(1:Int)),J.1.2.2),())) else if (J.1.1.length:Int)=0 then none else if 0<=(ai ((ai (J.1.2.1+(1:Int))) - (1:Int))).tmod (J.1.1.length:Int) then ((J.1.1[((ai ((ai (J.1.2.1+(1:Int))) - (1:Int))).tmod (J.1.1.length:Int)).toNat]?).bind λx2=>if (J.1.1.length:Int)=0 then none else let j5:=λ(p4:Int)=>(if J.2.1=0 then none else some (p4.tmod J.2.1,(J.1.1,ai (J.1.2.1+(1:Int)),J.1.2.2),()):Option Out);bif decide ((200:Int) < J.2.1) then (if (J.1.1.length:Int)=0 then none else if 0<=(ai ((ai ((ai (J.1.2.1+(1:Int))) - (1:Int)))+(1:Int))).tmod (J.1.1.length:Int) then ((J.1.1[((ai ((ai ((ai (J.1.2.1+(1:Int))) - (1:Int)))+(1:Int))).tmod (J.1.1.length:Int)).toNat]?).bind λx3=>j5 (ai ((ai ((ai ((ai ((ai (x2.toNat:Int))+(ai ((ai ((ai ((ai (J.1.2.1+(1:Int))) - (1:Int))).tdiv (J.1.1.length:Int)))*(37:Int)))))*(251:Int)))+(ai ((ai (x3.toNat:Int))*(13:Int)))))+(ai ((ai (J.1.2.1+(1:Int))) - (1:Int)))))) else none) else j5 (ai ((ai (x2.toNat:Int))+(ai ((ai ((ai ((ai (J.1.2.1+(1:Int))) - (1:Int))).tdiv (J.1.1.length:Int)))*(37:Int)))))) else none
theorem ae (k:Nat) (J:Arg):@Eq (Option Out) (D.W k J) (p J):=by kernel_rfl
theorem ok:Ok prog 51 D.sig:=aw func51 aM (by kernel_rfl) (an _)
end am
namespace aR
abbrev Arg:Type:=ax×(List Int)×Unit
abbrev Out:Type:=Int×ax×Unit
abbrev ps:PQ:=[(.du (ag bi) (ag bi),bi),(.ro,(.aa i64))]
noncomputable def D:FD:={ fn:=f71,tl:=bd,ps:=ps,rs:=[(i64,(ag i64))],gl:=[(51,am.D.sig)],es:=[0] }
noncomputable def ab (a:Arg):Option Out:=@lift Out λk=>D.W k a
noncomputable def p (J:Arg):Option Out:=(am.ab (J.1,(J.2.1.length:Int),())).bind λr2=>if 0<=r2.1 then ((J.2.1[r2.1.toNat]?).bind λx3=>some (x3,r2.2.1,())) else none
theorem ae (k:Nat) (J:Arg):@Eq (Option Out) (D.W k J) (p J):=by kernel_rfl
theorem ok:Ok prog 71 D.sig:=aw func71 aM (by kernel_rfl) (fc am.ok (an _))
end aR
namespace bf
abbrev Arg:Type:=Int×Int×Int×Unit
abbrev Out:Type:=Bool×Unit
abbrev ps:PQ:=[(.ro,i64),(.ro,i64),(.ro,i64)]
noncomputable def D:FD:={ fn:=f76,tl:=bd,ps:=ps,rs:=[(.bool,(ag .bool))] }
noncomputable def ab (a:Arg):Option Out:=@lift Out λk=>D.W k a
noncomputable def p (J:Arg):Option Out:=bif decide (J.2.1<=J.1) then (some (decide (J.1<=J.2.2.1),())) else some (false,())
theorem ae (k:Nat) (J:Arg):@Eq (Option Out) (D.W k J) (p J):=by kernel_rfl
theorem ok:Ok prog 76 D.sig:=aw func76 aM (by kernel_rfl) (an _)
end bf
namespace fk
abbrev Arg:Type:=(List UInt8)×Unit
abbrev Out:Type:=Bool×Unit
abbrev ps:PQ:=[(.ro,.str)]
noncomputable def D:FD:={ fn:=f185,tl:=bd,ps:=ps,rs:=[(.bool,(ag .bool))],lv:=[(2,[0,3])],lx:=[(0,[0])] }
noncomputable def ab (a:Arg):Option Out:=@lift Out λk=>D.W k a
noncomputable def T0 (J:Arg) (U:Int):St:={ n:=23,sl:=[(0,.val .str J.1),(3,.val i64 U)],vr:=[],aA:=[] }
noncomputable def b0 (self:Int->Option Out) (e0:(Unit)->Option Out) (J:Arg) (U:Int):Option Out:=bif decide (U < (J.1.length:Int)) then (if 0<=U then ((J.1[U.toNat]?).bind λaT=>bif decide ((aT.toNat:Int) < (97:Int)) then (some (false,())) else if 0<=U then ((J.1[U.toNat]?).bind λug=>bif decide ((122:Int) < (ug.toNat:Int)) then (some (false,())) else self (ai (U+(1:Int)))) else none) else none) else e0 ()
noncomputable abbrev B0 (_:Nat):=b0
noncomputable def q0 (J:Arg) (cK:(Unit)):Option Out:=some (decide ((J.1.length:Int)<=(8:Int)),())
noncomputable abbrev Q0 (_:Nat):=q0
noncomputable def s0 (k:Nat) (J:Arg):(Int)->Option Out:=λU=>D.L k [1,0,1,0,0] [0,3] [] (aj 0 (aG (D.N k [1,1]) D.K0)) (T0 J U)
noncomputable def r0 (k:Nat) (J:Arg):(Int)->Option Out:=au (λw v=>B0 k w (Q0 k J) J v) k
theorem aO (k:Nat) (J:Arg):s0 k J=r0 k J:=
 funext λU=>aH _ _ _ (T0 J) _ (λrec v=>by kernel_rfl) k U
noncomputable def p (l0:(Int)->Option Out) (J:Arg):Option Out:=l0 (0:Int)
theorem ae (k:Nat) (J:Arg):@Eq (Option Out) (D.W k J) (p (r0 k J) J):=
 Eq.trans (b:=p (s0 k J) J) (by kernel_rfl) (by rw[aO])
theorem ok:Ok prog 185 D.sig:=aw func185 aM (by kernel_rfl) (an _)
end fk
namespace ct
abbrev Arg:Type:=Row×Unit
abbrev Out:Type:=Int×Unit
abbrev ps:PQ:=[(.ro,(.ptr ak))]
noncomputable def D:FD:={ fn:=f136,tl:=bd,ps:=ps,rs:=[(i64,(ag i64))],gl:=[(76,bf.D.sig),(185,fk.D.sig)] }
noncomputable def ab (a:Arg):Option Out:=@lift Out λk=>D.W k a
noncomputable def p (J:Arg):Option Out:=(bf.ab (J.1.1,(0:Int),(3:Int),())).bind λr2=>bif !r2.1 then (some ((3:Int),())) else (bf.ab (J.1.2.1,(1:Int),(99:Int),())).bind λr3=>bif !r3.1 then (some ((3:Int),())) else (bf.ab (J.1.2.2.1,(0:Int),(999:Int),())).bind λr4=>bif !r4.1 then (some ((3:Int),())) else (fk.ab (J.1.2.2.2.1,())).bind λr5=>bif !r5.1 then (some ((5:Int),())) else some ((0:Int),())
theorem ae (k:Nat) (J:Arg):@Eq (Option Out) (D.W k J) (p J):=by kernel_rfl
theorem ok:Ok prog 136 D.sig:=aw func136 aM (by kernel_rfl) (fc bf.ok (fc fk.ok (an _)))
end ct
namespace eZ
abbrev Arg:Type:=Row×Row×Unit
abbrev Out:Type:=Bool×Unit
abbrev ps:PQ:=[(.ro,(.ptr ak)),(.ro,(.ptr ak))]
noncomputable def D:FD:={ fn:=f152,tl:=bd,ps:=ps,rs:=[(.bool,(ag .bool))],od:=[(1,[0,1,2,3,4,5,6,7,8,9,10,11,12,13,14,15,16,17,18,19,20,21,22,23,24,25,26,27,28,29,30,31])] }
noncomputable def ab (a:Arg):Option Out:=@lift Out λk=>D.W k a
noncomputable def p (J:Arg):Option Out:=bif decide (J.1.1 < J.2.1.1) then (some (true,())) else bif decide (J.1.1=J.2.1.1) then (some (decide (J.1.2.1 < J.2.1.2.1),())) else some (false,())
theorem ae (k:Nat) (J:Arg):@Eq (Option Out) (D.W k J) (p J):=by kernel_rfl
theorem ok:Ok prog 152 D.sig:=aw func152 aM (by kernel_rfl) (an _)
end eZ
namespace c_
abbrev Arg:Type:=(List Row)×Unit
abbrev Out:Type:=Int×Unit
abbrev ps:PQ:=[(.ro,(.aa ak))]
noncomputable def D:FD:={ fn:=f97,tl:=bd,ps:=ps,rs:=[(i64,(ag i64))],gl:=[(136,ct.D.sig),(152,eZ.D.sig)],lv:=[(4,[0,3])],lx:=[(0,[])],od:=[(9,[0,1,2,3,4,5,6,7,8,9,10,11,12])] }
noncomputable def ab (a:Arg):Option Out:=@lift Out λk=>D.W k a
noncomputable def T0 (J:Arg) (U:Int):St:={ n:=34,sl:=[(0,.val (.aa ak) J.1),(3,.val i64 U)],vr:=[],aA:=[] }
noncomputable def b0 (self:Int->Option Out) (e0:(Unit)->Option Out) (J:Arg) (U:Int):Option Out:=bif decide (U < (J.1.length:Int)) then (if 0<=U then ((J.1[U.toNat]?).bind λaT=>(ct.ab (aT,())).bind λbO=>bif !decide (bO.1=(0:Int)) then (some (bO.1,())) else bif decide ((0:Int) < U) then (if 0<=ai (U - (1:Int)) then ((J.1[(ai (U - (1:Int))).toNat]?).bind λjV=>if 0<=U then ((J.1[U.toNat]?).bind λwm=>(eZ.ab (jV,wm,())).bind λmT=>bif !mT.1 then (some ((1:Int),())) else self (ai (U+(1:Int)))) else none) else none) else self (ai (U+(1:Int)))) else none) else e0 ()
noncomputable abbrev B0 (_:Nat):=b0
noncomputable def q0 (J:Arg) (EN:(Unit)):Option Out:=some ((0:Int),())
noncomputable abbrev Q0 (_:Nat):=q0
noncomputable def s0 (k:Nat) (J:Arg):(Int)->Option Out:=λU=>D.L k [1,1,0,1,0,0] [0,3] [] (aj 0 (aG (D.N k [1,1,1]) D.K0)) (T0 J U)
noncomputable def r0 (k:Nat) (J:Arg):(Int)->Option Out:=au (λw v=>B0 k w (Q0 k J) J v) k
theorem aO (k:Nat) (J:Arg):s0 k J=r0 k J:=
 funext λU=>aH _ _ _ (T0 J) _ (λrec v=>by kernel_rfl) k U
noncomputable def p (l0:(Int)->Option Out) (J:Arg):Option Out:=bif decide ((60:Int) < (J.1.length:Int)) then (some ((2:Int),())) else l0 (0:Int)
theorem ae (k:Nat) (J:Arg):@Eq (Option Out) (D.W k J) (p (r0 k J) J):=
 Eq.trans (b:=p (s0 k J) J) (by kernel_rfl) (by rw[aO])
theorem ok:Ok prog 97 D.sig:=aw func97 aM (by kernel_rfl) (fc ct.ok (fc eZ.ok (an _)))
end c_
namespace d8
abbrev Arg:Type:=Change×Unit
abbrev Out:Type:=Int×Int×Unit
abbrev ps:PQ:=[(.ro,(.ptr ay))]
noncomputable def D:FD:={ fn:=f137,tl:=bd,ps:=ps,rs:=[(i64,(ag i64)),(i64,(ag i64))],od:=[(2,[0,1,2,3,4,5,6,7,8,9,10,11]),(3,[0,1,2,3,4,5,6,7,8,9,10,11])] }
noncomputable def ab (a:Arg):Option Out:=@lift Out λk=>D.W k a
noncomputable def p (J:Arg):Option Out:=bif J.1.2.2.1 then (some (J.1.2.2.2.1.1,J.1.2.2.2.1.2.1,())) else some (J.1.2.1.1,J.1.2.1.2.1,())
theorem ae (k:Nat) (J:Arg):@Eq (Option Out) (D.W k J) (p J):=by kernel_rfl
theorem ok:Ok prog 137 D.sig:=aw func137 aM (by kernel_rfl) (an _)
end d8
namespace ey
abbrev Arg:Type:=Change×Unit
abbrev Out:Type:=Key×Unit
abbrev ps:PQ:=[(.ro,(.ptr ay))]
noncomputable def D:FD:={ fn:=f162,tl:=bd,ps:=ps,rs:=[(aF,(ag aF))],gl:=[(137,d8.D.sig)] }
noncomputable def ab (a:Arg):Option Out:=@lift Out λk=>D.W k a
noncomputable def p (J:Arg):Option Out:=(d8.ab (J.1,())).bind λr2=>some ((r2.1,r2.2.1,()),())
theorem ae (k:Nat) (J:Arg):@Eq (Option Out) (D.W k J) (p J):=by kernel_rfl
theorem ok:Ok prog 162 D.sig:=aw func162 aM (by kernel_rfl) (fc d8.ok (an _))
end ey
namespace cn
abbrev Arg:Type:=Tx×Key×Unit
abbrev Out:Type:=Bool×Unit
abbrev ps:PQ:=[(.ro,(.ptr aC)),(.ro,aF)]
noncomputable def D:FD:={ fn:=f163,tl:=bd,ps:=ps,rs:=[(.bool,(ag .bool))],lv:=[(2,[0,3,5])],lx:=[(0,[])],od:=[(4,[0,1,2,3,4,5,6,7,8])] }
noncomputable def ab (a:Arg):Option Out:=@lift Out λk=>D.W k a
noncomputable def T0 (J:Arg) (U:Int):St:={ n:=24,sl:=[(0,.cp aC J.1),(3,.box aF (ag aF) [] J.2.1),(5,.val i64 U)],vr:=[],aA:=[] }
noncomputable def b0 (self:Int->Option Out) (e0:(Unit)->Option Out) (J:Arg) (U:Int):Option Out:=bif decide (U < (J.1.2.2.2.1.length:Int)) then (if 0<=U then ((J.1.2.2.2.1[U.toNat]?).bind λaT=>bif (Ty.eq aF aT J.2.1) then (some (true,())) else self (ai (U+(1:Int)))) else none) else e0 ()
noncomputable abbrev B0 (_:Nat):=b0
noncomputable def q0 (J:Arg) (sK:(Unit)):Option Out:=some (false,())
noncomputable abbrev Q0 (_:Nat):=q0
noncomputable def s0 (k:Nat) (J:Arg):(Int)->Option Out:=λU=>D.L k [1,0,1,0,0] [0,3,5] [] (aj 0 (aG (D.N k [1,1]) D.K0)) (T0 J U)
noncomputable def r0 (k:Nat) (J:Arg):(Int)->Option Out:=au (λw v=>B0 k w (Q0 k J) J v) k
theorem aO (k:Nat) (J:Arg):s0 k J=r0 k J:=
 funext λU=>aH _ _ _ (T0 J) _ (λrec v=>by kernel_rfl) k U
noncomputable def p (l0:(Int)->Option Out) (J:Arg):Option Out:=l0 (0:Int)
theorem ae (k:Nat) (J:Arg):@Eq (Option Out) (D.W k J) (p (r0 k J) J):=
 Eq.trans (b:=p (s0 k J) J) (by kernel_rfl) (by rw[aO])
theorem ok:Ok prog 163 D.sig:=aw func163 aM (by kernel_rfl) (an _)
end cn
namespace ga
abbrev Arg:Type:=Change×Unit
abbrev Out:Type:=Int×Unit
abbrev ps:PQ:=[(.ro,(.ptr ay))]
noncomputable def D:FD:={ fn:=f65,tl:=bd,ps:=ps,rs:=[(i64,(ag i64))],gl:=[(136,ct.D.sig)],od:=[(1,[0,1,2,3,4,5,6,7,8,9,10,11,12,13,14,15,16,17,18,19,20,21,22,23,24,25,26,27,28,29,30,31,32,33,34,35,36,37,38,39,40,41,42,43,44,45,46,47,48,49])] }
noncomputable def ab (a:Arg):Option Out:=@lift Out λk=>D.W k a
noncomputable def p (J:Arg):Option Out:=let j5:Option Out:=bif J.1.1 then ((ct.ab (J.1.2.1,())).bind λr6=>bif !decide (r6.1=(0:Int)) then (some (r6.1,())) else bif J.1.2.2.1 then ((ct.ab (J.1.2.2.2.1,())).bind λr8=>some (r8.1,())) else some ((0:Int),())) else bif J.1.2.2.1 then ((ct.ab (J.1.2.2.2.1,())).bind λr9=>some (r9.1,())) else some ((0:Int),());bif !J.1.1 then (bif !J.1.2.2.1 then (some ((1:Int),())) else bif J.1.1 then (bif J.1.2.2.1 then (bif !decide (J.1.2.1.1=J.1.2.2.2.1.1) then (some ((1:Int),())) else bif !decide (J.1.2.1.2.1=J.1.2.2.2.1.2.1) then (some ((1:Int),())) else j5) else j5) else j5) else bif J.1.1 then (bif J.1.2.2.1 then (bif !decide (J.1.2.1.1=J.1.2.2.2.1.1) then (some ((1:Int),())) else bif !decide (J.1.2.1.2.1=J.1.2.2.2.1.2.1) then (some ((1:Int),())) else j5) else j5) else j5
theorem ae (k:Nat) (J:Arg):@Eq (Option Out) (D.W k J) (p J):=by kernel_rfl
theorem ok:Ok prog 65 D.sig:=aw func65 aM (by kernel_rfl) (fc ct.ok (an _))
end ga
namespace gZ
abbrev Arg:Type:=Change×Unit
abbrev Out:Type:=Int×Unit
abbrev ps:PQ:=[(.ro,(.ptr ay))]
noncomputable def D:FD:={ fn:=f196,tl:=bd,ps:=ps,rs:=[(i64,(ag i64))],gl:=[(65,ga.D.sig)],od:=[(4,[0,1,2,3,4,5,6,7,8,9,10,11,12,13,14,15,16,17,18,19,20])] }
noncomputable def ab (a:Arg):Option Out:=@lift Out λk=>D.W k a
noncomputable def p (J:Arg):Option Out:=(ga.ab (J.1,())).bind λr2=>bif !decide (r2.1=(0:Int)) then (some (r2.1,())) else bif J.1.1 then (bif J.1.2.2.1 then (bif (Ty.eq ak J.1.2.1 J.1.2.2.2.1) then (some ((1:Int),())) else some ((0:Int),())) else some ((0:Int),())) else some ((0:Int),())
theorem ae (k:Nat) (J:Arg):@Eq (Option Out) (D.W k J) (p J):=by kernel_rfl
theorem ok:Ok prog 196 D.sig:=aw func196 aM (by kernel_rfl) (fc ga.ok (an _))
end gZ
namespace ez
abbrev Arg:Type:=Tx×Unit
abbrev Out:Type:=Int×Unit
abbrev ps:PQ:=[(.ro,(.ptr aC))]
noncomputable def D:FD:={ fn:=f153,tl:=bd,ps:=ps,rs:=[(i64,(ag i64))],gl:=[(162,ey.D.sig),(163,cn.D.sig),(196,gZ.D.sig)],lv:=[(2,[0,3])],lx:=[(0,[])] }
noncomputable def ab (a:Arg):Option Out:=@lift Out λk=>D.W k a
noncomputable def T0 (J:Arg) (U:Int):St:={ n:=34,sl:=[(0,.cp aC J.1),(3,.val i64 U)],vr:=[],aA:=[] }
noncomputable def b0 (self:Int->Option Out) (e0:(Unit)->Option Out) (J:Arg) (U:Int):Option Out:=bif decide (U < (J.1.2.1.length:Int)) then (if 0<=U then ((J.1.2.1[U.toNat]?).bind λaT=>(gZ.ab (aT,())).bind λbO=>bif !decide (bO.1=(0:Int)) then (some (bO.1,())) else if 0<=U then ((J.1.2.1[U.toNat]?).bind λjV=>(ey.ab (jV,())).bind λig=>(cn.ab (J.1,ig.1,())).bind λmT=>bif !mT.1 then (some ((8:Int),())) else self (ai (U+(1:Int)))) else none) else none) else e0 ()
noncomputable abbrev B0 (_:Nat):=b0
noncomputable def q0 (J:Arg) (EN:(Unit)):Option Out:=some ((0:Int),())
noncomputable abbrev Q0 (_:Nat):=q0
noncomputable def s0 (k:Nat) (J:Arg):(Int)->Option Out:=λU=>D.L k [1,0,1,0,0] [0,3] [] (aj 0 (aG (D.N k [1,1]) D.K0)) (T0 J U)
noncomputable def r0 (k:Nat) (J:Arg):(Int)->Option Out:=au (λw v=>B0 k w (Q0 k J) J v) k
theorem aO (k:Nat) (J:Arg):s0 k J=r0 k J:=
 funext λU=>aH _ _ _ (T0 J) _ (λrec v=>by kernel_rfl) k U
noncomputable def p (l0:(Int)->Option Out) (J:Arg):Option Out:=l0 (0:Int)
theorem ae (k:Nat) (J:Arg):@Eq (Option Out) (D.W k J) (p (r0 k J) J):=
 Eq.trans (b:=p (s0 k J) J) (by kernel_rfl) (by rw[aO])
theorem ok:Ok prog 153 D.sig:=aw func153 aM (by kernel_rfl) (fc ey.ok (fc cn.ok (fc gZ.ok (an _))))
end ez
namespace jn
abbrev Arg:Type:=Key×Unit
abbrev Out:Type:=Bool×Unit
abbrev ps:PQ:=[(.ro,(.ptr aF))]
noncomputable def D:FD:={ fn:=f197,tl:=bd,ps:=ps,rs:=[(.bool,(ag .bool))],gl:=[(76,bf.D.sig)] }
noncomputable def ab (a:Arg):Option Out:=@lift Out λk=>D.W k a
noncomputable def p (J:Arg):Option Out:=(bf.ab (J.1.1,(0:Int),(3:Int),())).bind λr2=>bif r2.1 then ((bf.ab (J.1.2.1,(1:Int),(99:Int),())).bind λr3=>some (r3.1,())) else some (false,())
theorem ae (k:Nat) (J:Arg):@Eq (Option Out) (D.W k J) (p J):=by kernel_rfl
theorem ok:Ok prog 197 D.sig:=aw func197 aM (by kernel_rfl) (fc bf.ok (an _))
end jn
namespace a9
abbrev Arg:Type:=Tx×Unit
abbrev Out:Type:=Int×Unit
abbrev ps:PQ:=[(.ro,(.ptr aC))]
noncomputable def D:FD:={ fn:=f154,tl:=bd,ps:=ps,rs:=[(i64,(ag i64))],gl:=[(76,bf.D.sig),(197,jn.D.sig)],lv:=[(4,[0,3]),(9,[0,4]),(14,[0,4,5])],lx:=[(0,[0]),(2,[]),(4,[0,4])],od:=[(6,[0,1,2,3,4,5,6,7,8,9,10,11,12,13,14,15,16,17,18,19,20,21,22,23,24,25,26,27,28,29,30,31,32,33,34,35]),(16,[0,1,2,3,4,5,6,7,8,9,10,11,12,13,14])],ar:=[(6,[3,6,10,21,24,28,32])] }
noncomputable def ab (a:Arg):Option Out:=@lift Out λk=>D.W k a
noncomputable def T0 (J:Arg) (U:Int):St:={ n:=102,sl:=[(0,.cp aC J.1),(3,.val i64 U)],vr:=[],aA:=[] }
noncomputable def S0 (rec:RT Out) (J:Arg):(Int)->Option Out:=λU=>rec (T0 J U)
noncomputable def cV (K:KT Out) (J:Arg):(Unit)->Option Out:=λz=>K (.exit 0) ({ n:=102,sl:=[(0,.cp aC J.1)],vr:=[],aA:=[] })
noncomputable def b0 (self:Int->Option Out) (e0:(Unit)->Option Out) (J:Arg) (U:Int):Option Out:=bif decide (U < (J.1.2.2.1.length:Int)) then (if 0<=U then ((J.1.2.2.1[U.toNat]?).bind λaT=>(bf.ab (aT,(0:Int),(J.1.2.1.length:Int),())).bind λbO=>bif !bO.1 then (some ((3:Int),())) else bif decide ((0:Int) < U) then (if 0<=U then ((J.1.2.2.1[U.toNat]?).bind λjV=>if 0<=ai (U - (1:Int)) then ((J.1.2.2.1[(ai (U - (1:Int))).toNat]?).bind λwm=>bif decide (jV < wm) then (some ((3:Int),())) else self (ai (U+(1:Int)))) else none) else none) else self (ai (U+(1:Int)))) else none) else e0 ()
noncomputable abbrev B0 (_:Nat):=b0
theorem i7 (k:Nat) (rec:RT Out) (K:KT Out) (J:Arg) (U:Int):D.N k [1,1,0,1,0,0] (T0 J U) (fq rec (dx [0,3] []) K)=b0 (S0 rec J) (cV K J) J U:=by kernel_rfl
noncomputable def T1 (J:Arg) (cT:Tx×Int):St:={ n:=102,sl:=[(0,.cp aC cT.1),(4,.val i64 cT.2)],vr:=[],aA:=[] }
noncomputable def S1 (rec:RT Out) (J:Arg):(Tx×Int)->Option Out:=λcT=>rec (T1 J cT)
noncomputable def fK (K:KT Out) (J:Arg):(Unit)->Option Out:=λz=>K (.exit 2) ({ n:=102,sl:=[],vr:=[],aA:=[] })
noncomputable def T2 (J:Arg) (ft:Tx) (dg:Int) (nR:Int):St:={ n:=102,sl:=[(0,.cp aC ft),(4,.val i64 dg),(5,.val i64 nR)],vr:=[],aA:=[] }
noncomputable def b2 (self:Int->Option Out) (e4:(Unit)->Option Out) (J:Arg) (ft:Tx) (dg:Int) (nR:Int):Option Out:=bif decide (nR < dg) then (if 0<=nR then ((ft.2.2.2.1[nR.toNat]?).bind λEO=>if 0<=dg then ((ft.2.2.2.1[dg.toNat]?).bind λNV=>bif (Ty.eq aF EO NV) then (some ((6:Int),())) else self (ai (nR+(1:Int)))) else none) else none) else e4 ()
noncomputable abbrev B2 (_:Nat):=b2
noncomputable def q1 (self:(Tx×Int)->Option Out) (e2:(Unit)->Option Out) (J:Arg) (ft:Tx) (dg:Int) (u0:(Unit)):Option Out:=self (ft,ai (dg+(1:Int)))
noncomputable abbrev Q1 (_:Nat):=q1
noncomputable def s2 (k:Nat) (rec:RT Out) (K:KT Out) (J:Arg):Tx->Int->(Int)->Option Out:=λft dg=>λnR=>D.L k [1,1,1,0,1,0,0,1,0,0,1,1,0,0] [0,4,5] [] (aj 4 (aj 3 (aG (D.N k [1,1,1,0,1,0,0,1,1]) (fq rec (dx [0,4] []) K)))) (T2 J ft dg nR)
noncomputable def r2 (k:Nat) (self:(Tx×Int)->Option Out) (e2:(Unit)->Option Out) (J:Arg):Tx->Int->(Int)->Option Out:=λft dg=>au (λw v=>B2 k w (Q1 k self e2 J ft dg) J ft dg v) k
theorem o9 (k:Nat) (rec:RT Out) (K:KT Out) (J:Arg):s2 k rec K J=r2 k (S1 rec J) (fK K J) J:=
 funext λft=>funext λdg=>funext λnR=>aH _ _ _ (T2 J ft dg) _ (λrec v=>by kernel_rfl) k nR
noncomputable def b1 (self:(Tx×Int)->Option Out) (e2:(Unit)->Option Out) (l2:Tx->Int->(Int)->Option Out) (J:Arg) (cT:Tx×Int):Option Out:=bif decide (cT.2 < (cT.1.2.2.2.1.length:Int)) then (if 0<=cT.2 then ((cT.1.2.2.2.1[cT.2.toNat]?).bind λnS=>(jn.ab (nS,())).bind λxC=>bif !xC.1 then (some ((3:Int),())) else l2 cT.1 cT.2 (0:Int)) else none) else e2 ()
noncomputable def B1 (k:Nat) (self:(Tx×Int)->Option Out) (e2:(Unit)->Option Out) (J:Arg) (cT:Tx×Int):Option Out:=b1 self e2 (r2 k self e2 J) J cT
theorem o_ (k:Nat) (rec:RT Out) (K:KT Out) (J:Arg) (cT:Tx×Int):D.N k [1,1,1,0,1,0,0] (T1 J cT) (fq rec (dx [0,4] []) K)=B1 k (S1 rec J) (fK K J) J cT:=
 Eq.trans (b:=b1 (S1 rec J) (fK K J) (s2 k rec K J) J cT) (by kernel_rfl) (by rw[o9];rfl)
noncomputable def q2 (J:Arg) (EP:(Unit)):Option Out:=some ((0:Int),())
noncomputable abbrev Q2 (_:Nat):=q2
theorem xD (k:Nat) (J:Arg) (EP:(Unit)):fK (aj 2 (aG (D.N k [1,1,1,1]) D.K0)) J EP=q2 J EP:=by kernel_rfl
noncomputable def s1 (k:Nat) (J:Arg):(Tx×Int)->Option Out:=λcT=>D.L k [1,1,1,0,1,0,0] [0,4] [] (aj 2 (aG (D.N k [1,1,1,1]) D.K0)) (T1 J cT)
noncomputable def r1 (k:Nat) (J:Arg):(Tx×Int)->Option Out:=au (λw v=>B1 k w (Q2 k J) J v) k
theorem i9 (k:Nat) (J:Arg):s1 k J=r1 k J:=by
 funext cT;
 have Y:fK (aj 2 (aG (D.N k [1,1,1,1]) D.K0)) J=Q2 k J:=funext λz=>xD k J z
 refine (aH _ _ _ (T1 J) (λself v=>B1 k self (fK (aj 2 (aG (D.N k [1,1,1,1]) D.K0)) J) J v) (λrec v=>o_ k rec (aj 2 (aG (D.N k [1,1,1,1]) D.K0)) J v) k cT).trans ?_
 rw[Y]
 rfl
noncomputable def q0 (l1:(Tx×Int)->Option Out) (J:Arg) (jW:(Unit)):Option Out:=l1 (J.1,(0:Int))
noncomputable def Q0 (k:Nat) (J:Arg) (jW:(Unit)):Option Out:=q0 (r1 k J) J jW
theorem mU (k:Nat) (J:Arg) (jW:(Unit)):cV (aj 0 (aG (D.N k [1,1,1]) D.K0)) J jW=Q0 k J jW:=
 Eq.trans (b:=q0 (s1 k J) J jW) (by kernel_rfl) (by rw[i9];rfl)
noncomputable def s0 (k:Nat) (J:Arg):(Int)->Option Out:=λU=>D.L k [1,1,0,1,0,0] [0,3] [] (aj 0 (aG (D.N k [1,1,1]) D.K0)) (T0 J U)
noncomputable def r0 (k:Nat) (J:Arg):(Int)->Option Out:=au (λw v=>B0 k w (Q0 k J) J v) k
theorem aO (k:Nat) (J:Arg):s0 k J=r0 k J:=by
 funext U;
 have h0:cV (aj 0 (aG (D.N k [1,1,1]) D.K0)) J=Q0 k J:=funext λz=>mU k J z
 refine (aH _ _ _ (T0 J) (λself v=>B0 k self (cV (aj 0 (aG (D.N k [1,1,1]) D.K0)) J) J v) (λrec v=>i7 k rec (aj 0 (aG (D.N k [1,1,1]) D.K0)) J v) k U).trans ?_
 rw[h0]
 rfl
noncomputable def p (l0:(Int)->Option Out) (J:Arg):Option Out:=bif decide ((8:Int) < (J.1.2.2.1.length:Int)) then (some ((2:Int),())) else bif decide ((12:Int) < (J.1.2.2.2.1.length:Int)) then (some ((2:Int),())) else l0 (0:Int)
theorem ae (k:Nat) (J:Arg):@Eq (Option Out) (D.W k J) (p (r0 k J) J):=
 Eq.trans (b:=p (s0 k J) J) (by kernel_rfl) (by rw[aO])
theorem ok:Ok prog 154 D.sig:=aw func154 aM (by kernel_rfl) (fc bf.ok (fc jn.ok (an _)))
end a9
namespace eR
abbrev Arg:Type:=(List Tx)×Key×Unit
abbrev Out:Type:=Int×Unit
abbrev ps:PQ:=[(.ro,(.aa aC)),(.ro,aF)]
noncomputable def D:FD:={ fn:=f198,tl:=bd,ps:=ps,rs:=[(i64,(ag i64))],gl:=[(163,cn.D.sig)],lv:=[(2,[0,3,5])],lx:=[(0,[])],od:=[(4,[0,1,2,3,4])] }
noncomputable def ab (a:Arg):Option Out:=@lift Out λk=>D.W k a
noncomputable def T0 (J:Arg) (U:Int):St:={ n:=22,sl:=[(0,.val (.aa aC) J.1),(3,.box aF (ag aF) [] J.2.1),(5,.val i64 U)],vr:=[],aA:=[] }
noncomputable def b0 (self:Int->Option Out) (e0:(Unit)->Option Out) (J:Arg) (U:Int):Option Out:=bif decide (U < (J.1.length:Int)) then (if 0<=U then ((J.1[U.toNat]?).bind λaT=>(cn.ab (aT,J.2.1,())).bind λbO=>bif bO.1 then (if 0<=U then ((J.1[U.toNat]?).bind λjV=>some (jV.1,())) else none) else self (ai (U+(1:Int)))) else none) else e0 ()
noncomputable abbrev B0 (_:Nat):=b0
noncomputable def q0 (J:Arg) (Mr:(Unit)):Option Out:=some ((0:Int),())
noncomputable abbrev Q0 (_:Nat):=q0
noncomputable def s0 (k:Nat) (J:Arg):(Int)->Option Out:=λU=>D.L k [1,0,1,0,0] [0,3,5] [] (aj 0 (aG (D.N k [1,1]) D.K0)) (T0 J U)
noncomputable def r0 (k:Nat) (J:Arg):(Int)->Option Out:=au (λw v=>B0 k w (Q0 k J) J v) k
theorem aO (k:Nat) (J:Arg):s0 k J=r0 k J:=
 funext λU=>aH _ _ _ (T0 J) _ (λrec v=>by kernel_rfl) k U
noncomputable def p (l0:(Int)->Option Out) (J:Arg):Option Out:=l0 (0:Int)
theorem ae (k:Nat) (J:Arg):@Eq (Option Out) (D.W k J) (p (r0 k J) J):=
 Eq.trans (b:=p (s0 k J) J) (by kernel_rfl) (by rw[aO])
theorem ok:Ok prog 198 D.sig:=aw func198 aM (by kernel_rfl) (fc cn.ok (an _))
end eR
namespace bG
abbrev Arg:Type:=(List Tx)×Unit
abbrev Out:Type:=Bool×Unit
abbrev ps:PQ:=[(.ro,(.aa aC))]
noncomputable def D:FD:={ fn:=f155,tl:=bd,ps:=ps,rs:=[(.bool,(ag .bool))],gl:=[(198,eR.D.sig)],lv:=[(2,[0,3]),(5,[0,3,4])],lx:=[(0,[]),(2,[0,3])],od:=[(7,[0,1,2,3,4,5,6,7,8,10,11,12,13,14,9,15])] }
noncomputable def ab (a:Arg):Option Out:=@lift Out λk=>D.W k a
noncomputable def T0 (J:Arg) (U:(List Tx)×Int):St:={ n:=37,sl:=[(0,.val (.aa aC) U.1),(3,.val i64 U.2)],vr:=[],aA:=[] }
noncomputable def S0 (rec:RT Out) (J:Arg):((List Tx)×Int)->Option Out:=λU=>rec (T0 J U)
noncomputable def cV (K:KT Out) (J:Arg):(Unit)->Option Out:=λz=>K (.exit 0) ({ n:=37,sl:=[],vr:=[],aA:=[] })
noncomputable def T1 (J:Arg) (jX:List Tx) (cB:Int) (nT:Int):St:={ n:=37,sl:=[(0,.val (.aa aC) jX),(3,.val i64 cB),(4,.val i64 nT)],vr:=[],aA:=[] }
noncomputable def b1 (self:Int->Option Out) (e2:(Unit)->Option Out) (J:Arg) (jX:List Tx) (cB:Int) (nT:Int):Option Out:=if 0<=cB then ((jX[cB.toNat]?).bind λxE=>bif decide (nT < (xE.2.2.2.1.length:Int)) then (if 0<=cB then ((jX[cB.toNat]?).bind λsL=>if 0<=nT then ((sL.2.2.2.1[nT.toNat]?).bind λNW=>if 0<=cB then ((jX[cB.toNat]?).bind λnS=>(eR.ab (jX,NW,())).bind λxC=>bif !decide (xC.1=nS.1) then (some (false,())) else self (ai (nT+(1:Int)))) else none) else none) else none) else e2 ()) else none
noncomputable abbrev B1 (_:Nat):=b1
noncomputable def q0 (self:((List Tx)×Int)->Option Out) (e0:(Unit)->Option Out) (J:Arg) (jX:List Tx) (cB:Int) (sM:(Unit)):Option Out:=self (jX,ai (cB+(1:Int)))
noncomputable abbrev Q0 (_:Nat):=q0
noncomputable def s1 (k:Nat) (rec:RT Out) (K:KT Out) (J:Arg):(List Tx)->Int->(Int)->Option Out:=λjX cB=>λnT=>D.L k [1,0,1,0,0,1,0,0,1,0,0] [0,3,4] [] (aj 2 (aj 1 (aG (D.N k [1,0,1,0,0,1,1]) (fq rec (dx [0,3] []) K)))) (T1 J jX cB nT)
noncomputable def r1 (k:Nat) (self:((List Tx)×Int)->Option Out) (e0:(Unit)->Option Out) (J:Arg):(List Tx)->Int->(Int)->Option Out:=λjX cB=>au (λw v=>B1 k w (Q0 k self e0 J jX cB) J jX cB v) k
theorem i9 (k:Nat) (rec:RT Out) (K:KT Out) (J:Arg):s1 k rec K J=r1 k (S0 rec J) (cV K J) J:=
 funext λjX=>funext λcB=>funext λnT=>aH _ _ _ (T1 J jX cB) _ (λrec v=>by kernel_rfl) k nT
noncomputable def b0 (self:((List Tx)×Int)->Option Out) (e0:(Unit)->Option Out) (l1:(List Tx)->Int->(Int)->Option Out) (J:Arg) (U:(List Tx)×Int):Option Out:=bif decide (U.2 < (U.1.length:Int)) then (l1 U.1 U.2 (0:Int)) else e0 ()
noncomputable def B0 (k:Nat) (self:((List Tx)×Int)->Option Out) (e0:(Unit)->Option Out) (J:Arg) (U:(List Tx)×Int):Option Out:=b0 self e0 (r1 k self e0 J) J U
theorem i7 (k:Nat) (rec:RT Out) (K:KT Out) (J:Arg) (U:(List Tx)×Int):D.N k [1,0,1,0,0] (T0 J U) (fq rec (dx [0,3] []) K)=B0 k (S0 rec J) (cV K J) J U:=
 Eq.trans (b:=b0 (S0 rec J) (cV K J) (s1 k rec K J) J U) (by kernel_rfl) (by rw[i9];rfl)
noncomputable def q1 (J:Arg) (xF:(Unit)):Option Out:=some (true,())
noncomputable abbrev Q1 (_:Nat):=q1
theorem pa (k:Nat) (J:Arg) (xF:(Unit)):cV (aj 0 (aG (D.N k [1,1]) D.K0)) J xF=q1 J xF:=by kernel_rfl
noncomputable def s0 (k:Nat) (J:Arg):((List Tx)×Int)->Option Out:=λU=>D.L k [1,0,1,0,0] [0,3] [] (aj 0 (aG (D.N k [1,1]) D.K0)) (T0 J U)
noncomputable def r0 (k:Nat) (J:Arg):((List Tx)×Int)->Option Out:=au (λw v=>B0 k w (Q1 k J) J v) k
theorem aO (k:Nat) (J:Arg):s0 k J=r0 k J:=by
 funext U;
 have h0:cV (aj 0 (aG (D.N k [1,1]) D.K0)) J=Q1 k J:=funext λz=>pa k J z
 refine (aH _ _ _ (T0 J) (λself v=>B0 k self (cV (aj 0 (aG (D.N k [1,1]) D.K0)) J) J v) (λrec v=>i7 k rec (aj 0 (aG (D.N k [1,1]) D.K0)) J v) k U).trans ?_
 rw[h0]
 rfl
noncomputable def p (l0:((List Tx)×Int)->Option Out) (J:Arg):Option Out:=l0 (J.1,(0:Int))
theorem ae (k:Nat) (J:Arg):@Eq (Option Out) (D.W k J) (p (r0 k J) J):=
 Eq.trans (b:=p (s0 k J) J) (by kernel_rfl) (by rw[aO])
theorem ok:Ok prog 155 D.sig:=aw func155 aM (by kernel_rfl) (fc eR.ok (an _))
end bG
namespace cQ
abbrev Arg:Type:=(List Tx)×Unit
abbrev Out:Type:=Int×Unit
abbrev ps:PQ:=[(.ro,(.aa aC))]
noncomputable def D:FD:={ fn:=f156,tl:=bd,ps:=ps,rs:=[(i64,(ag i64))],lv:=[(3,[0,3,4])],lx:=[(0,[3])] }
noncomputable def ab (a:Arg):Option Out:=@lift Out λk=>D.W k a
noncomputable def T0 (J:Arg) (U:Int×Int):St:={ n:=20,sl:=[(0,.val (.aa aC) J.1),(3,.val i64 U.1),(4,.val i64 U.2)],vr:=[],aA:=[] }
noncomputable def b0 (self:(Int×Int)->Option Out) (e0:Int->Option Out) (J:Arg) (U:Int×Int):Option Out:=bif decide (U.2 < (J.1.length:Int)) then (if 0<=U.2 then ((J.1[U.2.toNat]?).bind λaT=>self (ai (U.1+(aT.2.1.length:Int)),ai (U.2+(1:Int)))) else none) else e0 U.1
noncomputable abbrev B0 (_:Nat):=b0
noncomputable def q0 (J:Arg) (sK:Int):Option Out:=some (sK,())
noncomputable abbrev Q0 (_:Nat):=q0
noncomputable def s0 (k:Nat) (J:Arg):(Int×Int)->Option Out:=λU=>D.L k [1,1,0,1,0,0] [0,3,4] [] (aj 0 (aG (D.N k [1,1,1]) D.K0)) (T0 J U)
noncomputable def r0 (k:Nat) (J:Arg):(Int×Int)->Option Out:=au (λw v=>B0 k w (Q0 k J) J v) k
theorem aO (k:Nat) (J:Arg):s0 k J=r0 k J:=
 funext λU=>aH _ _ _ (T0 J) _ (λrec v=>by kernel_rfl) k U
noncomputable def p (l0:(Int×Int)->Option Out) (J:Arg):Option Out:=l0 ((0:Int),(0:Int))
theorem ae (k:Nat) (J:Arg):@Eq (Option Out) (D.W k J) (p (r0 k J) J):=
 Eq.trans (b:=p (s0 k J) J) (by kernel_rfl) (by rw[aO])
theorem ok:Ok prog 156 D.sig:=aw func156 aM (by kernel_rfl) (an _)
end cQ
namespace co
abbrev Arg:Type:=(List Tx)×Unit
abbrev Out:Type:=Int×Unit
abbrev ps:PQ:=[(.ro,(.aa aC))]
noncomputable def D:FD:={ fn:=f98,tl:=bd,ps:=ps,rs:=[(i64,(ag i64))],gl:=[(76,bf.D.sig),(153,ez.D.sig),(154,a9.D.sig),(155,bG.D.sig),(156,cQ.D.sig)],lv:=[(4,[0,3])],lx:=[(0,[0])],od:=[(9,[0,1,2,3,4,5,6,7,8,9,10,11,12,13,14])] }
noncomputable def ab (a:Arg):Option Out:=@lift Out λk=>D.W k a
noncomputable def T0 (J:Arg) (U:Int):St:={ n:=56,sl:=[(0,.val (.aa aC) J.1),(3,.val i64 U)],vr:=[],aA:=[] }
noncomputable def b0 (self:Int->Option Out) (e0:(Unit)->Option Out) (J:Arg) (U:Int):Option Out:=bif decide (U < (J.1.length:Int)) then (if 0<=U then ((J.1[U.toNat]?).bind λaT=>(bf.ab (aT.1,(1:Int),(99:Int),())).bind λbO=>bif !bO.1 then (some ((3:Int),())) else let Ms:Option Out:=(ez.ab (aT,())).bind λEQ=>bif !decide (EQ.1=(0:Int)) then (some (EQ.1,())) else (a9.ab (aT,())).bind λlT=>bif !decide (lT.1=(0:Int)) then (some (lT.1,())) else self (ai (U+(1:Int)));bif decide ((0:Int) < U) then (if 0<=ai (U - (1:Int)) then ((J.1[(ai (U - (1:Int))).toNat]?).bind λjV=>bif decide (aT.1<=jV.1) then (some ((1:Int),())) else Ms) else none) else Ms) else none) else e0 ()
noncomputable abbrev B0 (_:Nat):=b0
noncomputable def q0 (J:Arg) (SZ:(Unit)):Option Out:=(bG.ab (J.1,())).bind λIz=>bif !Iz.1 then (some ((7:Int),())) else (cQ.ab (J.1,())).bind λIA=>bif decide ((12:Int) < IA.1) then (some ((2:Int),())) else some ((0:Int),())
noncomputable abbrev Q0 (_:Nat):=q0
noncomputable def s0 (k:Nat) (J:Arg):(Int)->Option Out:=λU=>D.L k [1,1,0,1,0,0] [0,3] [] (aj 0 (aG (D.N k [1,1,1]) D.K0)) (T0 J U)
noncomputable def r0 (k:Nat) (J:Arg):(Int)->Option Out:=au (λw v=>B0 k w (Q0 k J) J v) k
theorem aO (k:Nat) (J:Arg):s0 k J=r0 k J:=
 funext λU=>aH _ _ _ (T0 J) _ (λrec v=>by kernel_rfl) k U
noncomputable def p (l0:(Int)->Option Out) (J:Arg):Option Out:=bif decide ((4:Int) < (J.1.length:Int)) then (some ((2:Int),())) else l0 (0:Int)
theorem ae (k:Nat) (J:Arg):@Eq (Option Out) (D.W k J) (p (r0 k J) J):=
 Eq.trans (b:=p (s0 k J) J) (by kernel_rfl) (by rw[aO])
theorem ok:Ok prog 98 D.sig:=aw func98 aM (by kernel_rfl) (fc bf.ok (fc ez.ok (fc a9.ok (fc bG.ok (fc cQ.ok (an _))))))
end co
namespace aE
abbrev Arg:Type:=(List Row)×(List Tx)×Key×Unit
abbrev Out:Type:=Int×Unit
abbrev ps:PQ:=[(.ro,(.aa ak)),(.ro,(.aa aC)),(.ro,aF)]
noncomputable def D:FD:={ fn:=f99,tl:=bd,ps:=ps,rs:=[(i64,(ag i64))],lv:=[(3,[0,1,5,7,8]),(7,[1,5,7,9]),(14,[7,10,11]),(18,[7,10,11,12,13])],lx:=[(0,[1,5,7]),(2,[5,7]),(4,[10]),(6,[7,10,11,12])],od:=[(5,[0,1,2,3,4,5,6,7,8,9,10,11,12,13,14]),(20,[0,1,2,3,4,5,6,7,8,9])] }
noncomputable def ab (a:Arg):Option Out:=@lift Out λk=>D.W k a
noncomputable def T0 (J:Arg) (U:(List Key)×Int):St:={ n:=82,sl:=[(0,.val (.aa ak) J.1),(1,.val (.aa aC) J.2.1),(5,.box aF (ag aF) [] J.2.2.1),(7,.own (.aa aF) (av (.aa aF)) [] U.1),(8,.val i64 U.2)],vr:=[],aA:=[] }
noncomputable def S0 (rec:RT Out) (J:Arg):((List Key)×Int)->Option Out:=λU=>rec (T0 J U)
noncomputable def cV (K:KT Out) (J:Arg):(List Key)->Option Out:=λz=>K (.exit 0) ({ n:=82,sl:=[(1,.val (.aa aC) J.2.1),(5,.box aF (ag aF) [] J.2.2.1),(7,.own (.aa aF) (av (.aa aF)) [] z)],vr:=[],aA:=[] })
noncomputable def b0 (self:((List Key)×Int)->Option Out) (e0:(List Key)->Option Out) (J:Arg) (U:(List Key)×Int):Option Out:=bif decide (U.2 < (J.1.length:Int)) then (if 0<=U.2 then ((J.1[U.2.toNat]?).bind λaT=>if 0<=U.2 then ((J.1[U.2.toNat]?).bind λug=>if U.1.length+[(aT.1,ug.2.1,())].length<=bX then (self (U.1++[(aT.1,ug.2.1,())],ai (U.2+(1:Int)))) else none) else none) else none) else e0 U.1
noncomputable abbrev B0 (_:Nat):=b0
theorem i7 (k:Nat) (rec:RT Out) (K:KT Out) (J:Arg) (U:(List Key)×Int):D.N k [1,1,0,1,0,0] (T0 J U) (fq rec (dx [0,1,5,7,8] []) K)=b0 (S0 rec J) (cV K J) J U:=by kernel_rfl
noncomputable def T1 (J:Arg) (cc:(List Key)×Int):St:={ n:=82,sl:=[(1,.val (.aa aC) J.2.1),(5,.box aF (ag aF) [] J.2.2.1),(7,.own (.aa aF) (av (.aa aF)) [] cc.1),(9,.val i64 cc.2)],vr:=[],aA:=[] }
noncomputable def S1 (rec:RT Out) (J:Arg):((List Key)×Int)->Option Out:=λcc=>rec (T1 J cc)
noncomputable def fK (K:KT Out) (J:Arg):(List Key)->Option Out:=λz=>K (.exit 2) ({ n:=82,sl:=[(5,.box aF (ag aF) [] J.2.2.1),(7,.own (.aa aF) (av (.aa aF)) [] z)],vr:=[],aA:=[] })
noncomputable def b1 (self:((List Key)×Int)->Option Out) (e2:(List Key)->Option Out) (J:Arg) (cc:(List Key)×Int):Option Out:=bif decide (cc.2 < (J.2.1.length:Int)) then (if 0<=cc.2 then ((J.2.1[cc.2.toNat]?).bind λsL=>if cc.1.length+sL.2.2.2.1.length<=bX then (self (cc.1++sL.2.2.2.1,ai (cc.2+(1:Int)))) else none) else none) else e2 cc.1
noncomputable abbrev B1 (_:Nat):=b1
theorem o_ (k:Nat) (rec:RT Out) (K:KT Out) (J:Arg) (cc:(List Key)×Int):D.N k [1,1,1,0,1,0,0] (T1 J cc) (fq rec (dx [1,5,7,9] []) K)=b1 (S1 rec J) (fK K J) J cc:=by kernel_rfl
noncomputable def T2 (J:Arg) (gf:(List Key)×Int×Int):St:={ n:=82,sl:=[(7,.own (.aa aF) (av (.aa aF)) [] gf.1),(10,.val i64 gf.2.1),(11,.val i64 gf.2.2)],vr:=[],aA:=[] }
noncomputable def S2 (rec:RT Out) (J:Arg):((List Key)×Int×Int)->Option Out:=λgf=>rec (T2 J gf)
noncomputable def yL (K:KT Out) (J:Arg):Int->Option Out:=λz=>K (.exit 4) ({ n:=82,sl:=[(10,.val i64 z)],vr:=[],aA:=[] })
noncomputable def T3 (J:Arg) (jA:List Key) (lL:Int) (jB:Int) (jY:Bool×Int):St:={ n:=82,sl:=[(7,.own (.aa aF) (av (.aa aF)) [] jA),(10,.val i64 lL),(11,.val i64 jB),(12,.val .bool jY.1),(13,.val i64 jY.2)],vr:=[],aA:=[] }
noncomputable def b3 (self:(Bool×Int)->Option Out) (e6:Bool->Option Out) (J:Arg) (jA:List Key) (lL:Int) (jB:Int) (jY:Bool×Int):Option Out:=bif decide (jY.2 < jB) then (bif jY.1 then (if 0<=jY.2/\jY.2 < (jA.length:Int) then ((jA[jY.2.toNat]?).bind λNX=>if 0<=jB/\jB < (jA.length:Int) then ((jA[jB.toNat]?).bind λNY=>self (!(Ty.eq aF NX NY),ai (jY.2+(1:Int)))) else none) else none) else e6 jY.1) else e6 jY.1
noncomputable abbrev B3 (_:Nat):=b3
noncomputable def q2 (self:((List Key)×Int×Int)->Option Out) (e4:Int->Option Out) (J:Arg) (jA:List Key) (lL:Int) (jB:Int) (NZ:Bool):Option Out:=bif NZ then (self (jA,ai (lL+(1:Int)),ai (jB+(1:Int)))) else self (jA,lL,ai (jB+(1:Int)))
noncomputable abbrev Q2 (_:Nat):=q2
noncomputable def s3 (k:Nat) (rec:RT Out) (K:KT Out) (J:Arg):(List Key)->Int->Int->(Bool×Int)->Option Out:=λjA lL jB=>λjY=>D.L k [1,1,1,1,1,1,0,1,0,0,1,0,0,1,0,1,0,0] [7,10,11,12,13] [] (aj 6 (aG (D.N k [1,1,1,1,1,1,0,1,0,0,1,0,0,1,1]) (aj 5 (aG (D.N k [1,1,1,1,1,1,0,1,0,0,1,1]) (fq rec (dx [7,10,11] []) K))))) (T3 J jA lL jB jY)
noncomputable def r3 (k:Nat) (self:((List Key)×Int×Int)->Option Out) (e4:Int->Option Out) (J:Arg):(List Key)->Int->Int->(Bool×Int)->Option Out:=λjA lL jB=>au (λw v=>B3 k w (Q2 k self e4 J jA lL jB) J jA lL jB v) k
theorem N0 (k:Nat) (rec:RT Out) (K:KT Out) (J:Arg):s3 k rec K J=r3 k (S2 rec J) (yL K J) J:=
 funext λjA=>funext λlL=>funext λjB=>funext λjY=>aH _ _ _ (T3 J jA lL jB) _ (λrec v=>by kernel_rfl) k jY
noncomputable def b2 (self:((List Key)×Int×Int)->Option Out) (e4:Int->Option Out) (l3:(List Key)->Int->Int->(Bool×Int)->Option Out) (J:Arg) (gf:(List Key)×Int×Int):Option Out:=bif decide (gf.2.2 < (gf.1.length:Int)) then (l3 gf.1 gf.2.1 gf.2.2 (true,(0:Int))) else e4 gf.2.1
noncomputable def B2 (k:Nat) (self:((List Key)×Int×Int)->Option Out) (e4:Int->Option Out) (J:Arg) (gf:(List Key)×Int×Int):Option Out:=b2 self e4 (r3 k self e4 J) J gf
theorem N1 (k:Nat) (rec:RT Out) (K:KT Out) (J:Arg) (gf:(List Key)×Int×Int):D.N k [1,1,1,1,1,1,0,1,0,0] (T2 J gf) (fq rec (dx [7,10,11] []) K)=B2 k (S2 rec J) (yL K J) J gf:=
 Eq.trans (b:=b2 (S2 rec J) (yL K J) (s3 k rec K J) J gf) (by kernel_rfl) (by rw[N0];rfl)
noncomputable def q3 (J:Arg) (Al:Int):Option Out:=some (Al,())
noncomputable abbrev Q3 (_:Nat):=q3
theorem N2 (k:Nat) (J:Arg) (Al:Int):yL (aj 4 (aG (D.N k [1,1,1,1,1,1,1]) D.K0)) J Al=q3 J Al:=by kernel_rfl
noncomputable def s2 (k:Nat) (J:Arg):((List Key)×Int×Int)->Option Out:=λgf=>D.L k [1,1,1,1,1,1,0,1,0,0] [7,10,11] [] (aj 4 (aG (D.N k [1,1,1,1,1,1,1]) D.K0)) (T2 J gf)
noncomputable def r2 (k:Nat) (J:Arg):((List Key)×Int×Int)->Option Out:=au (λw v=>B2 k w (Q3 k J) J v) k
theorem o9 (k:Nat) (J:Arg):s2 k J=r2 k J:=by
 funext gf;
 have h4:yL (aj 4 (aG (D.N k [1,1,1,1,1,1,1]) D.K0)) J=Q3 k J:=funext λz=>N2 k J z
 refine (aH _ _ _ (T2 J) (λself v=>B2 k self (yL (aj 4 (aG (D.N k [1,1,1,1,1,1,1]) D.K0)) J) J v) (λrec v=>N1 k rec (aj 4 (aG (D.N k [1,1,1,1,1,1,1]) D.K0)) J v) k gf).trans ?_
 rw[h4]
 rfl
noncomputable def q1 (l2:((List Key)×Int×Int)->Option Out) (J:Arg) (nU:(List Key)):Option Out:=let J7:=λ(N3:List Key)=>(l2 (N3,(0:Int),(0:Int)):Option Out);bif !decide (J.2.2.1.2.1=(0:Int)) then (if nU.length+[J.2.2.1].length<=bX then (J7 (nU++[J.2.2.1])) else none) else J7 nU
noncomputable def Q1 (k:Nat) (J:Arg) (nU:(List Key)):Option Out:=q1 (r2 k J) J nU
theorem pa (k:Nat) (J:Arg) (nU:(List Key)):fK (aj 2 (aG (D.N k [1,1,1,1]) D.K0)) J nU=Q1 k J nU:=
 Eq.trans (b:=q1 (s2 k J) J nU) (by kernel_rfl) (by rw[o9];rfl)
noncomputable def s1 (k:Nat) (J:Arg):((List Key)×Int)->Option Out:=λcc=>D.L k [1,1,1,0,1,0,0] [1,5,7,9] [] (aj 2 (aG (D.N k [1,1,1,1]) D.K0)) (T1 J cc)
noncomputable def r1 (k:Nat) (J:Arg):((List Key)×Int)->Option Out:=au (λw v=>B1 k w (Q1 k J) J v) k
theorem i9 (k:Nat) (J:Arg):s1 k J=r1 k J:=by
 funext cc;
 have Y:fK (aj 2 (aG (D.N k [1,1,1,1]) D.K0)) J=Q1 k J:=funext λz=>pa k J z
 refine (aH _ _ _ (T1 J) (λself v=>B1 k self (fK (aj 2 (aG (D.N k [1,1,1,1]) D.K0)) J) J v) (λrec v=>o_ k rec (aj 2 (aG (D.N k [1,1,1,1]) D.K0)) J v) k cc).trans ?_
 rw[Y]
 rfl
noncomputable def q0 (l1:((List Key)×Int)->Option Out) (J:Arg) (cK:(List Key)):Option Out:=l1 (cK,(0:Int))
noncomputable def Q0 (k:Nat) (J:Arg) (cK:(List Key)):Option Out:=q0 (r1 k J) J cK
theorem mU (k:Nat) (J:Arg) (cK:(List Key)):cV (aj 0 (aG (D.N k [1,1,1]) D.K0)) J cK=Q0 k J cK:=
 Eq.trans (b:=q0 (s1 k J) J cK) (by kernel_rfl) (by rw[i9];rfl)
noncomputable def s0 (k:Nat) (J:Arg):((List Key)×Int)->Option Out:=λU=>D.L k [1,1,0,1,0,0] [0,1,5,7,8] [] (aj 0 (aG (D.N k [1,1,1]) D.K0)) (T0 J U)
noncomputable def r0 (k:Nat) (J:Arg):((List Key)×Int)->Option Out:=au (λw v=>B0 k w (Q0 k J) J v) k
theorem aO (k:Nat) (J:Arg):s0 k J=r0 k J:=by
 funext U;
 have h0:cV (aj 0 (aG (D.N k [1,1,1]) D.K0)) J=Q0 k J:=funext λz=>mU k J z
 refine (aH _ _ _ (T0 J) (λself v=>B0 k self (cV (aj 0 (aG (D.N k [1,1,1]) D.K0)) J) J v) (λrec v=>i7 k rec (aj 0 (aG (D.N k [1,1,1]) D.K0)) J v) k U).trans ?_
 rw[h0]
 rfl
noncomputable def p (l0:((List Key)×Int)->Option Out) (J:Arg):Option Out:=l0 (([]:List Key),(0:Int))
theorem ae (k:Nat) (J:Arg):@Eq (Option Out) (D.W k J) (p (r0 k J) J):=
 Eq.trans (b:=p (s0 k J) J) (by kernel_rfl) (by rw[aO])
theorem ok:Ok prog 99 D.sig:=aw func99 aM (by kernel_rfl) (an _)
end aE
namespace bY
abbrev Arg:Type:=(List Row)×Int×Int×Unit
abbrev Out:Type:=Int×Unit
abbrev ps:PQ:=[(.ro,(.aa ak)),(.ro,i64),(.ro,i64)]
noncomputable def D:FD:={ fn:=f121,tl:=bd,ps:=ps,rs:=[(i64,(ag i64))],lv:=[(2,[0,1,2,7])],lx:=[(0,[])] }
noncomputable def ab (a:Arg):Option Out:=@lift Out λk=>D.W k a
noncomputable def T0 (J:Arg) (U:Int):St:={ n:=31,sl:=[(0,.val (.aa ak) J.1),(1,.val i64 J.2.1),(2,.val i64 J.2.2.1),(7,.val i64 U)],vr:=[],aA:=[] }
noncomputable def b0 (self:Int->Option Out) (e0:(Unit)->Option Out) (J:Arg) (U:Int):Option Out:=bif decide (U < (J.1.length:Int)) then (if 0<=U then ((J.1[U.toNat]?).bind λaT=>bif decide (aT.1=J.2.1) then (if 0<=U then ((J.1[U.toNat]?).bind λug=>bif decide (ug.2.1=J.2.2.1) then (some (U,())) else self (ai (U+(1:Int)))) else none) else self (ai (U+(1:Int)))) else none) else e0 ()
noncomputable abbrev B0 (_:Nat):=b0
noncomputable def q0 (J:Arg) (cK:(Unit)):Option Out:=some ((-1:Int),())
noncomputable abbrev Q0 (_:Nat):=q0
noncomputable def s0 (k:Nat) (J:Arg):(Int)->Option Out:=λU=>D.L k [1,0,1,0,0] [0,1,2,7] [] (aj 0 (aG (D.N k [1,1]) D.K0)) (T0 J U)
noncomputable def r0 (k:Nat) (J:Arg):(Int)->Option Out:=au (λw v=>B0 k w (Q0 k J) J v) k
theorem aO (k:Nat) (J:Arg):s0 k J=r0 k J:=
 funext λU=>aH _ _ _ (T0 J) _ (λrec v=>by kernel_rfl) k U
noncomputable def p (l0:(Int)->Option Out) (J:Arg):Option Out:=l0 (0:Int)
theorem ae (k:Nat) (J:Arg):@Eq (Option Out) (D.W k J) (p (r0 k J) J):=
 Eq.trans (b:=p (s0 k J) J) (by kernel_rfl) (by rw[aO])
theorem ok:Ok prog 121 D.sig:=aw func121 aM (by kernel_rfl) (an _)
end bY
namespace cC
abbrev Arg:Type:=(List Row)×Row×Unit
abbrev Out:Type:=(List Row)×Unit
abbrev ps:PQ:=[(.ro,(.aa ak)),(.ro,ak)]
noncomputable def D:FD:={ fn:=f122,tl:=bd,ps:=ps,rs:=[((.aa ak),(av (.aa ak)))],gl:=[(152,eZ.D.sig)],lv:=[(2,[0,3,5])],lx:=[(0,[0,3,5])],od:=[(5,[0,1,4,5,6,2,3,7,8])] }
noncomputable def ab (a:Arg):Option Out:=@lift Out λk=>D.W k a
noncomputable def T0 (J:Arg) (U:Int):St:={ n:=32,sl:=[(0,.val (.aa ak) J.1),(3,.box ak (ag ak) [] J.2.1),(5,.val i64 U)],vr:=[],aA:=[] }
noncomputable def b0 (self:Int->Option Out) (e0:Int->Option Out) (J:Arg) (U:Int):Option Out:=bif decide (U < (J.1.length:Int)) then (if 0<=U then ((J.1[U.toNat]?).bind λaT=>(eZ.ab (aT,J.2.1,())).bind λbO=>bif bO.1 then (self (ai (U+(1:Int)))) else e0 U) else none) else e0 U
noncomputable abbrev B0 (_:Nat):=b0
noncomputable def q0 (J:Arg) (cK:Int):Option Out:=if 0<=cK/\cK<=(J.1.length:Int) then (if ([]:List Row).length+((J.1.take cK.toNat).drop 0).length<=bX then (let IB:=([]:List Row)++((J.1.take cK.toNat).drop 0);if 0<=cK/\cK<=(J.1.length:Int) then (if IB.length+[J.2.1].length<=bX then (if (IB++[J.2.1]).length+((J.1.take J.1.length).drop cK.toNat).length<=bX then (let IC:=(IB++[J.2.1])++((J.1.take J.1.length).drop cK.toNat);some (IC,())) else none) else none) else none) else none) else none
noncomputable abbrev Q0 (_:Nat):=q0
noncomputable def s0 (k:Nat) (J:Arg):(Int)->Option Out:=λU=>D.L k [1,1,0,0,0] [0,3,5] [] (aj 0 (aG (D.N k [1,1,1]) D.K0)) (T0 J U)
noncomputable def r0 (k:Nat) (J:Arg):(Int)->Option Out:=au (λw v=>B0 k w (Q0 k J) J v) k
theorem aO (k:Nat) (J:Arg):s0 k J=r0 k J:=
 funext λU=>aH _ _ _ (T0 J) _ (λrec v=>by kernel_rfl) k U
noncomputable def p (l0:(Int)->Option Out) (J:Arg):Option Out:=l0 (0:Int)
theorem ae (k:Nat) (J:Arg):@Eq (Option Out) (D.W k J) (p (r0 k J) J):=
 Eq.trans (b:=p (s0 k J) J) (by kernel_rfl) (by rw[aO])
theorem ok:Ok prog 122 D.sig:=aw func122 aM (by kernel_rfl) (fc eZ.ok (an _))
end cC
namespace cx
abbrev Arg:Type:=(List Row)×Change×Unit
abbrev Out:Type:=(List Row)×Bool×Unit
abbrev ps:PQ:=[(.ro,(.aa ak)),(.ro,(.ptr ay))]
noncomputable def D:FD:={ fn:=f109,tl:=bd,ps:=ps,rs:=[((.aa ak),(av (.aa ak))),(.bool,(ag .bool))],gl:=[(121,bY.D.sig),(122,cC.D.sig),(137,d8.D.sig)],lv:=[(7,[0,1,8,9,10])],lx:=[(0,[1,9])],od:=[(3,[0,1,2,3,4,5,6,7,8,9,10,11,12,13,14,15,16,17,18,19,20,21])] }
noncomputable def ab (a:Arg):Option Out:=@lift Out λk=>D.W k a
noncomputable def T0 (J:Arg) (fU:Int) (cd:(List Row)×Int):St:={ n:=70,sl:=[(0,.val (.aa ak) J.1),(1,.cp ay J.2.1),(8,.val i64 fU),(9,.own (.aa ak) (av (.aa ak)) [] cd.1),(10,.val i64 cd.2)],vr:=[],aA:=[] }
noncomputable def b0 (self:((List Row)×Int)->Option Out) (e0:(List Row)->Option Out) (J:Arg) (fU:Int) (cd:(List Row)×Int):Option Out:=bif decide (cd.2 < (J.1.length:Int)) then (bif !decide (cd.2=fU) then (if 0<=cd.2 then ((J.1[cd.2.toNat]?).bind λJ8=>if cd.1.length+[J8].length<=bX then (self (cd.1++[J8],ai (cd.2+(1:Int)))) else none) else none) else self (cd.1,ai (cd.2+(1:Int)))) else e0 cd.1
noncomputable abbrev B0 (_:Nat):=b0
noncomputable def q0 (J:Arg) (fU:Int) (u7:(List Row)):Option Out:=bif J.2.1.2.2.1 then ((cC.ab (u7,J.2.1.2.2.2.1,())).bind λN4=>some (N4.1,true,())) else some (u7,true,())
noncomputable abbrev Q0 (_:Nat):=q0
noncomputable def s0 (k:Nat) (J:Arg):Int->((List Row)×Int)->Option Out:=λfU=>λcd=>D.L k [1,1,1,1,1,0,1,0,0] [0,1,8,9,10] [] (aj 0 (aG (D.N k [1,1,1,1,1,1]) D.K0)) (T0 J fU cd)
noncomputable def r0 (k:Nat) (J:Arg):Int->((List Row)×Int)->Option Out:=λfU=>au (λw v=>B0 k w (Q0 k J fU) J fU v) k
theorem aO (k:Nat) (J:Arg):s0 k J=r0 k J:=
 funext λfU=>funext λcd=>aH _ _ _ (T0 J fU) _ (λrec v=>by kernel_rfl) k cd
noncomputable def p (l0:Int->((List Row)×Int)->Option Out) (J:Arg):Option Out:=(d8.ab (J.2.1,())).bind λr2=>(bY.ab (J.1,r2.1,r2.2.1,())).bind λr3=>let yM:Option Out:=l0 r3.1 (([]:List Row),(0:Int));bif !(J.2.1.1 == (decide ((0:Int)<=r3.1))) then (some (([]:List Row),false,())) else bif decide ((0:Int)<=r3.1) then (if 0<=r3.1 then ((J.1[r3.1.toNat]?).bind λx4=>bif !(Ty.eq ak x4 J.2.1.2.1) then (some (([]:List Row),false,())) else yM) else none) else yM
theorem ae (k:Nat) (J:Arg):@Eq (Option Out) (D.W k J) (p (r0 k J) J):=
 Eq.trans (b:=p (s0 k J) J) (by kernel_rfl) (by rw[aO])
theorem ok:Ok prog 109 D.sig:=aw func109 aM (by kernel_rfl) (fc bY.ok (fc cC.ok (fc d8.ok (an _))))
end cx
namespace dE
abbrev Arg:Type:=(List Change)×Unit
abbrev Out:Type:=(List Change)×Unit
abbrev ps:PQ:=[(.ro,(.aa ay))]
noncomputable def D:FD:={ fn:=f161,tl:=bd,ps:=ps,rs:=[((.aa ay),(av (.aa ay)))],lv:=[(3,[0,3,4])],lx:=[(0,[3])] }
noncomputable def ab (a:Arg):Option Out:=@lift Out λk=>D.W k a
noncomputable def T0 (J:Arg) (U:(List Change)×Int):St:={ n:=31,sl:=[(0,.val (.aa ay) J.1),(3,.own (.aa ay) (av (.aa ay)) [] U.1),(4,.val i64 U.2)],vr:=[],aA:=[] }
noncomputable def b0 (self:((List Change)×Int)->Option Out) (e0:(List Change)->Option Out) (J:Arg) (U:(List Change)×Int):Option Out:=bif decide ((0:Int)<=U.2) then (if 0<=U.2 then ((J.1[U.2.toNat]?).bind λaT=>if U.1.length+[(aT.2.2.1,aT.2.2.2.1,aT.1,aT.2.1,())].length<=bX then (let BJ:=U.1++[(aT.2.2.1,aT.2.2.2.1,aT.1,aT.2.1,())];self (BJ,ai (U.2 - (1:Int)))) else none) else none) else e0 U.1
noncomputable abbrev B0 (_:Nat):=b0
noncomputable def q0 (J:Arg) (cK:(List Change)):Option Out:=some (cK,())
noncomputable abbrev Q0 (_:Nat):=q0
noncomputable def s0 (k:Nat) (J:Arg):((List Change)×Int)->Option Out:=λU=>D.L k [1,1,0,1,0,0] [0,3,4] [] (aj 0 (aG (D.N k [1,1,1]) D.K0)) (T0 J U)
noncomputable def r0 (k:Nat) (J:Arg):((List Change)×Int)->Option Out:=au (λw v=>B0 k w (Q0 k J) J v) k
theorem aO (k:Nat) (J:Arg):s0 k J=r0 k J:=
 funext λU=>aH _ _ _ (T0 J) _ (λrec v=>by kernel_rfl) k U
noncomputable def p (l0:((List Change)×Int)->Option Out) (J:Arg):Option Out:=l0 (([]:List Change),ai ((J.1.length:Int) - (1:Int)))
theorem ae (k:Nat) (J:Arg):@Eq (Option Out) (D.W k J) (p (r0 k J) J):=
 Eq.trans (b:=p (s0 k J) J) (by kernel_rfl) (by rw[aO])
theorem ok:Ok prog 161 D.sig:=aw func161 aM (by kernel_rfl) (an _)
end dE
namespace cL
abbrev Arg:Type:=(List Row)×(List Change)×Unit
abbrev Out:Type:=(List Row)×Bool×Unit
abbrev ps:PQ:=[(.ro,(.aa ak)),(.ro,(.aa ay))]
noncomputable def D:FD:={ fn:=f106,tl:=bd,ps:=ps,rs:=[((.aa ak),(ag (.aa ak))),(.bool,(ag .bool))],gl:=[(109,cx.D.sig),(161,dE.D.sig)],lv:=[(3,[0,6,7])],lx:=[(0,[0])],lf:=[(3,[(0,(.aa false (.pair .leaf (.pair .leaf (.pair .leaf (.pair .leaf .leaf))))))])] }
noncomputable def ab (a:Arg):Option Out:=@lift Out λk=>D.W k a
noncomputable def T0 (J:Arg) (nE:List Change) (cW:(List Row)×Int):St:={ n:=30,sl:=[(0,.val (.aa ak) cW.1),(6,.own (.aa ay) (av (.aa ay)) [] nE),(7,.val i64 cW.2)],vr:=[],aA:=[] }
noncomputable def b0 (self:((List Row)×Int)->Option Out) (e0:(List Row)->Option Out) (J:Arg) (nE:List Change) (cW:(List Row)×Int):Option Out:=bif decide (cW.2 < (nE.length:Int)) then (if 0<=cW.2/\cW.2 < (nE.length:Int) then ((nE[cW.2.toNat]?).bind λjV=>(cx.ab (cW.1,jV,())).bind λig=>bif !ig.2.1 then (some (([]:List Row),false,())) else self (ig.1,ai (cW.2+(1:Int)))) else none) else e0 cW.1
noncomputable abbrev B0 (_:Nat):=b0
noncomputable def q0 (J:Arg) (nE:List Change) (jW:(List Row)):Option Out:=some (jW,true,())
noncomputable abbrev Q0 (_:Nat):=q0
noncomputable def s0 (k:Nat) (J:Arg):(List Change)->((List Row)×Int)->Option Out:=λnE=>λcW=>D.L k [1,1,0,1,0,0] [0,6,7] [(0,(.aa false (.pair .leaf (.pair .leaf (.pair .leaf (.pair .leaf .leaf))))))] (aj 0 (aG (D.N k [1,1,1]) D.K0)) (T0 J nE cW)
noncomputable def r0 (k:Nat) (J:Arg):(List Change)->((List Row)×Int)->Option Out:=λnE=>au (λw v=>B0 k w (Q0 k J nE) J nE v) k
theorem aO (k:Nat) (J:Arg):s0 k J=r0 k J:=
 funext λnE=>funext λcW=>aH _ _ _ (T0 J nE) _ (λrec v=>by kernel_rfl) k cW
noncomputable def p (l0:(List Change)->((List Row)×Int)->Option Out) (J:Arg):Option Out:=(dE.ab (J.2.1,())).bind λr2=>l0 r2.1 (J.1,(0:Int))
theorem ae (k:Nat) (J:Arg):@Eq (Option Out) (D.W k J) (p (r0 k J) J):=
 Eq.trans (b:=p (s0 k J) J) (by kernel_rfl) (by rw[aO])
theorem ok:Ok prog 106 D.sig:=aw func106 aM (by kernel_rfl) (fc cx.ok (fc dE.ok (an _)))
end cL
namespace d9
abbrev Arg:Type:=(List Row)×(List Tx)×Unit
abbrev Out:Type:=(List Row)×Bool×Unit
abbrev ps:PQ:=[(.ro,(.aa ak)),(.ro,(.aa aC))]
noncomputable def D:FD:={ fn:=f100,tl:=bd,ps:=ps,rs:=[((.aa ak),(ag (.aa ak))),(.bool,(ag .bool))],gl:=[(106,cL.D.sig)],lv:=[(3,[1,6,7])],lx:=[(0,[6])],lf:=[(3,[(6,(.aa false (.pair .leaf (.pair .leaf (.pair .leaf (.pair .leaf .leaf))))))])] }
noncomputable def ab (a:Arg):Option Out:=@lift Out λk=>D.W k a
noncomputable def T0 (J:Arg) (U:(List Row)×Int):St:={ n:=33,sl:=[(1,.val (.aa aC) J.2.1),(6,.val (.aa ak) U.1),(7,.val i64 U.2)],vr:=[],aA:=[] }
noncomputable def b0 (self:((List Row)×Int)->Option Out) (e0:(List Row)->Option Out) (J:Arg) (U:(List Row)×Int):Option Out:=bif decide (U.2 < (J.2.1.length:Int)) then (if 0<=U.2 then ((J.2.1[U.2.toNat]?).bind λaT=>(cL.ab (U.1,aT.2.1,())).bind λbO=>bif !bO.2.1 then (some (([]:List Row),false,())) else self (bO.1,ai (U.2+(1:Int)))) else none) else e0 U.1
noncomputable abbrev B0 (_:Nat):=b0
noncomputable def q0 (J:Arg) (cK:(List Row)):Option Out:=some (cK,true,())
noncomputable abbrev Q0 (_:Nat):=q0
noncomputable def s0 (k:Nat) (J:Arg):((List Row)×Int)->Option Out:=λU=>D.L k [1,1,0,1,0,0] [1,6,7] [(6,(.aa false (.pair .leaf (.pair .leaf (.pair .leaf (.pair .leaf .leaf))))))] (aj 0 (aG (D.N k [1,1,1]) D.K0)) (T0 J U)
noncomputable def r0 (k:Nat) (J:Arg):((List Row)×Int)->Option Out:=au (λw v=>B0 k w (Q0 k J) J v) k
theorem aO (k:Nat) (J:Arg):s0 k J=r0 k J:=
 funext λU=>aH _ _ _ (T0 J) _ (λrec v=>by kernel_rfl) k U
noncomputable def p (l0:((List Row)×Int)->Option Out) (J:Arg):Option Out:=if ([]:List Row).length+J.1.length<=bX then (l0 (([]:List Row)++J.1,(0:Int))) else none
theorem ae (k:Nat) (J:Arg):@Eq (Option Out) (D.W k J) (p (r0 k J) J):=
 Eq.trans (b:=p (s0 k J) J) (by kernel_rfl) (by rw[aO])
theorem ok:Ok prog 100 D.sig:=aw func100 aM (by kernel_rfl) (fc cL.ok (an _))
end d9
namespace gb
abbrev Arg:Type:=Plain×Unit
abbrev Out:Type:=Int×Unit
abbrev ps:PQ:=[(.ro,(.ptr bF))]
noncomputable def D:FD:={ fn:=f36,tl:=bd,ps:=ps,rs:=[(i64,(ag i64))],gl:=[(76,bf.D.sig),(97,c_.D.sig),(98,co.D.sig),(99,aE.D.sig),(100,d9.D.sig)],od:=[(8,[0,1,2,3,4,5,6,7,8,9,10,11,12,13,14,15,16,17,18,19,20,21,22,23,24,25]),(10,[0,1,2,3,4,5,6,7,8,9,10]),(12,[0,1,2,3,4,5,6,7,8,9,10,11,12,13])],ar:=[(8,[3,13,18,22])] }
noncomputable def ab (a:Arg):Option Out:=@lift Out λk=>D.W k a
noncomputable def p (J:Arg):Option Out:=(c_.ab (J.1.1,())).bind λr2=>bif !decide (r2.1=(0:Int)) then (some (r2.1,())) else (co.ab (J.1.2.1,())).bind λr3=>bif !decide (r3.1=(0:Int)) then (some (r3.1,())) else let j8:Option Out:=(aE.ab (J.1.1,J.1.2.1,((0:Int),(0:Int),()),())).bind λr9=>bif decide ((12:Int) < r9.1) then (some ((2:Int),())) else (d9.ab (J.1.1,J.1.2.1,())).bind λkV=>bif !kV.2.1 then (some ((8:Int),())) else some ((0:Int),());(bf.ab (J.1.2.2.1,(1:Int),(100:Int),())).bind λr4=>bif !r4.1 then (some ((3:Int),())) else bif decide ((0:Int) < (J.1.2.1.length:Int)) then (if 0<=ai ((J.1.2.1.length:Int) - (1:Int)) then ((J.1.2.1[(ai ((J.1.2.1.length:Int) - (1:Int))).toNat]?).bind λx5=>bif decide (J.1.2.2.1<=x5.1) then (some ((3:Int),())) else j8) else none) else j8
theorem ae (k:Nat) (J:Arg):@Eq (Option Out) (D.W k J) (p J):=by kernel_rfl
theorem ok:Ok prog 36 D.sig:=aw func36 aM (by kernel_rfl) (fc bf.ok (fc c_.ok (fc co.ok (fc aE.ok (fc d9.ok (an _))))))
end gb
namespace fP
abbrev Arg:Type:=Int×Unit
abbrev Out:Type:=dN×Unit
abbrev ps:PQ:=[(.ro,i64)]
noncomputable def D:FD:={ fn:=f37,tl:=bd,ps:=ps,rs:=[(dD,(av dD))] }
noncomputable def ab (a:Arg):Option Out:=@lift Out λk=>D.W k a
noncomputable def p (J:Arg):Option Out:=some ((J.1,(0:Int),(([]:List Row),([]:List Tx),(0:Int),()),()),())
theorem ae (k:Nat) (J:Arg):@Eq (Option Out) (D.W k J) (p J):=by kernel_rfl
theorem ok:Ok prog 37 D.sig:=aw func37 aM (by kernel_rfl) (an _)
end fP
namespace bZ
abbrev Arg:Type:=Int×Unit
abbrev Out:Type:=aK×Unit
abbrev ps:PQ:=[(.ro,i64)]
noncomputable def D:FD:={ fn:=f101,tl:=bd,ps:=ps,rs:=[(bz,(ag bz))] }
noncomputable def ab (a:Arg):Option Out:=@lift Out λk=>D.W k a
noncomputable def p (J:Arg):Option Out:=some ((J.1,false,(false,((0:Int),(0:Int),(0:Int),([]:List UInt8),()),false,((0:Int),(0:Int),(0:Int),([]:List UInt8),()),()),()),())
theorem ae (k:Nat) (J:Arg):@Eq (Option Out) (D.W k J) (p J):=by kernel_rfl
theorem ok:Ok prog 101 D.sig:=aw func101 aM (by kernel_rfl) (an _)
end bZ
namespace eD
abbrev Arg:Type:=Int×Unit
abbrev Out:Type:=Bool×Unit
abbrev ps:PQ:=[(.ro,i64)]
noncomputable def D:FD:={ fn:=f158,tl:=bd,ps:=ps,rs:=[(.bool,(ag .bool))],gl:=[(76,bf.D.sig)] }
noncomputable def ab (a:Arg):Option Out:=@lift Out λk=>D.W k a
noncomputable def p (J:Arg):Option Out:=(bf.ab (J.1,(2:Int),(4:Int),())).bind λr2=>some (r2.1,())
theorem ae (k:Nat) (J:Arg):@Eq (Option Out) (D.W k J) (p J):=by kernel_rfl
theorem ok:Ok prog 158 D.sig:=aw func158 aM (by kernel_rfl) (fc bf.ok (an _))
end eD
namespace gF
abbrev Arg:Type:=Op×Unit
abbrev Out:Type:=Bool×Unit
abbrev ps:PQ:=[(.ro,(.ptr e_))]
noncomputable def D:FD:={ fn:=f157,tl:=bd,ps:=ps,rs:=[(.bool,(ag .bool))],gl:=[(76,bf.D.sig),(158,eD.D.sig)] }
noncomputable def ab (a:Arg):Option Out:=@lift Out λk=>D.W k a
noncomputable def p (J:Arg):Option Out:=let j6:Option Out:=let j8:Option Out:=bif decide (J.1.1=(4:Int)) then (bif decide (J.1.2.2.1.2.2.1=(0:Int)) then (some (decide (J.1.2.2.1.2.2.2.1=([]:List UInt8)),())) else some (false,())) else (eD.ab (J.1.1,())).bind λr9=>bif r9.1 then (some (true,())) else some ((Ty.eq ak J.1.2.2.1 ((0:Int),(0:Int),(0:Int),([]:List UInt8),())),());bif decide (J.1.1=(1:Int)) then (bif !decide (J.1.2.1=(0:Int)) then (some (false,())) else j8) else bif decide (J.1.1=(9:Int)) then (bif !decide (J.1.2.1=(0:Int)) then (some (false,())) else j8) else j8;(bf.ab (J.1.1,(1:Int),(9:Int),())).bind λr2=>bif !r2.1 then (some (false,())) else bif !decide (J.1.1=(6:Int)) then (bif !decide (J.1.2.2.2.1=(0:Int)) then (some (false,())) else j6) else j6
theorem ae (k:Nat) (J:Arg):@Eq (Option Out) (D.W k J) (p J):=by kernel_rfl
theorem ok:Ok prog 157 D.sig:=aw func157 aM (by kernel_rfl) (fc bf.ok (fc eD.ok (an _)))
end gF
namespace i_
abbrev Arg:Type:=Op×Unit
abbrev Out:Type:=Int×Unit
abbrev ps:PQ:=[(.ro,(.ptr e_))]
noncomputable def D:FD:={ fn:=f102,tl:=bd,ps:=ps,rs:=[(i64,(ag i64))],gl:=[(76,bf.D.sig),(136,ct.D.sig),(157,gF.D.sig),(158,eD.D.sig)] }
noncomputable def ab (a:Arg):Option Out:=@lift Out λk=>D.W k a
noncomputable def p (J:Arg):Option Out:=(gF.ab (J.1,())).bind λr2=>bif !r2.1 then (some ((1:Int),())) else bif !decide (J.1.1=(1:Int)) then (bif !decide (J.1.1=(9:Int)) then ((bf.ab (J.1.2.1,(1:Int),(99:Int),())).bind λr3=>bif !r3.1 then (some ((3:Int),())) else (bf.ab (J.1.2.2.2.1,(0:Int),(7:Int),())).bind λr4=>bif !r4.1 then (some ((3:Int),())) else (eD.ab (J.1.1,())).bind λr9=>bif r9.1 then ((ct.ab (J.1.2.2.1,())).bind λkV=>some (kV.1,())) else some ((0:Int),())) else (bf.ab (J.1.2.2.2.1,(0:Int),(7:Int),())).bind λr5=>bif !r5.1 then (some ((3:Int),())) else (eD.ab (J.1.1,())).bind λoA=>bif oA.1 then ((ct.ab (J.1.2.2.1,())).bind λrN=>some (rN.1,())) else some ((0:Int),())) else (bf.ab (J.1.2.2.2.1,(0:Int),(7:Int),())).bind λr6=>bif !r6.1 then (some ((3:Int),())) else (eD.ab (J.1.1,())).bind λzB=>bif zB.1 then ((ct.ab (J.1.2.2.1,())).bind λG5=>some (G5.1,())) else some ((0:Int),())
theorem ae (k:Nat) (J:Arg):@Eq (Option Out) (D.W k J) (p J):=by kernel_rfl
theorem ok:Ok prog 102 D.sig:=aw func102 aM (by kernel_rfl) (fc bf.ok (fc ct.ok (fc gF.ok (fc eD.ok (an _)))))
end i_
namespace dp
abbrev Arg:Type:=(List Tx)×Int×Unit
abbrev Out:Type:=Int×Unit
abbrev ps:PQ:=[(.ro,(.aa aC)),(.ro,i64)]
noncomputable def D:FD:={ fn:=f105,tl:=bd,ps:=ps,rs:=[(i64,(ag i64))],lv:=[(2,[0,1,5])],lx:=[(0,[])] }
noncomputable def ab (a:Arg):Option Out:=@lift Out λk=>D.W k a
noncomputable def T0 (J:Arg) (U:Int):St:={ n:=20,sl:=[(0,.val (.aa aC) J.1),(1,.val i64 J.2.1),(5,.val i64 U)],vr:=[],aA:=[] }
noncomputable def b0 (self:Int->Option Out) (e0:(Unit)->Option Out) (J:Arg) (U:Int):Option Out:=bif decide (U < (J.1.length:Int)) then (if 0<=U then ((J.1[U.toNat]?).bind λaT=>bif decide (aT.1=J.2.1) then (some (U,())) else self (ai (U+(1:Int)))) else none) else e0 ()
noncomputable abbrev B0 (_:Nat):=b0
noncomputable def q0 (J:Arg) (sK:(Unit)):Option Out:=some ((-1:Int),())
noncomputable abbrev Q0 (_:Nat):=q0
noncomputable def s0 (k:Nat) (J:Arg):(Int)->Option Out:=λU=>D.L k [1,0,1,0,0] [0,1,5] [] (aj 0 (aG (D.N k [1,1]) D.K0)) (T0 J U)
noncomputable def r0 (k:Nat) (J:Arg):(Int)->Option Out:=au (λw v=>B0 k w (Q0 k J) J v) k
theorem aO (k:Nat) (J:Arg):s0 k J=r0 k J:=
 funext λU=>aH _ _ _ (T0 J) _ (λrec v=>by kernel_rfl) k U
noncomputable def p (l0:(Int)->Option Out) (J:Arg):Option Out:=l0 (0:Int)
theorem ae (k:Nat) (J:Arg):@Eq (Option Out) (D.W k J) (p (r0 k J) J):=
 Eq.trans (b:=p (s0 k J) J) (by kernel_rfl) (by rw[aO])
theorem ok:Ok prog 105 D.sig:=aw func105 aM (by kernel_rfl) (an _)
end dp
namespace bR
abbrev Arg:Type:=(List Tx)×Int×Key×Unit
abbrev Out:Type:=Bool×Unit
abbrev ps:PQ:=[(.ro,(.aa aC)),(.ro,i64),(.ro,aF)]
noncomputable def D:FD:={ fn:=f199,tl:=bd,ps:=ps,rs:=[(.bool,(ag .bool))],lv:=[(2,[0,1,5,7]),(6,[0,1,5,7,8])],lx:=[(0,[]),(1,[0,1,5,7]),(2,[0,1,5,7])] }
noncomputable def ab (a:Arg):Option Out:=@lift Out λk=>D.W k a
noncomputable def T0 (J:Arg) (U:(List Tx)×Int×Key×Int):St:={ n:=68,sl:=[(0,.val (.aa aC) U.1),(1,.val i64 U.2.1),(5,.box aF (ag aF) [] U.2.2.1),(7,.val i64 U.2.2.2)],vr:=[],aA:=[] }
noncomputable def S0 (rec:RT Out) (J:Arg):((List Tx)×Int×Key×Int)->Option Out:=λU=>rec (T0 J U)
noncomputable def cV (K:KT Out) (J:Arg):(Unit)->Option Out:=λz=>K (.exit 0) ({ n:=68,sl:=[],vr:=[],aA:=[] })
noncomputable def T1 (J:Arg) (cB:List Tx) (fV:Int) (eJ:Key) (c6:Int) (e8:Int):St:={ n:=68,sl:=[(0,.val (.aa aC) cB),(1,.val i64 fV),(5,.box aF (ag aF) [] eJ),(7,.val i64 c6),(8,.val i64 e8)],vr:=[],aA:=[] }
noncomputable def b1 (self:Int->Option Out) (e2:(Unit)->Option Out) (J:Arg) (cB:List Tx) (fV:Int) (eJ:Key) (c6:Int) (e8:Int):Option Out:=if 0<=c6 then ((cB[c6.toNat]?).bind λnS=>bif decide (e8 < (nS.2.2.2.1.length:Int)) then (if 0<=c6 then ((cB[c6.toNat]?).bind λER=>if 0<=e8 then ((ER.2.2.2.1[e8.toNat]?).bind λnV=>bif (Ty.eq aF nV eJ) then (some (true,())) else bif decide (nV.1=(0:Int)) then (bif decide (nV.2.1=eJ.1) then (some (true,())) else bif decide (eJ.1=(0:Int)) then (bif decide (nV.1=eJ.2.1) then (some (true,())) else self (ai (e8+(1:Int)))) else self (ai (e8+(1:Int)))) else bif decide (eJ.1=(0:Int)) then (bif decide (nV.1=eJ.2.1) then (some (true,())) else self (ai (e8+(1:Int)))) else self (ai (e8+(1:Int)))) else none) else none) else e2 ()) else none
noncomputable abbrev B1 (_:Nat):=b1
noncomputable def q0 (self:((List Tx)×Int×Key×Int)->Option Out) (e0:(Unit)->Option Out) (J:Arg) (cB:List Tx) (fV:Int) (eJ:Key) (c6:Int) (xF:(Unit)):Option Out:=self (cB,fV,eJ,ai (c6+(1:Int)))
noncomputable abbrev Q0 (_:Nat):=q0
noncomputable def s1 (k:Nat) (rec:RT Out) (K:KT Out) (J:Arg):(List Tx)->Int->Key->Int->(Int)->Option Out:=λcB fV eJ c6=>λe8=>D.L k [1,0,1,0,0,1,0,0,1,1,0,0] [0,1,5,7,8] [] (aj 2 (aj 1 (aG (D.N k [1,0,1,0,0,1,1]) (fq rec (dx [0,1,5,7] []) K)))) (T1 J cB fV eJ c6 e8)
noncomputable def r1 (k:Nat) (self:((List Tx)×Int×Key×Int)->Option Out) (e0:(Unit)->Option Out) (J:Arg):(List Tx)->Int->Key->Int->(Int)->Option Out:=λcB fV eJ c6=>au (λw v=>B1 k w (Q0 k self e0 J cB fV eJ c6) J cB fV eJ c6 v) k
theorem i9 (k:Nat) (rec:RT Out) (K:KT Out) (J:Arg):s1 k rec K J=r1 k (S0 rec J) (cV K J) J:=
 funext λcB=>funext λfV=>funext λeJ=>funext λc6=>funext λe8=>aH _ _ _ (T1 J cB fV eJ c6) _ (λrec v=>by kernel_rfl) k e8
noncomputable def b0 (self:((List Tx)×Int×Key×Int)->Option Out) (e0:(Unit)->Option Out) (l1:(List Tx)->Int->Key->Int->(Int)->Option Out) (J:Arg) (U:(List Tx)×Int×Key×Int):Option Out:=bif decide (U.2.2.2 < (U.1.length:Int)) then (if 0<=U.2.2.2 then ((U.1[U.2.2.2.toNat]?).bind λaT=>bif decide (aT.1=U.2.1) then (self (U.1,U.2.1,U.2.2.1,ai (U.2.2.2+(1:Int)))) else l1 U.1 U.2.1 U.2.2.1 U.2.2.2 (0:Int)) else none) else e0 ()
noncomputable def B0 (k:Nat) (self:((List Tx)×Int×Key×Int)->Option Out) (e0:(Unit)->Option Out) (J:Arg) (U:(List Tx)×Int×Key×Int):Option Out:=b0 self e0 (r1 k self e0 J) J U
theorem i7 (k:Nat) (rec:RT Out) (K:KT Out) (J:Arg) (U:(List Tx)×Int×Key×Int):D.N k [1,0,1,0,0] (T0 J U) (fq rec (dx [0,1,5,7] []) K)=B0 k (S0 rec J) (cV K J) J U:=
 Eq.trans (b:=b0 (S0 rec J) (cV K J) (s1 k rec K J) J U) (by kernel_rfl) (by rw[i9];rfl)
noncomputable def q1 (J:Arg) (u7:(Unit)):Option Out:=some (false,())
noncomputable abbrev Q1 (_:Nat):=q1
theorem pa (k:Nat) (J:Arg) (u7:(Unit)):cV (aj 0 (aG (D.N k [1,1]) D.K0)) J u7=q1 J u7:=by kernel_rfl
noncomputable def s0 (k:Nat) (J:Arg):((List Tx)×Int×Key×Int)->Option Out:=λU=>D.L k [1,0,1,0,0] [0,1,5,7] [] (aj 0 (aG (D.N k [1,1]) D.K0)) (T0 J U)
noncomputable def r0 (k:Nat) (J:Arg):((List Tx)×Int×Key×Int)->Option Out:=au (λw v=>B0 k w (Q1 k J) J v) k
theorem aO (k:Nat) (J:Arg):s0 k J=r0 k J:=by
 funext U;
 have h0:cV (aj 0 (aG (D.N k [1,1]) D.K0)) J=Q1 k J:=funext λz=>pa k J z
 refine (aH _ _ _ (T0 J) (λself v=>B0 k self (cV (aj 0 (aG (D.N k [1,1]) D.K0)) J) J v) (λrec v=>i7 k rec (aj 0 (aG (D.N k [1,1]) D.K0)) J v) k U).trans ?_
 rw[h0]
 rfl
noncomputable def p (l0:((List Tx)×Int×Key×Int)->Option Out) (J:Arg):Option Out:=l0 (J.1,J.2.1,J.2.2.1,(0:Int))
theorem ae (k:Nat) (J:Arg):@Eq (Option Out) (D.W k J) (p (r0 k J) J):=
 Eq.trans (b:=p (s0 k J) J) (by kernel_rfl) (by rw[aO])
theorem ok:Ok prog 199 D.sig:=aw func199 aM (by kernel_rfl) (an _)
end bR
namespace fG
abbrev Arg:Type:=(List Row)×Op×Unit
abbrev Out:Type:=Change×Int×Unit
abbrev ps:PQ:=[(.ro,(.aa ak)),(.ro,(.ptr e_))]
noncomputable def D:FD:={ fn:=f200,tl:=bd,ps:=ps,rs:=[(ay,(ag ay)),(i64,(ag i64))],gl:=[(121,bY.D.sig)],od:=[(1,[0,1,2,3,4,5,6,7,8,9,10,11,12])] }
noncomputable def ab (a:Arg):Option Out:=@lift Out λk=>D.W k a
noncomputable def p (J:Arg):Option Out:=(bY.ab (J.1,J.2.1.2.2.1.1,J.2.1.2.2.1.2.1,())).bind λr2=>let j5:Option Out:=let j7:Option Out:=let O2:=λ(p9:Change)=>(bif p9.2.2.1 then (some ((p9.1,p9.2.1,p9.2.2.1,J.2.1.2.2.1,p9.2.2.2.2),(0:Int),())) else some (p9,(0:Int),()):Option Out);bif decide ((0:Int)<=r2.1) then (if 0<=r2.1 then ((J.1[r2.1.toNat]?).bind λx8=>O2 (decide ((0:Int)<=r2.1),x8,!decide (J.2.1.1=(4:Int)),((0:Int),(0:Int),(0:Int),([]:List UInt8),()),())) else none) else O2 (decide ((0:Int)<=r2.1),((0:Int),(0:Int),(0:Int),([]:List UInt8),()),!decide (J.2.1.1=(4:Int)),((0:Int),(0:Int),(0:Int),([]:List UInt8),()),());bif !decide (J.2.1.1=(2:Int)) then (bif decide (r2.1 < (0:Int)) then (some ((false,((0:Int),(0:Int),(0:Int),([]:List UInt8),()),false,((0:Int),(0:Int),(0:Int),([]:List UInt8),()),()),(4:Int),())) else j7) else j7;bif decide (J.2.1.1=(2:Int)) then (bif decide ((0:Int)<=r2.1) then (some ((false,((0:Int),(0:Int),(0:Int),([]:List UInt8),()),false,((0:Int),(0:Int),(0:Int),([]:List UInt8),()),()),(6:Int),())) else j5) else j5
theorem ae (k:Nat) (J:Arg):@Eq (Option Out) (D.W k J) (p J):=by kernel_rfl
theorem ok:Ok prog 200 D.sig:=aw func200 aM (by kernel_rfl) (fc bY.ok (an _))
end fG
namespace db
abbrev Arg:Type:=(List Row)×Change×Unit
abbrev Out:Type:=Int×Unit
abbrev ps:PQ:=[(.ro,(.aa ak)),(.ro,(.ptr ay))]
noncomputable def D:FD:={ fn:=f225,tl:=bd,ps:=ps,rs:=[(i64,(ag i64))],gl:=[(76,bf.D.sig),(137,d8.D.sig)],lv:=[(5,[0,1,6,7])],lx:=[(0,[])],od:=[(7,[0,1,2,3,4,5,6,7,8,9,10,11,12,13,14,15,16,17,18,19,20,21,22,23,24,25,26,27,28,29,30,31,32,33,34,35])] }
noncomputable def ab (a:Arg):Option Out:=@lift Out λk=>D.W k a
noncomputable def T0 (J:Arg) (c6:Int) (c9:Int):St:={ n:=80,sl:=[(0,.val (.aa ak) J.1),(1,.cp ay J.2.1),(6,.val i64 c6),(7,.val i64 c9)],vr:=[],aA:=[] }
noncomputable def b0 (self:Int->Option Out) (e0:(Unit)->Option Out) (J:Arg) (c6:Int) (c9:Int):Option Out:=bif decide (c9 < (J.1.length:Int)) then (if 0<=c9 then ((J.1[c9.toNat]?).bind λnS=>bif decide (nS.1=c6) then (if 0<=c9 then ((J.1[c9.toNat]?).bind λER=>bif !decide (ER.1=(0:Int)) then (bif !J.2.1.2.2.1 then (some ((8:Int),())) else if 0<=c9 then ((J.1[c9.toNat]?).bind λnV=>bif decide (J.2.1.2.2.2.1.2.2.1 < (nV.2.2.2.1.length:Int)) then (some ((8:Int),())) else self (ai (c9+(1:Int)))) else none) else self (ai (c9+(1:Int)))) else none) else self (ai (c9+(1:Int)))) else none) else e0 ()
noncomputable abbrev B0 (_:Nat):=b0
noncomputable def q0 (J:Arg) (c6:Int) (xF:(Unit)):Option Out:=some ((0:Int),())
noncomputable abbrev Q0 (_:Nat):=q0
noncomputable def s0 (k:Nat) (J:Arg):Int->(Int)->Option Out:=λc6=>λc9=>D.L k [1,1,1,0,1,0,0] [0,1,6,7] [] (aj 0 (aG (D.N k [1,1,1,1]) D.K0)) (T0 J c6 c9)
noncomputable def r0 (k:Nat) (J:Arg):Int->(Int)->Option Out:=λc6=>au (λw v=>B0 k w (Q0 k J c6) J c6 v) k
theorem aO (k:Nat) (J:Arg):s0 k J=r0 k J:=
 funext λc6=>funext λc9=>aH _ _ _ (T0 J c6) _ (λrec v=>by kernel_rfl) k c9
noncomputable def p (l0:Int->(Int)->Option Out) (J:Arg):Option Out:=(d8.ab (J.2.1,())).bind λr2=>let Mt:Option Out:=l0 r2.2.1 (0:Int);bif J.2.1.2.2.1 then ((bf.ab (r2.2.1,(1:Int),(3:Int),())).bind λr3=>bif !r3.1 then (some ((10:Int),())) else bif decide ((8:Int) < J.2.1.2.2.2.1.2.2.1) then (some ((10:Int),())) else bif !decide (J.2.1.2.2.2.1.2.2.2.1=([]:List UInt8)) then (some ((10:Int),())) else Mt) else Mt
theorem ae (k:Nat) (J:Arg):@Eq (Option Out) (D.W k J) (p (r0 k J) J):=
 Eq.trans (b:=p (s0 k J) J) (by kernel_rfl) (by rw[aO])
theorem ok:Ok prog 225 D.sig:=aw func225 aM (by kernel_rfl) (fc bf.ok (fc d8.ok (an _)))
end db
namespace gt
abbrev Arg:Type:=(List Row)×Int×Unit
abbrev Out:Type:=Int×Unit
abbrev ps:PQ:=[(.ro,(.aa ak)),(.ro,i64)]
noncomputable def D:FD:={ fn:=f226,tl:=bd,ps:=ps,rs:=[(i64,(ag i64))],gl:=[(121,bY.D.sig)] }
noncomputable def ab (a:Arg):Option Out:=@lift Out λk=>D.W k a
noncomputable def p (J:Arg):Option Out:=(bY.ab (J.1,(0:Int),J.2.1,())).bind λr2=>bif decide (r2.1 < (0:Int)) then (some ((-1:Int),())) else if 0<=r2.1 then ((J.1[r2.1.toNat]?).bind λx3=>some (x3.2.2.1,())) else none
theorem ae (k:Nat) (J:Arg):@Eq (Option Out) (D.W k J) (p J):=by kernel_rfl
theorem ok:Ok prog 226 D.sig:=aw func226 aM (by kernel_rfl) (fc bY.ok (an _))
end gt
namespace ja
abbrev Arg:Type:=(List Row)×Change×Unit
abbrev Out:Type:=Int×Unit
abbrev ps:PQ:=[(.ro,(.aa ak)),(.ro,(.ptr ay))]
noncomputable def D:FD:={ fn:=f201,tl:=bd,ps:=ps,rs:=[(i64,(ag i64))],gl:=[(137,d8.D.sig),(225,db.D.sig),(226,gt.D.sig)] }
noncomputable def ab (a:Arg):Option Out:=@lift Out λk=>D.W k a
noncomputable def p (J:Arg):Option Out:=(d8.ab (J.2.1,())).bind λr2=>bif decide (r2.1=(0:Int)) then ((db.ab (J.1,J.2.1,())).bind λr3=>some (r3.1,())) else bif !J.2.1.2.2.1 then (some ((0:Int),())) else (gt.ab (J.1,r2.1,())).bind λr4=>bif decide (r4.1 < (0:Int)) then (some ((4:Int),())) else bif decide (r4.1 < (J.2.1.2.2.2.1.2.2.2.1.length:Int)) then (some ((10:Int),())) else some ((0:Int),())
theorem ae (k:Nat) (J:Arg):@Eq (Option Out) (D.W k J) (p J):=by kernel_rfl
theorem ok:Ok prog 201 D.sig:=aw func201 aM (by kernel_rfl) (fc d8.ok (fc db.ok (fc gt.ok (an _))))
end ja
namespace en
abbrev Arg:Type:=(List Row)×(List Tx)×Op×Unit
abbrev Out:Type:=aK×Unit
abbrev ps:PQ:=[(.ro,(.aa ak)),(.ro,(.aa aC)),(.ro,(.ptr e_))]
noncomputable def D:FD:={ fn:=f159,tl:=bd,ps:=ps,rs:=[(bz,(ag bz))],gl:=[(99,aE.D.sig),(101,bZ.D.sig),(156,cQ.D.sig),(199,bR.D.sig),(200,fG.D.sig),(201,ja.D.sig)],od:=[(1,[0,1,2,3,4,5,6,7,8,9,10,11,12]),(2,[0,1,2,3,4,5,6])] }
noncomputable def ab (a:Arg):Option Out:=@lift Out λk=>D.W k a
noncomputable def p (J:Arg):Option Out:=(bR.ab (J.2.1,J.2.2.1.2.1,(J.2.2.1.2.2.1.1,J.2.2.1.2.2.1.2.1,()),())).bind λr2=>bif r2.1 then ((bZ.ab ((7:Int),())).bind λr3=>some (r3.1,())) else (fG.ab (J.1,J.2.2.1,())).bind λr4=>bif !decide (r4.2.1=(0:Int)) then ((bZ.ab (r4.2.1,())).bind λr5=>some (r5.1,())) else (ja.ab (J.1,r4.1,())).bind λr6=>bif !decide (r6.1=(0:Int)) then ((bZ.ab (r6.1,())).bind λr7=>some (r7.1,())) else (aE.ab (J.1,J.2.1,(J.2.2.1.2.2.1.1,J.2.2.1.2.2.1.2.1,()),())).bind λr8=>bif decide ((12:Int) < r8.1) then ((bZ.ab ((9:Int),())).bind λkV=>some (kV.1,())) else (cQ.ab (J.2.1,())).bind λr9=>bif decide ((12:Int)<=r9.1) then ((bZ.ab ((9:Int),())).bind λoA=>some (oA.1,())) else bif r4.1.1 then (bif r4.1.2.2.1 then (bif (Ty.eq ak r4.1.2.1 r4.1.2.2.2.1) then (some (((0:Int),false,(false,((0:Int),(0:Int),(0:Int),([]:List UInt8),()),false,((0:Int),(0:Int),(0:Int),([]:List UInt8),()),()),()),())) else some (((0:Int),true,r4.1,()),())) else some (((0:Int),true,r4.1,()),())) else some (((0:Int),true,r4.1,()),())
theorem ae (k:Nat) (J:Arg):@Eq (Option Out) (D.W k J) (p J):=by kernel_rfl
theorem ok:Ok prog 159 D.sig:=aw func159 aM (by kernel_rfl) (fc aE.ok (fc bZ.ok (fc cQ.ok (fc bR.ok (fc fG.ok (fc ja.ok (an _)))))))
end en
namespace eA
abbrev Arg:Type:=(List Row)×(List Tx)×Op×Unit
abbrev Out:Type:=aK×Unit
abbrev ps:PQ:=[(.ro,(.aa ak)),(.ro,(.aa aC)),(.ro,(.ptr e_))]
noncomputable def D:FD:={ fn:=f103,tl:=bd,ps:=ps,rs:=[(bz,(ag bz))],gl:=[(101,bZ.D.sig),(105,dp.D.sig),(159,en.D.sig)],od:=[(17,[0,1,2,3,4,5,6,7,8,9,10])] }
noncomputable def ab (a:Arg):Option Out:=@lift Out λk=>D.W k a
noncomputable def p (J:Arg):Option Out:=bif decide (J.2.2.1.1=(1:Int)) then (bif decide ((4:Int)<=(J.2.1.length:Int)) then ((bZ.ab ((2:Int),())).bind λr2=>some (r2.1,())) else some (((0:Int),false,(false,((0:Int),(0:Int),(0:Int),([]:List UInt8),()),false,((0:Int),(0:Int),(0:Int),([]:List UInt8),()),()),()),())) else bif decide (J.2.2.1.1=(9:Int)) then (some (((0:Int),false,(false,((0:Int),(0:Int),(0:Int),([]:List UInt8),()),false,((0:Int),(0:Int),(0:Int),([]:List UInt8),()),()),()),())) else (dp.ab (J.2.1,J.2.2.1.2.1,())).bind λr3=>bif decide (r3.1 < (0:Int)) then ((bZ.ab ((4:Int),())).bind λr4=>some (r4.1,())) else bif decide (J.2.2.1.1=(5:Int)) then (if 0<=r3.1 then ((J.2.1[r3.1.toNat]?).bind λx5=>bif decide ((8:Int)<=(x5.2.2.1.length:Int)) then ((bZ.ab ((2:Int),())).bind λr6=>some (r6.1,())) else some (((0:Int),false,(false,((0:Int),(0:Int),(0:Int),([]:List UInt8),()),false,((0:Int),(0:Int),(0:Int),([]:List UInt8),()),()),()),())) else none) else bif decide (J.2.2.1.1=(6:Int)) then (if 0<=r3.1 then ((J.2.1[r3.1.toNat]?).bind λx7=>bif decide ((x7.2.2.1.length:Int)<=J.2.2.1.2.2.2.1) then ((bZ.ab ((3:Int),())).bind λr8=>some (r8.1,())) else some (((0:Int),false,(false,((0:Int),(0:Int),(0:Int),([]:List UInt8),()),false,((0:Int),(0:Int),(0:Int),([]:List UInt8),()),()),()),())) else none) else bif decide (J.2.2.1.1=(7:Int)) then (bif decide (J.2.2.1.1=(7:Int)) then (some (((0:Int),false,(false,((0:Int),(0:Int),(0:Int),([]:List UInt8),()),false,((0:Int),(0:Int),(0:Int),([]:List UInt8),()),()),()),())) else (en.ab (J.1,J.2.1,J.2.2.1,())).bind λkV=>some (kV.1,())) else bif decide (J.2.2.1.1=(8:Int)) then (some (((0:Int),false,(false,((0:Int),(0:Int),(0:Int),([]:List UInt8),()),false,((0:Int),(0:Int),(0:Int),([]:List UInt8),()),()),()),())) else (en.ab (J.1,J.2.1,J.2.2.1,())).bind λoA=>some (oA.1,())
theorem ae (k:Nat) (J:Arg):@Eq (Option Out) (D.W k J) (p J):=by kernel_rfl
theorem ok:Ok prog 103 D.sig:=aw func103 aM (by kernel_rfl) (fc bZ.ok (fc dp.ok (fc en.ok (an _))))
end eA
namespace gG
abbrev Arg:Type:=(List Row)×(List Tx)×Op×Unit
abbrev Out:Type:=aK×Unit
abbrev ps:PQ:=[(.ro,(.aa ak)),(.ro,(.aa aC)),(.ro,e_)]
noncomputable def D:FD:={ fn:=f38,tl:=bd,ps:=ps,rs:=[(bz,(ag bz))],gl:=[(97,c_.D.sig),(98,co.D.sig),(101,bZ.D.sig),(102,i_.D.sig),(103,eA.D.sig)] }
noncomputable def ab (a:Arg):Option Out:=@lift Out λk=>D.W k a
noncomputable def p (J:Arg):Option Out:=(c_.ab (J.1,())).bind λr2=>bif !decide (r2.1=(0:Int)) then ((bZ.ab (r2.1,())).bind λr3=>some (r3.1,())) else (co.ab (J.2.1,())).bind λr4=>bif !decide (r4.1=(0:Int)) then ((bZ.ab (r4.1,())).bind λr5=>some (r5.1,())) else (i_.ab (J.2.2.1,())).bind λr6=>bif !decide (r6.1=(0:Int)) then ((bZ.ab (r6.1,())).bind λr7=>some (r7.1,())) else (eA.ab (J.1,J.2.1,J.2.2.1,())).bind λr8=>some (r8.1,())
theorem ae (k:Nat) (J:Arg):@Eq (Option Out) (D.W k J) (p J):=by kernel_rfl
theorem ok:Ok prog 38 D.sig:=aw func38 aM (by kernel_rfl) (fc c_.ok (fc co.ok (fc bZ.ok (fc i_.ok (fc eA.ok (an _))))))
end gG
namespace fW
abbrev Arg:Type:=Tx×Unit
abbrev Out:Type:=Tx×Unit
abbrev ps:PQ:=[(.ro,aC)]
noncomputable def D:FD:={ fn:=f202,tl:=bd,ps:=ps,rs:=[(aC,(av aC))],od:=[(1,[0,1,3,4,7,8,11,12,2,5,6,9,10,13,14,15])],ar:=[(1,[1,4,8,12])],bx:=[(1,[1])],pd:=[(1,[2,6,10])] }
noncomputable def ab (a:Arg):Option Out:=@lift Out λk=>D.W k a
noncomputable def p (J:Arg):Option Out:=if ([]:List Change).length+J.1.2.1.length<=bX then (if ([]:List Int).length+J.1.2.2.1.length<=bX then (if ([]:List Key).length+J.1.2.2.2.1.length<=bX then (some ((J.1.1,([]:List Change)++J.1.2.1,([]:List Int)++J.1.2.2.1,([]:List Key)++J.1.2.2.2.1,()),())) else none) else none) else none
theorem ae (k:Nat) (J:Arg):@Eq (Option Out) (D.W k J) (p J):=by kernel_rfl
theorem ok:Ok prog 202 D.sig:=aw func202 aM (by kernel_rfl) (an _)
end fW
namespace dF
abbrev Arg:Type:=(List Tx)×Unit
abbrev Out:Type:=(List Tx)×Unit
abbrev ps:PQ:=[(.ro,(.aa aC))]
noncomputable def D:FD:={ fn:=f160,tl:=bd,ps:=ps,rs:=[((.aa aC),(av (.aa aC)))],gl:=[(202,fW.D.sig)],lv:=[(3,[0,3,4])],lx:=[(0,[3])] }
noncomputable def ab (a:Arg):Option Out:=@lift Out λk=>D.W k a
noncomputable def T0 (J:Arg) (U:(List Tx)×Int):St:={ n:=21,sl:=[(0,.val (.aa aC) J.1),(3,.own (.aa aC) (av (.aa aC)) [] U.1),(4,.val i64 U.2)],vr:=[],aA:=[] }
noncomputable def b0 (self:((List Tx)×Int)->Option Out) (e0:(List Tx)->Option Out) (J:Arg) (U:(List Tx)×Int):Option Out:=bif decide (U.2 < (J.1.length:Int)) then (if 0<=U.2 then ((J.1[U.2.toNat]?).bind λaT=>(fW.ab (aT,())).bind λbO=>if U.1.length+[bO.1].length<=bX then (self (U.1++[bO.1],ai (U.2+(1:Int)))) else none) else none) else e0 U.1
noncomputable abbrev B0 (_:Nat):=b0
noncomputable def q0 (J:Arg) (cK:(List Tx)):Option Out:=some (cK,())
noncomputable abbrev Q0 (_:Nat):=q0
noncomputable def s0 (k:Nat) (J:Arg):((List Tx)×Int)->Option Out:=λU=>D.L k [1,1,0,1,0,0] [0,3,4] [] (aj 0 (aG (D.N k [1,1,1]) D.K0)) (T0 J U)
noncomputable def r0 (k:Nat) (J:Arg):((List Tx)×Int)->Option Out:=au (λw v=>B0 k w (Q0 k J) J v) k
theorem aO (k:Nat) (J:Arg):s0 k J=r0 k J:=
 funext λU=>aH _ _ _ (T0 J) _ (λrec v=>by kernel_rfl) k U
noncomputable def p (l0:((List Tx)×Int)->Option Out) (J:Arg):Option Out:=l0 (([]:List Tx),(0:Int))
theorem ae (k:Nat) (J:Arg):@Eq (Option Out) (D.W k J) (p (r0 k J) J):=
 Eq.trans (b:=p (s0 k J) J) (by kernel_rfl) (by rw[aO])
theorem ok:Ok prog 160 D.sig:=aw func160 aM (by kernel_rfl) (fc fW.ok (an _))
end dF
namespace iz
abbrev Arg:Type:=Plain×Unit
abbrev Out:Type:=Plain×Unit
abbrev ps:PQ:=[(.ro,bF)]
noncomputable def D:FD:={ fn:=f104,tl:=bd,ps:=ps,rs:=[(bF,(av bF))],gl:=[(160,dF.D.sig)],od:=[(1,[1,2,4,5,7,8,0,3,6,9,10])],ar:=[(1,[2,5,8])],bx:=[(1,[1])] }
noncomputable def ab (a:Arg):Option Out:=@lift Out λk=>D.W k a
noncomputable def p (J:Arg):Option Out:=if ([]:List Row).length+J.1.1.length<=bX then ((dF.ab (J.1.2.1,())).bind λr2=>some ((([]:List Row)++J.1.1,r2.1,J.1.2.2.1,()),())) else none
theorem ae (k:Nat) (J:Arg):@Eq (Option Out) (D.W k J) (p J):=by kernel_rfl
theorem ok:Ok prog 104 D.sig:=aw func104 aM (by kernel_rfl) (fc dF.ok (an _))
end iz
namespace jo
abbrev Arg:Type:=Tx×Int×Unit
abbrev Out:Type:=(List Change)×Tx×Unit
abbrev ps:PQ:=[(.du (ag aC) (ag aC),aC),(.ro,i64)]
noncomputable def D:FD:={ fn:=f107,tl:=bd,ps:=ps,rs:=[((.aa ay),(av (.aa ay)))],es:=[0] }
noncomputable def ab (a:Arg):Option Out:=@lift Out λk=>D.W k a
noncomputable def p (J:Arg):Option Out:=if 0<=J.2.1 then ((J.1.2.2.1[J.2.1.toNat]?).bind λx2=>if 0<=x2/\x2<=(J.1.2.1.length:Int) then (if ([]:List Change).length+((J.1.2.1.take J.1.2.1.length).drop x2.toNat).length<=bX then (let y3:=([]:List Change)++((J.1.2.1.take J.1.2.1.length).drop x2.toNat);if 0<=x2/\x2<=(J.1.2.1.length:Int) then (if 0<=ai (J.2.1+(1:Int))/\ai (J.2.1+(1:Int))<=(J.1.2.2.1.length:Int) then (let y4:=(J.1.2.2.1.take (ai (J.2.1+(1:Int))).toNat).drop 0;some (y3,(J.1.1,(J.1.2.1.take x2.toNat).drop 0,y4,J.1.2.2.2),())) else none) else none) else none) else none) else none
theorem ae (k:Nat) (J:Arg):@Eq (Option Out) (D.W k J) (p J):=by kernel_rfl
theorem ok:Ok prog 107 D.sig:=aw func107 aM (by kernel_rfl) (an _)
end jo
namespace eS
abbrev Arg:Type:=(List Tx)×Int×Unit
abbrev Out:Type:=(List Tx)×Unit
abbrev ps:PQ:=[(.ro,(.aa aC)),(.ro,i64)]
noncomputable def D:FD:={ fn:=f108,tl:=bd,ps:=ps,rs:=[((.aa aC),(.aa true (ag aC)))],lv:=[(3,[0,1,5,6])],lx:=[(0,[5])],lf:=[(3,[(5,(.aa true (.pair .leaf (.pair (.aa false (.pair .leaf (.pair (.pair .leaf (.pair .leaf (.pair .leaf (.pair .leaf .leaf)))) (.pair .leaf (.pair (.pair .leaf (.pair .leaf (.pair .leaf (.pair .leaf .leaf)))) .leaf))))) (.pair (.aa false .leaf) (.pair (.aa false (.pair .leaf (.pair .leaf .leaf))) .leaf))))))])] }
noncomputable def ab (a:Arg):Option Out:=@lift Out λk=>D.W k a
noncomputable def T0 (J:Arg) (U:(List Tx)×Int):St:={ n:=25,sl:=[(0,.val (.aa aC) J.1),(1,.val i64 J.2.1),(5,.own (.aa aC) (.aa true (ag aC)) [] U.1),(6,.val i64 U.2)],vr:=[],aA:=[] }
noncomputable def b0 (self:((List Tx)×Int)->Option Out) (e0:(List Tx)->Option Out) (J:Arg) (U:(List Tx)×Int):Option Out:=bif decide (U.2 < (J.1.length:Int)) then (bif !decide (U.2=J.2.1) then (if 0<=U.2 then ((J.1[U.2.toNat]?).bind λaT=>if U.1.length+[aT].length<=bX then (self (U.1++[aT],ai (U.2+(1:Int)))) else none) else none) else self (U.1,ai (U.2+(1:Int)))) else e0 U.1
noncomputable abbrev B0 (_:Nat):=b0
noncomputable def q0 (J:Arg) (sK:(List Tx)):Option Out:=some (sK,())
noncomputable abbrev Q0 (_:Nat):=q0
noncomputable def s0 (k:Nat) (J:Arg):((List Tx)×Int)->Option Out:=λU=>D.L k [1,1,0,1,0,0] [0,1,5,6] [(5,(.aa true (.pair .leaf (.pair (.aa false (.pair .leaf (.pair (.pair .leaf (.pair .leaf (.pair .leaf (.pair .leaf .leaf)))) (.pair .leaf (.pair (.pair .leaf (.pair .leaf (.pair .leaf (.pair .leaf .leaf)))) .leaf))))) (.pair (.aa false .leaf) (.pair (.aa false (.pair .leaf (.pair .leaf .leaf))) .leaf))))))] (aj 0 (aG (D.N k [1,1,1]) D.K0)) (T0 J U)
noncomputable def r0 (k:Nat) (J:Arg):((List Tx)×Int)->Option Out:=au (λw v=>B0 k w (Q0 k J) J v) k
theorem aO (k:Nat) (J:Arg):s0 k J=r0 k J:=
 funext λU=>aH _ _ _ (T0 J) _ (λrec v=>by kernel_rfl) k U
noncomputable def p (l0:((List Tx)×Int)->Option Out) (J:Arg):Option Out:=l0 (([]:List Tx),(0:Int))
theorem ae (k:Nat) (J:Arg):@Eq (Option Out) (D.W k J) (p (r0 k J) J):=
 Eq.trans (b:=p (s0 k J) J) (by kernel_rfl) (by rw[aO])
theorem ok:Ok prog 108 D.sig:=aw func108 aM (by kernel_rfl) (an _)
end eS
namespace cX
abbrev Arg:Type:=(List Tx)×Int×Change×Unit
abbrev Out:Type:=(List Tx)×Unit
abbrev ps:PQ:=[(.ro,(.aa aC)),(.ro,i64),(.ro,ay)]
noncomputable def D:FD:={ fn:=f110,tl:=bd,ps:=ps,rs:=[((.aa aC),(av (.aa aC)))],gl:=[(160,dF.D.sig),(162,ey.D.sig),(163,cn.D.sig)],od:=[(3,[0,1,2,3,4,5,6,7,8,9,10]),(6,[0,1,2,3,4,5,6,7,8,9,10])] }
noncomputable def ab (a:Arg):Option Out:=@lift Out λk=>D.W k a
noncomputable def p (J:Arg):Option Out:=(dF.ab (J.1,())).bind λr2=>if 0<=J.2.1/\J.2.1 < (r2.1.length:Int) then ((r2.1[J.2.1.toNat]?).bind λx3=>(r2.1[J.2.1.toNat]?).bind λx4=>(r2.1[J.2.1.toNat]?).bind λx5=>if x4.2.1.length+[J.2.2.1].length<=bX then (if J.2.1.toNat=J.2.1.toNat then ((r2.1.set J.2.1.toNat x5)[J.2.1.toNat]?).bind λx6=>let y7:=(r2.1.set J.2.1.toNat x5).set J.2.1.toNat (x6.1,x4.2.1++[J.2.2.1],x6.2.2);(ey.ab (J.2.2.1,())).bind λr8=>(y7[J.2.1.toNat]?).bind λx9=>(cn.ab (x9,r8.1,())).bind λkV=>bif !kV.1 then ((y7[J.2.1.toNat]?).bind λzC=>(y7[J.2.1.toNat]?).bind λvD=>(y7[J.2.1.toNat]?).bind λuh=>if vD.2.2.2.1.length+[r8.1].length<=bX then (if J.2.1.toNat=J.2.1.toNat then ((y7.set J.2.1.toNat uh)[J.2.1.toNat]?).bind λxG=>let RH:=(y7.set J.2.1.toNat uh).set J.2.1.toNat (xG.1,xG.2.1,xG.2.2.1,vD.2.2.2.1++[r8.1],xG.2.2.2.2);some (RH,()) else none) else none) else some (y7,()) else none) else none) else none
theorem ae (k:Nat) (J:Arg):@Eq (Option Out) (D.W k J) (p J):=by kernel_rfl
theorem ok:Ok prog 110 D.sig:=aw func110 aM (by kernel_rfl) (fc dF.ok (fc ey.ok (fc cn.ok (an _))))
end cX
namespace cD
abbrev Arg:Type:=Plain×Op×aK×Unit
abbrev Out:Type:=dN×Unit
abbrev ps:PQ:=[(.ro,bF),(.ro,(.ptr e_)),(.ro,(.ptr bz))]
noncomputable def D:FD:={ fn:=f39,tl:=bd,ps:=ps,rs:=[(dD,(.pair (ag i64) (.pair (ag i64) (.pair (.pair (ag (.aa ak)) (.pair (.aa true (ag aC)) (ag (ba [i64])))) (ag .unit)))))],gl:=[(37,fP.D.sig),(104,iz.D.sig),(105,dp.D.sig),(106,cL.D.sig),(107,jo.D.sig),(108,eS.D.sig),(109,cx.D.sig),(110,cX.D.sig)],od:=[(3,[0,1,2,3,4,5,6,7,8,9]),(8,[0,1,2,3,4,5,6,7,8,9,10,11,12]),(13,[0,1,2,3,4,5,6,7,8,9,10,11,12,13,14,15,16,17,18,19,20,21,22,23,24,25,26]),(15,[0,1,2,3,4,5,6,7,8,9,10,11,12,13,14,15,16,17,18,19,20,21,22]),(19,[0,1,2,3,4,5,6,7,8,9,10,11,12,13,14,15,16,17,18,19]),(22,[0,1,2,3,4,5,6,7,8,9,10,11,12,13,14]),(23,[0,1,2,3,4,5,6,7,8,9,10,11,12,13])],er:=[(13,[(3,27)]),(15,[(4,22)])] }
noncomputable def ab (a:Arg):Option Out:=@lift Out λk=>D.W k a
noncomputable def p (J:Arg):Option Out:=(iz.ab (J.1,())).bind λr2=>(dp.ab (r2.1.2.1,J.2.1.2.1,())).bind λr3=>bif decide (J.2.1.1=(1:Int)) then (bif decide ((100:Int)<=J.1.2.2.1) then ((fP.ab ((9:Int),())).bind λr4=>some (r4.1,())) else if r2.1.2.1.length+[(J.1.2.2.1,([]:List Change),([]:List Int),([]:List Key),())].length<=bX then (let y5:=r2.1.2.1++[(J.1.2.2.1,([]:List Change),([]:List Int),([]:List Key),())];bif J.2.2.1.2.1 then ((cx.ab (r2.1.1,J.2.2.1.2.2.1,())).bind λMu=>(cX.ab (y5,r3.1,J.2.2.1.2.2.1,())).bind λMv=>some (((0:Int),J.1.2.2.1,(Mu.1,Mv.1,ai (J.1.2.2.1+(1:Int)),r2.1.2.2.2),()),())) else some (((0:Int),J.1.2.2.1,(r2.1.1,y5,ai (J.1.2.2.1+(1:Int)),r2.1.2.2.2),()),())) else none) else bif decide (J.2.1.1=(5:Int)) then (if 0<=r3.1/\r3.1 < (r2.1.2.1.length:Int) then ((r2.1.2.1[r3.1.toNat]?).bind λx6=>(r2.1.2.1[r3.1.toNat]?).bind λx7=>if 0<=r3.1/\r3.1 < (r2.1.2.1.length:Int) then ((r2.1.2.1[r3.1.toNat]?).bind λx8=>if 0<=r3.1/\r3.1 < (r2.1.2.1.length:Int) then ((r2.1.2.1[r3.1.toNat]?).bind λx9=>(r2.1.2.1[r3.1.toNat]?).bind λvE=>(r2.1.2.1[r3.1.toNat]?).bind λzC=>(r2.1.2.1[r3.1.toNat]?).bind λvD=>if zC.2.2.1.length+[(vE.2.1.length:Int)].length<=bX then (if 0<=r3.1/\r3.1 < ((r2.1.2.1.set r3.1.toNat vD).length:Int) then (if r3.1.toNat=r3.1.toNat then ((r2.1.2.1.set r3.1.toNat vD)[r3.1.toNat]?).bind λuh=>let O3:=(r2.1.2.1.set r3.1.toNat vD).set r3.1.toNat (uh.1,uh.2.1,zC.2.2.1++[(vE.2.1.length:Int)],uh.2.2.2);bif J.2.2.1.2.1 then ((cx.ab (r2.1.1,J.2.2.1.2.2.1,())).bind λMw=>(cX.ab (O3,r3.1,J.2.2.1.2.2.1,())).bind λRI=>some (((0:Int),(x7.2.2.1.length:Int),(Mw.1,RI.1,r2.1.2.2),()),())) else some (((0:Int),(x7.2.2.1.length:Int),(r2.1.1,O3,r2.1.2.2),()),()) else none) else none) else none) else none) else none) else none) else bif decide (J.2.1.1=(6:Int)) then (if 0<=r3.1/\r3.1 < (r2.1.2.1.length:Int) then ((r2.1.2.1[r3.1.toNat]?).bind λxH=>(r2.1.2.1[r3.1.toNat]?).bind λqb=>((r2.1.2.1.set r3.1.toNat qb)[r3.1.toNat]?).bind λRJ=>(jo.ab (RJ,J.2.1.2.2.2.1,())).bind λO4=>((r2.1.2.1.set r3.1.toNat qb)[r3.1.toNat]?).bind λO5=>let O6:=(r2.1.2.1.set r3.1.toNat qb).set r3.1.toNat O4.2.1;(cL.ab (r2.1.1,O4.1,())).bind λO7=>bif J.2.2.1.2.1 then ((cx.ab (O7.1,J.2.2.1.2.2.1,())).bind λRK=>(cX.ab (O6,r3.1,J.2.2.1.2.2.1,())).bind λRL=>some (((0:Int),(0:Int),(RK.1,RL.1,r2.1.2.2),()),())) else some (((0:Int),(0:Int),(O7.1,O6,r2.1.2.2),()),())) else none) else bif decide (J.2.1.1=(7:Int)) then ((eS.ab (r2.1.2.1,r3.1,())).bind λO8=>bif J.2.2.1.2.1 then ((cx.ab (r2.1.1,J.2.2.1.2.2.1,())).bind λRM=>(cX.ab (O8.1,r3.1,J.2.2.1.2.2.1,())).bind λRN=>some (((0:Int),(0:Int),(RM.1,RN.1,r2.1.2.2),()),())) else some (((0:Int),(0:Int),(r2.1.1,O8.1,r2.1.2.2),()),())) else bif decide (J.2.1.1=(8:Int)) then (if 0<=r3.1/\r3.1 < (r2.1.2.1.length:Int) then ((r2.1.2.1[r3.1.toNat]?).bind λMx=>(r2.1.2.1[r3.1.toNat]?).bind λJ9=>((r2.1.2.1.set r3.1.toNat J9)[r3.1.toNat]?).bind λDD=>(cL.ab (r2.1.1,DD.2.1,())).bind λJ_=>(eS.ab (r2.1.2.1.set r3.1.toNat J9,r3.1,())).bind λKa=>bif J.2.2.1.2.1 then ((cx.ab (J_.1,J.2.2.1.2.2.1,())).bind λRP=>(cX.ab (Ka.1,r3.1,J.2.2.1.2.2.1,())).bind λRR=>some (((0:Int),(0:Int),(RP.1,RR.1,r2.1.2.2),()),())) else some (((0:Int),(0:Int),(J_.1,Ka.1,r2.1.2.2),()),())) else none) else bif J.2.2.1.2.1 then ((cx.ab (r2.1.1,J.2.2.1.2.2.1,())).bind λRS=>(cX.ab (r2.1.2.1,r3.1,J.2.2.1.2.2.1,())).bind λRU=>some (((0:Int),(0:Int),(RS.1,RU.1,r2.1.2.2),()),())) else some (((0:Int),(0:Int),r2.1,()),())
theorem ae (k:Nat) (J:Arg):@Eq (Option Out) (D.W k J) (p J):=by kernel_rfl
theorem ok:Ok prog 39 D.sig:=aw func39 aM (by kernel_rfl) (fc fP.ok (fc iz.ok (fc dp.ok (fc cL.ok (fc jo.ok (fc eS.ok (fc cx.ok (fc cX.ok (an _)))))))))
end cD
namespace cu
abbrev Arg:Type:=Plain×Op×Unit
abbrev Out:Type:=dN×Unit
abbrev ps:PQ:=[(.ro,bF),(.ro,e_)]
noncomputable def D:FD:={ fn:=f9,tl:=bd,ps:=ps,rs:=[(dD,(.pair (ag i64) (.pair (ag i64) (.pair (.pair (ag (.aa ak)) (.pair (.aa true (ag aC)) (ag (ba [i64])))) (ag .unit)))))],gl:=[(36,gb.D.sig),(37,fP.D.sig),(38,gG.D.sig),(39,cD.D.sig)] }
noncomputable def ab (a:Arg):Option Out:=@lift Out λk=>D.W k a
noncomputable def p (J:Arg):Option Out:=(gb.ab (J.1,())).bind λr2=>bif !decide (r2.1=(0:Int)) then ((fP.ab (r2.1,())).bind λr3=>some (r3.1,())) else (gG.ab (J.1.1,J.1.2.1,J.2.1,())).bind λr4=>bif !decide (r4.1.1=(0:Int)) then ((fP.ab (r4.1.1,())).bind λr5=>some (r5.1,())) else (cD.ab (J.1,J.2.1,r4.1,())).bind λr6=>some (r6.1,())
theorem ae (k:Nat) (J:Arg):@Eq (Option Out) (D.W k J) (p J):=by kernel_rfl
theorem ok:Ok prog 9 D.sig:=aw func9 aM (by kernel_rfl) (fc gb.ok (fc fP.ok (fc gG.ok (fc cD.ok (an _)))))
end cu
namespace dw
abbrev Arg:Type:=(List Op)×Unit
abbrev Out:Type:=dt×Unit
abbrev ps:PQ:=[(.ro,(.aa e_))]
noncomputable def D:FD:={ fn:=f79,tl:=bd,ps:=ps,rs:=[(iZ,(.pair (ag i64) (.pair (av (.aa i64)) (.pair (av (.aa i64)) (ag (ba [bF]))))))],gl:=[(9,cu.D.sig)],fz:=[(7,1,7)],lv:=[(5,[0,2,3,4])],lx:=[(0,[2,3])],lf:=[(5,[(3,(.pair .leaf (.pair (.aa true .leaf) (.pair (.aa true .leaf) (.pair (.pair (.aa false (.pair .leaf (.pair .leaf (.pair .leaf (.pair .leaf .leaf))))) (.pair (.aa false (.pair .leaf (.pair (.aa false (.pair .leaf (.pair (.pair .leaf (.pair .leaf (.pair .leaf (.pair .leaf .leaf)))) (.pair .leaf (.pair (.pair .leaf (.pair .leaf (.pair .leaf (.pair .leaf .leaf)))) .leaf))))) (.pair (.aa false .leaf) (.pair (.aa false (.pair .leaf (.pair .leaf .leaf))) .leaf))))) (.pair .leaf .leaf))) .leaf)))))])],od:=[(7,[0,1,2,3,4,5,6,7,8])],ar:=[(7,[5])],pd:=[(7,[7])],er:=[(7,[(1,9)])] }
noncomputable def ab (a:Arg):Option Out:=@lift Out λk=>D.W k a
noncomputable def T0 (J:Arg) (U:dt×Int):St:={ n:=46,sl:=[(0,.val (.aa e_) J.1),(2,.box iZ (av iZ) [] ((0:Int),([]:List Int),([]:List Int),(([]:List Row),([]:List Tx),(0:Int),()),())),(3,.box iZ (.pair (ag i64) (.pair (av (.aa i64)) (.pair (av (.aa i64)) (ag (ba [bF]))))) [] U.1),(4,.val i64 U.2)],vr:=[],aA:=[] }
noncomputable def b0 (self:(dt×Int)->Option Out) (e0:dt->Option Out) (J:Arg) (U:dt×Int):Option Out:=bif decide (U.2 < (J.1.length:Int)) then (if 0<=U.2 then ((J.1[U.2.toNat]?).bind λaT=>(cu.ab (U.1.2.2.2.1,aT,())).bind λbO=>if U.1.2.1.length+[bO.1.1].length<=bX then (if U.1.2.2.1.length+[bO.1.2.1].length<=bX then (bif decide (bO.1.1=(0:Int)) then (self ((U.1.1,U.1.2.1++[bO.1.1],U.1.2.2.1++[bO.1.2.1],bO.1.2.2.1,U.1.2.2.2.2),ai (U.2+(1:Int)))) else self ((U.1.1,U.1.2.1++[bO.1.1],U.1.2.2.1++[bO.1.2.1],U.1.2.2.2),ai (U.2+(1:Int)))) else none) else none) else none) else e0 U.1
noncomputable abbrev B0 (_:Nat):=b0
noncomputable def q0 (J:Arg) (cK:dt):Option Out:=some (cK,())
noncomputable abbrev Q0 (_:Nat):=q0
noncomputable def s0 (k:Nat) (J:Arg):(dt×Int)->Option Out:=λU=>D.L k [1,1,1,0,1,0,0] [0,2,3,4] [(3,(.pair .leaf (.pair (.aa true .leaf) (.pair (.aa true .leaf) (.pair (.pair (.aa false (.pair .leaf (.pair .leaf (.pair .leaf (.pair .leaf .leaf))))) (.pair (.aa false (.pair .leaf (.pair (.aa false (.pair .leaf (.pair (.pair .leaf (.pair .leaf (.pair .leaf (.pair .leaf .leaf)))) (.pair .leaf (.pair (.pair .leaf (.pair .leaf (.pair .leaf (.pair .leaf .leaf)))) .leaf))))) (.pair (.aa false .leaf) (.pair (.aa false (.pair .leaf (.pair .leaf .leaf))) .leaf))))) (.pair .leaf .leaf))) .leaf)))))] (aj 0 (aG (D.N k [1,1,1,1]) D.K0)) (T0 J U)
noncomputable def r0 (k:Nat) (J:Arg):(dt×Int)->Option Out:=au (λw v=>B0 k w (Q0 k J) J v) k
theorem aO (k:Nat) (J:Arg):s0 k J=r0 k J:=
 funext λU=>aH _ _ _ (T0 J) _ (λrec v=>by kernel_rfl) k U
noncomputable def p (l0:(dt×Int)->Option Out) (J:Arg):Option Out:=bif decide ((60:Int) < (J.1.length:Int)) then (some (((2:Int),([]:List Int),([]:List Int),(([]:List Row),([]:List Tx),(0:Int),()),()),())) else l0 (((0:Int),([]:List Int),([]:List Int),(([]:List Row),([]:List Tx),(1:Int),()),()),(0:Int))
theorem ae (k:Nat) (J:Arg):@Eq (Option Out) (D.W k J) (p (r0 k J) J):=
 Eq.trans (b:=p (s0 k J) J) (by kernel_rfl) (by rw[aO])
theorem ok:Ok prog 79 D.sig:=aw func79 aM (by kernel_rfl) (fc cu.ok (an _))
end dw
namespace cR
abbrev Arg:Type:=ax×Int×Unit
abbrev Out:Type:=Bool×ax×Unit
abbrev ps:PQ:=[(.du (ag bi) (ag bi),bi),(.ro,i64)]
noncomputable def D:FD:={ fn:=f27,tl:=bd,ps:=ps,rs:=[(.bool,(ag .bool))],gl:=[(51,am.D.sig)],es:=[0] }
noncomputable def ab (a:Arg):Option Out:=@lift Out λk=>D.W k a
noncomputable def p (J:Arg):Option Out:=(am.ab (J.1,J.2.1,())).bind λr2=>some (decide (r2.1=(0:Int)),r2.2.1,())
theorem ae (k:Nat) (J:Arg):@Eq (Option Out) (D.W k J) (p J):=by kernel_rfl
theorem ok:Ok prog 27 D.sig:=aw func27 aM (by kernel_rfl) (fc am.ok (an _))
end cR
namespace da
abbrev Arg:Type:=ax×Unit
abbrev Out:Type:=Row×ax×Unit
abbrev ps:PQ:=[(.du (ag bi) (ag bi),bi)]
noncomputable def D:FD:={ fn:=f83,tl:=bd,ps:=ps,rs:=[(ak,(ag ak))],gl:=[(51,am.D.sig),(71,aR.D.sig)],es:=[0] }
noncomputable def ab (a:Arg):Option Out:=@lift Out λk=>D.W k a
noncomputable def p (J:Arg):Option Out:=(am.ab (J.1,(3:Int),())).bind λr2=>(am.ab (r2.2.1,(6:Int),())).bind λr3=>(am.ab (r3.2.1,(9:Int),())).bind λr4=>(aR.ab (r4.2.1,[r4.1,(300:Int),(999:Int)],())).bind λr5=>(am.ab (r5.2.1,(4:Int),())).bind λr6=>if 0<=r6.1/\r6.1 < ([([]:List UInt8),([97]:List UInt8),([97,98,99]:List UInt8),([97,98,99,100,101,102,103,104]:List UInt8)].length:Int) then (([([]:List UInt8),([97]:List UInt8),([97,98,99]:List UInt8),([97,98,99,100,101,102,103,104]:List UInt8)][r6.1.toNat]?).bind λx7=>some ((r2.1,ai ((1:Int)+r3.1),r5.1,x7,()),r6.2.1,())) else none
theorem ae (k:Nat) (J:Arg):@Eq (Option Out) (D.W k J) (p J):=by kernel_rfl
theorem ok:Ok prog 83 D.sig:=aw func83 aM (by kernel_rfl) (fc am.ok (fc aR.ok (an _)))
end da
namespace cM
abbrev Arg:Type:=ax×(List Row)×(List Tx)×Unit
abbrev Out:Type:=Op×ax×Unit
abbrev ps:PQ:=[(.du (ag bi) (ag bi),bi),(.ro,(.aa ak)),(.ro,(.aa aC))]
noncomputable def D:FD:={ fn:=f29,tl:=bd,ps:=ps,rs:=[(e_,(ag e_))],gl:=[(27,cR.D.sig),(51,am.D.sig),(71,aR.D.sig),(83,da.D.sig)],es:=[0] }
noncomputable def ab (a:Arg):Option Out:=@lift Out λk=>D.W k a
noncomputable def p (J:Arg):Option Out:=(am.ab (J.1,(4:Int),())).bind λr2=>let ID:=λ(P9:ax) (dc:Int)=>((da.ab (P9,())).bind λMy=>(aR.ab (My.2.1,[(1:Int),(1:Int),(1:Int),(2:Int),(0:Int)],())).bind λES=>let Mz:=λ(MA:ax) (IE:Row)=>(let IF:=λ(P_:ax) (yN:Row)=>(let MB:=λ(fL:Row)=>((am.ab (P_,(12:Int),())).bind λaN=>bif decide (aN.1=(0:Int)) then (some (((1:Int),(0:Int),((0:Int),(0:Int),(0:Int),([]:List UInt8),()),(0:Int),()),aN.2.1,())) else bif decide (aN.1=(1:Int)) then (bif decide (aN.1=(1:Int)) then (some (((2:Int),dc,fL,(0:Int),()),aN.2.1,())) else bif decide (aN.1=(4:Int)) then (bif decide (aN.1=(4:Int)) then (some (((3:Int),dc,fL,(0:Int),()),aN.2.1,())) else bif decide (aN.1=(7:Int)) then (some (((4:Int),dc,(fL.1,fL.2.1,(0:Int),([]:List UInt8),()),(0:Int),()),aN.2.1,())) else bif decide (aN.1=(8:Int)) then (some (((5:Int),dc,((0:Int),(0:Int),(0:Int),([]:List UInt8),()),(0:Int),()),aN.2.1,())) else bif decide (aN.1=(9:Int)) then ((am.ab (aN.2.1,(3:Int),())).bind λMC=>some (((6:Int),dc,((0:Int),(0:Int),(0:Int),([]:List UInt8),()),MC.1,()),MC.2.1,())) else bif decide (aN.1=(10:Int)) then ((aR.ab (aN.2.1,[(7:Int),(8:Int)],())).bind λMD=>some ((MD.1,dc,((0:Int),(0:Int),(0:Int),([]:List UInt8),()),(0:Int),()),MD.2.1,())) else some (((9:Int),(0:Int),((0:Int),(0:Int),(0:Int),([]:List UInt8),()),(0:Int),()),aN.2.1,())) else bif decide (aN.1=(5:Int)) then (bif decide (aN.1=(5:Int)) then (some (((3:Int),dc,fL,(0:Int),()),aN.2.1,())) else bif decide (aN.1=(7:Int)) then (some (((4:Int),dc,(fL.1,fL.2.1,(0:Int),([]:List UInt8),()),(0:Int),()),aN.2.1,())) else bif decide (aN.1=(8:Int)) then (some (((5:Int),dc,((0:Int),(0:Int),(0:Int),([]:List UInt8),()),(0:Int),()),aN.2.1,())) else bif decide (aN.1=(9:Int)) then ((am.ab (aN.2.1,(3:Int),())).bind λME=>some (((6:Int),dc,((0:Int),(0:Int),(0:Int),([]:List UInt8),()),ME.1,()),ME.2.1,())) else bif decide (aN.1=(10:Int)) then ((aR.ab (aN.2.1,[(7:Int),(8:Int)],())).bind λMF=>some ((MF.1,dc,((0:Int),(0:Int),(0:Int),([]:List UInt8),()),(0:Int),()),MF.2.1,())) else some (((9:Int),(0:Int),((0:Int),(0:Int),(0:Int),([]:List UInt8),()),(0:Int),()),aN.2.1,())) else bif decide (aN.1=(6:Int)) then (some (((3:Int),dc,fL,(0:Int),()),aN.2.1,())) else bif decide (aN.1=(7:Int)) then (some (((4:Int),dc,(fL.1,fL.2.1,(0:Int),([]:List UInt8),()),(0:Int),()),aN.2.1,())) else bif decide (aN.1=(8:Int)) then (some (((5:Int),dc,((0:Int),(0:Int),(0:Int),([]:List UInt8),()),(0:Int),()),aN.2.1,())) else bif decide (aN.1=(9:Int)) then ((am.ab (aN.2.1,(3:Int),())).bind λMG=>some (((6:Int),dc,((0:Int),(0:Int),(0:Int),([]:List UInt8),()),MG.1,()),MG.2.1,())) else bif decide (aN.1=(10:Int)) then ((aR.ab (aN.2.1,[(7:Int),(8:Int)],())).bind λMH=>some ((MH.1,dc,((0:Int),(0:Int),(0:Int),([]:List UInt8),()),(0:Int),()),MH.2.1,())) else some (((9:Int),(0:Int),((0:Int),(0:Int),(0:Int),([]:List UInt8),()),(0:Int),()),aN.2.1,())) else bif decide (aN.1=(2:Int)) then (bif decide (aN.1=(2:Int)) then (some (((2:Int),dc,fL,(0:Int),()),aN.2.1,())) else bif decide (aN.1=(4:Int)) then (bif decide (aN.1=(4:Int)) then (some (((3:Int),dc,fL,(0:Int),()),aN.2.1,())) else bif decide (aN.1=(7:Int)) then (some (((4:Int),dc,(fL.1,fL.2.1,(0:Int),([]:List UInt8),()),(0:Int),()),aN.2.1,())) else bif decide (aN.1=(8:Int)) then (some (((5:Int),dc,((0:Int),(0:Int),(0:Int),([]:List UInt8),()),(0:Int),()),aN.2.1,())) else bif decide (aN.1=(9:Int)) then ((am.ab (aN.2.1,(3:Int),())).bind λMI=>some (((6:Int),dc,((0:Int),(0:Int),(0:Int),([]:List UInt8),()),MI.1,()),MI.2.1,())) else bif decide (aN.1=(10:Int)) then ((aR.ab (aN.2.1,[(7:Int),(8:Int)],())).bind λMJ=>some ((MJ.1,dc,((0:Int),(0:Int),(0:Int),([]:List UInt8),()),(0:Int),()),MJ.2.1,())) else some (((9:Int),(0:Int),((0:Int),(0:Int),(0:Int),([]:List UInt8),()),(0:Int),()),aN.2.1,())) else bif decide (aN.1=(5:Int)) then (bif decide (aN.1=(5:Int)) then (some (((3:Int),dc,fL,(0:Int),()),aN.2.1,())) else bif decide (aN.1=(7:Int)) then (some (((4:Int),dc,(fL.1,fL.2.1,(0:Int),([]:List UInt8),()),(0:Int),()),aN.2.1,())) else bif decide (aN.1=(8:Int)) then (some (((5:Int),dc,((0:Int),(0:Int),(0:Int),([]:List UInt8),()),(0:Int),()),aN.2.1,())) else bif decide (aN.1=(9:Int)) then ((am.ab (aN.2.1,(3:Int),())).bind λMK=>some (((6:Int),dc,((0:Int),(0:Int),(0:Int),([]:List UInt8),()),MK.1,()),MK.2.1,())) else bif decide (aN.1=(10:Int)) then ((aR.ab (aN.2.1,[(7:Int),(8:Int)],())).bind λML=>some ((ML.1,dc,((0:Int),(0:Int),(0:Int),([]:List UInt8),()),(0:Int),()),ML.2.1,())) else some (((9:Int),(0:Int),((0:Int),(0:Int),(0:Int),([]:List UInt8),()),(0:Int),()),aN.2.1,())) else bif decide (aN.1=(6:Int)) then (some (((3:Int),dc,fL,(0:Int),()),aN.2.1,())) else bif decide (aN.1=(7:Int)) then (some (((4:Int),dc,(fL.1,fL.2.1,(0:Int),([]:List UInt8),()),(0:Int),()),aN.2.1,())) else bif decide (aN.1=(8:Int)) then (some (((5:Int),dc,((0:Int),(0:Int),(0:Int),([]:List UInt8),()),(0:Int),()),aN.2.1,())) else bif decide (aN.1=(9:Int)) then ((am.ab (aN.2.1,(3:Int),())).bind λMM=>some (((6:Int),dc,((0:Int),(0:Int),(0:Int),([]:List UInt8),()),MM.1,()),MM.2.1,())) else bif decide (aN.1=(10:Int)) then ((aR.ab (aN.2.1,[(7:Int),(8:Int)],())).bind λMN=>some ((MN.1,dc,((0:Int),(0:Int),(0:Int),([]:List UInt8),()),(0:Int),()),MN.2.1,())) else some (((9:Int),(0:Int),((0:Int),(0:Int),(0:Int),([]:List UInt8),()),(0:Int),()),aN.2.1,())) else bif decide (aN.1=(3:Int)) then (some (((2:Int),dc,fL,(0:Int),()),aN.2.1,())) else bif decide (aN.1=(4:Int)) then (bif decide (aN.1=(4:Int)) then (some (((3:Int),dc,fL,(0:Int),()),aN.2.1,())) else bif decide (aN.1=(7:Int)) then (some (((4:Int),dc,(fL.1,fL.2.1,(0:Int),([]:List UInt8),()),(0:Int),()),aN.2.1,())) else bif decide (aN.1=(8:Int)) then (some (((5:Int),dc,((0:Int),(0:Int),(0:Int),([]:List UInt8),()),(0:Int),()),aN.2.1,())) else bif decide (aN.1=(9:Int)) then ((am.ab (aN.2.1,(3:Int),())).bind λMO=>some (((6:Int),dc,((0:Int),(0:Int),(0:Int),([]:List UInt8),()),MO.1,()),MO.2.1,())) else bif decide (aN.1=(10:Int)) then ((aR.ab (aN.2.1,[(7:Int),(8:Int)],())).bind λMP=>some ((MP.1,dc,((0:Int),(0:Int),(0:Int),([]:List UInt8),()),(0:Int),()),MP.2.1,())) else some (((9:Int),(0:Int),((0:Int),(0:Int),(0:Int),([]:List UInt8),()),(0:Int),()),aN.2.1,())) else bif decide (aN.1=(5:Int)) then (bif decide (aN.1=(5:Int)) then (some (((3:Int),dc,fL,(0:Int),()),aN.2.1,())) else bif decide (aN.1=(7:Int)) then (some (((4:Int),dc,(fL.1,fL.2.1,(0:Int),([]:List UInt8),()),(0:Int),()),aN.2.1,())) else bif decide (aN.1=(8:Int)) then (some (((5:Int),dc,((0:Int),(0:Int),(0:Int),([]:List UInt8),()),(0:Int),()),aN.2.1,())) else bif decide (aN.1=(9:Int)) then ((am.ab (aN.2.1,(3:Int),())).bind λMQ=>some (((6:Int),dc,((0:Int),(0:Int),(0:Int),([]:List UInt8),()),MQ.1,()),MQ.2.1,())) else bif decide (aN.1=(10:Int)) then ((aR.ab (aN.2.1,[(7:Int),(8:Int)],())).bind λMR=>some ((MR.1,dc,((0:Int),(0:Int),(0:Int),([]:List UInt8),()),(0:Int),()),MR.2.1,())) else some (((9:Int),(0:Int),((0:Int),(0:Int),(0:Int),([]:List UInt8),()),(0:Int),()),aN.2.1,())) else bif decide (aN.1=(6:Int)) then (some (((3:Int),dc,fL,(0:Int),()),aN.2.1,())) else bif decide (aN.1=(7:Int)) then (some (((4:Int),dc,(fL.1,fL.2.1,(0:Int),([]:List UInt8),()),(0:Int),()),aN.2.1,())) else bif decide (aN.1=(8:Int)) then (some (((5:Int),dc,((0:Int),(0:Int),(0:Int),([]:List UInt8),()),(0:Int),()),aN.2.1,())) else bif decide (aN.1=(9:Int)) then ((am.ab (aN.2.1,(3:Int),())).bind λMS=>some (((6:Int),dc,((0:Int),(0:Int),(0:Int),([]:List UInt8),()),MS.1,()),MS.2.1,())) else bif decide (aN.1=(10:Int)) then ((aR.ab (aN.2.1,[(7:Int),(8:Int)],())).bind λMT=>some ((MT.1,dc,((0:Int),(0:Int),(0:Int),([]:List UInt8),()),(0:Int),()),MT.2.1,())) else some (((9:Int),(0:Int),((0:Int),(0:Int),(0:Int),([]:List UInt8),()),(0:Int),()),aN.2.1,()):Option Out);bif decide (yN.1=(0:Int)) then (MB (yN.1,yN.2.1,yN.2.2.1,([]:List UInt8),yN.2.2.2.2)) else MB yN:Option Out);bif decide ((0:Int) < (J.2.1.length:Int)) then ((cR.ab (MA,(3:Int),())).bind λIG=>bif !IG.1 then ((am.ab (IG.2.1,(J.2.1.length:Int),())).bind λIH=>if 0<=IH.1 then ((J.2.1[IH.1.toNat]?).bind λMU=>IF IH.2.1 (MU.1,MU.2.1,IE.2.2)) else none) else IF IG.2.1 IE) else IF MA IE:Option Out);bif decide (ES.1=(0:Int)) then ((aR.ab (ES.2.1,[(1:Int),(2:Int),(3:Int),(4:Int)],())).bind λMV=>(aR.ab (MV.2.1,[(8:Int),(3:Int),(0:Int),(9:Int)],())).bind λMW=>Mz MW.2.1 ((0:Int),MV.1,MW.1,([]:List UInt8),())) else Mz ES.2.1 (ES.1,My.1.2):Option Out);bif decide ((0:Int) < (J.2.2.1.length:Int)) then ((cR.ab (r2.2.1,(8:Int),())).bind λr3=>bif !r3.1 then ((am.ab (r3.2.1,(J.2.2.1.length:Int),())).bind λr4=>if 0<=r4.1 then ((J.2.2.1[r4.1.toNat]?).bind λx5=>ID r4.2.1 x5.1) else none) else ID r3.2.1 (ai ((1:Int)+r2.1))) else ID r2.2.1 (ai ((1:Int)+r2.1))
theorem ae (k:Nat) (J:Arg):@Eq (Option Out) (D.W k J) (p J):=by kernel_rfl
theorem ok:Ok prog 29 D.sig:=aw func29 aM (by kernel_rfl) (fc cR.ok (fc am.ok (fc aR.ok (fc da.ok (an _)))))
end cM
namespace cE
abbrev Arg:Type:=ax×Int×Unit
abbrev Out:Type:=(List Op)×ax×Unit
abbrev ps:PQ:=[(.du (ag bi) (ag bi),bi),(.ro,i64)]
noncomputable def D:FD:={ fn:=f80,tl:=bd,ps:=ps,rs:=[((.aa e_),(av (.aa e_)))],gl:=[(9,cu.D.sig),(29,cM.D.sig),(51,am.D.sig)],es:=[0],lv:=[(4,[0,1,5,6,7]),(8,[0,5,6,8])],lx:=[(0,[0,1,5,6]),(2,[0,6])],lf:=[(4,[(5,(.pair (.aa false (.pair .leaf (.pair .leaf (.pair .leaf (.pair .leaf .leaf))))) (.pair (.aa true (.pair .leaf (.pair (.aa false (.pair .leaf (.pair (.pair .leaf (.pair .leaf (.pair .leaf (.pair .leaf .leaf)))) (.pair .leaf (.pair (.pair .leaf (.pair .leaf (.pair .leaf (.pair .leaf .leaf)))) .leaf))))) (.pair (.aa false .leaf) (.pair (.aa false (.pair .leaf (.pair .leaf .leaf))) .leaf))))) (.pair .leaf .leaf))))]),(8,[(5,(.pair (.aa false (.pair .leaf (.pair .leaf (.pair .leaf (.pair .leaf .leaf))))) (.pair (.aa false (.pair .leaf (.pair (.aa false (.pair .leaf (.pair (.pair .leaf (.pair .leaf (.pair .leaf (.pair .leaf .leaf)))) (.pair .leaf (.pair (.pair .leaf (.pair .leaf (.pair .leaf (.pair .leaf .leaf)))) .leaf))))) (.pair (.aa false .leaf) (.pair (.aa false (.pair .leaf (.pair .leaf .leaf))) .leaf))))) (.pair .leaf .leaf))))])],od:=[(6,[0,1,2,3,4,5,6,7])] }
noncomputable def ab (a:Arg):Option Out:=@lift Out λk=>D.W k a
noncomputable def T0 (J:Arg) (U:Plain×Int):St:={ n:=60,sl:=[(0,.box bi (ag bi) [] J.1),(1,.val i64 J.2.1),(5,.box bF (.pair (ag (.aa ak)) (.pair (.aa true (ag aC)) (ag (ba [i64])))) [] U.1),(6,.own (.aa e_) (av (.aa e_)) [] [((1:Int),(0:Int),((0:Int),(0:Int),(0:Int),([]:List UInt8),()),(0:Int),()),((2:Int),(1:Int),((0:Int),(1:Int),(8:Int),([]:List UInt8),()),(0:Int),()),((2:Int),(1:Int),((0:Int),(2:Int),(8:Int),([]:List UInt8),()),(0:Int),()),((7:Int),(1:Int),((0:Int),(0:Int),(0:Int),([]:List UInt8),()),(0:Int),()),((1:Int),(0:Int),((0:Int),(0:Int),(0:Int),([]:List UInt8),()),(0:Int),()),((1:Int),(0:Int),((0:Int),(0:Int),(0:Int),([]:List UInt8),()),(0:Int),())]),(7,.val i64 U.2)],vr:=[],aA:=[(0,0,false)] }
noncomputable def S0 (rec:RT Out) (J:Arg):(Plain×Int)->Option Out:=λU=>rec (T0 J U)
noncomputable def cV (K:KT Out) (J:Arg):Plain->Option Out:=λz=>K (.exit 0) ({ n:=60,sl:=[(0,.box bi (ag bi) [] J.1),(1,.val i64 J.2.1),(5,.box bF (.pair (ag (.aa ak)) (.pair (.aa true (ag aC)) (ag (ba [i64])))) [] z),(6,.own (.aa e_) (av (.aa e_)) [] [((1:Int),(0:Int),((0:Int),(0:Int),(0:Int),([]:List UInt8),()),(0:Int),()),((2:Int),(1:Int),((0:Int),(1:Int),(8:Int),([]:List UInt8),()),(0:Int),()),((2:Int),(1:Int),((0:Int),(2:Int),(8:Int),([]:List UInt8),()),(0:Int),()),((7:Int),(1:Int),((0:Int),(0:Int),(0:Int),([]:List UInt8),()),(0:Int),()),((1:Int),(0:Int),((0:Int),(0:Int),(0:Int),([]:List UInt8),()),(0:Int),()),((1:Int),(0:Int),((0:Int),(0:Int),(0:Int),([]:List UInt8),()),(0:Int),())])],vr:=[],aA:=[(0,0,false)] })
noncomputable def b0 (self:(Plain×Int)->Option Out) (e0:Plain->Option Out) (J:Arg) (U:Plain×Int):Option Out:=bif decide (U.2 < ([((1:Int),(0:Int),((0:Int),(0:Int),(0:Int),([]:List UInt8),()),(0:Int),()),((2:Int),(1:Int),((0:Int),(1:Int),(8:Int),([]:List UInt8),()),(0:Int),()),((2:Int),(1:Int),((0:Int),(2:Int),(8:Int),([]:List UInt8),()),(0:Int),()),((7:Int),(1:Int),((0:Int),(0:Int),(0:Int),([]:List UInt8),()),(0:Int),()),((1:Int),(0:Int),((0:Int),(0:Int),(0:Int),([]:List UInt8),()),(0:Int),()),((1:Int),(0:Int),((0:Int),(0:Int),(0:Int),([]:List UInt8),()),(0:Int),())].length:Int)) then (if 0<=U.2/\U.2 < ([((1:Int),(0:Int),((0:Int),(0:Int),(0:Int),([]:List UInt8),()),(0:Int),()),((2:Int),(1:Int),((0:Int),(1:Int),(8:Int),([]:List UInt8),()),(0:Int),()),((2:Int),(1:Int),((0:Int),(2:Int),(8:Int),([]:List UInt8),()),(0:Int),()),((7:Int),(1:Int),((0:Int),(0:Int),(0:Int),([]:List UInt8),()),(0:Int),()),((1:Int),(0:Int),((0:Int),(0:Int),(0:Int),([]:List UInt8),()),(0:Int),()),((1:Int),(0:Int),((0:Int),(0:Int),(0:Int),([]:List UInt8),()),(0:Int),())].length:Int) then (([((1:Int),(0:Int),((0:Int),(0:Int),(0:Int),([]:List UInt8),()),(0:Int),()),((2:Int),(1:Int),((0:Int),(1:Int),(8:Int),([]:List UInt8),()),(0:Int),()),((2:Int),(1:Int),((0:Int),(2:Int),(8:Int),([]:List UInt8),()),(0:Int),()),((7:Int),(1:Int),((0:Int),(0:Int),(0:Int),([]:List UInt8),()),(0:Int),()),((1:Int),(0:Int),((0:Int),(0:Int),(0:Int),([]:List UInt8),()),(0:Int),()),((1:Int),(0:Int),((0:Int),(0:Int),(0:Int),([]:List UInt8),()),(0:Int),())][U.2.toNat]?).bind λaT=>(cu.ab (U.1,aT,())).bind λbO=>self (bO.1.2.2.1,ai (U.2+(1:Int)))) else none) else e0 U.1
noncomputable abbrev B0 (_:Nat):=b0
theorem i7 (k:Nat) (rec:RT Out) (K:KT Out) (J:Arg) (U:Plain×Int):D.N k [1,1,1,0,1,0,0] (T0 J U) (fq rec (dx [0,1,5,6,7] [(5,(.pair (.aa false (.pair .leaf (.pair .leaf (.pair .leaf (.pair .leaf .leaf))))) (.pair (.aa true (.pair .leaf (.pair (.aa false (.pair .leaf (.pair (.pair .leaf (.pair .leaf (.pair .leaf (.pair .leaf .leaf)))) (.pair .leaf (.pair (.pair .leaf (.pair .leaf (.pair .leaf (.pair .leaf .leaf)))) .leaf))))) (.pair (.aa false .leaf) (.pair (.aa false (.pair .leaf (.pair .leaf .leaf))) .leaf))))) (.pair .leaf .leaf))))]) K)=b0 (S0 rec J) (cV K J) J U:=by kernel_rfl
noncomputable def T1 (J:Arg) (c9:ax×Plain×(List Op)×Int):St:={ n:=60,sl:=[(0,.box bi (ag bi) [] c9.1),(5,.box bF (ag bF) [] c9.2.1),(6,.own (.aa e_) (av (.aa e_)) [] c9.2.2.1),(8,.val i64 c9.2.2.2)],vr:=[],aA:=[(0,0,false)] }
noncomputable def b1 (self:(ax×Plain×(List Op)×Int)->Option Out) (e2:(ax×(List Op))->Option Out) (J:Arg) (c9:ax×Plain×(List Op)×Int):Option Out:=bif decide ((0:Int) < c9.2.2.2) then ((cM.ab (c9.1,c9.2.1.1,c9.2.1.2.1,())).bind λu9=>if c9.2.2.1.length+[u9.1].length<=bX then ((cu.ab (c9.2.1,u9.1,())).bind λKb=>bif decide (Kb.1.1=(0:Int)) then (self (u9.2.1,Kb.1.2.2.1,c9.2.2.1++[u9.1],ai (c9.2.2.2 - (1:Int)))) else self (u9.2.1,c9.2.1,c9.2.2.1++[u9.1],ai (c9.2.2.2 - (1:Int)))) else none) else e2 (c9.1,c9.2.2.1)
noncomputable abbrev B1 (_:Nat):=b1
noncomputable def q1 (J:Arg) (Kc:(ax×(List Op))):Option Out:=some (Kc.2,Kc.1,())
noncomputable abbrev Q1 (_:Nat):=q1
noncomputable def s1 (k:Nat) (J:Arg):(ax×Plain×(List Op)×Int)->Option Out:=λc9=>D.L k [1,1,1,1,0,1,0,0] [0,5,6,8] [(5,(.pair (.aa false (.pair .leaf (.pair .leaf (.pair .leaf (.pair .leaf .leaf))))) (.pair (.aa false (.pair .leaf (.pair (.aa false (.pair .leaf (.pair (.pair .leaf (.pair .leaf (.pair .leaf (.pair .leaf .leaf)))) (.pair .leaf (.pair (.pair .leaf (.pair .leaf (.pair .leaf (.pair .leaf .leaf)))) .leaf))))) (.pair (.aa false .leaf) (.pair (.aa false (.pair .leaf (.pair .leaf .leaf))) .leaf))))) (.pair .leaf .leaf))))] (aj 2 (aG (D.N k [1,1,1,1,1]) D.K0)) (T1 J c9)
noncomputable def r1 (k:Nat) (J:Arg):(ax×Plain×(List Op)×Int)->Option Out:=au (λw v=>B1 k w (Q1 k J) J v) k
theorem i9 (k:Nat) (J:Arg):s1 k J=r1 k J:=
 funext λc9=>aH _ _ _ (T1 J) _ (λrec v=>by kernel_rfl) k c9
noncomputable def q0 (l1:(ax×Plain×(List Op)×Int)->Option Out) (J:Arg) (cK:Plain):Option Out:=(am.ab (J.1,J.2.1,())).bind λig=>l1 (ig.2.1,cK,[((1:Int),(0:Int),((0:Int),(0:Int),(0:Int),([]:List UInt8),()),(0:Int),()),((2:Int),(1:Int),((0:Int),(1:Int),(8:Int),([]:List UInt8),()),(0:Int),()),((2:Int),(1:Int),((0:Int),(2:Int),(8:Int),([]:List UInt8),()),(0:Int),()),((7:Int),(1:Int),((0:Int),(0:Int),(0:Int),([]:List UInt8),()),(0:Int),()),((1:Int),(0:Int),((0:Int),(0:Int),(0:Int),([]:List UInt8),()),(0:Int),()),((1:Int),(0:Int),((0:Int),(0:Int),(0:Int),([]:List UInt8),()),(0:Int),())],ig.1)
noncomputable def Q0 (k:Nat) (J:Arg) (cK:Plain):Option Out:=q0 (r1 k J) J cK
theorem mU (k:Nat) (J:Arg) (cK:Plain):cV (aj 0 (aG (D.N k [1,1,1,1]) D.K0)) J cK=Q0 k J cK:=
 Eq.trans (b:=q0 (s1 k J) J cK) (by kernel_rfl) (by rw[i9];rfl)
noncomputable def s0 (k:Nat) (J:Arg):(Plain×Int)->Option Out:=λU=>D.L k [1,1,1,0,1,0,0] [0,1,5,6,7] [(5,(.pair (.aa false (.pair .leaf (.pair .leaf (.pair .leaf (.pair .leaf .leaf))))) (.pair (.aa true (.pair .leaf (.pair (.aa false (.pair .leaf (.pair (.pair .leaf (.pair .leaf (.pair .leaf (.pair .leaf .leaf)))) (.pair .leaf (.pair (.pair .leaf (.pair .leaf (.pair .leaf (.pair .leaf .leaf)))) .leaf))))) (.pair (.aa false .leaf) (.pair (.aa false (.pair .leaf (.pair .leaf .leaf))) .leaf))))) (.pair .leaf .leaf))))] (aj 0 (aG (D.N k [1,1,1,1]) D.K0)) (T0 J U)
noncomputable def r0 (k:Nat) (J:Arg):(Plain×Int)->Option Out:=au (λw v=>B0 k w (Q0 k J) J v) k
theorem aO (k:Nat) (J:Arg):s0 k J=r0 k J:=by
 funext U;
 have h0:cV (aj 0 (aG (D.N k [1,1,1,1]) D.K0)) J=Q0 k J:=funext λz=>mU k J z
 refine (aH _ _ _ (T0 J) (λself v=>B0 k self (cV (aj 0 (aG (D.N k [1,1,1,1]) D.K0)) J) J v) (λrec v=>i7 k rec (aj 0 (aG (D.N k [1,1,1,1]) D.K0)) J v) k U).trans ?_
 rw[h0]
 rfl
noncomputable def p (l0:(Plain×Int)->Option Out) (J:Arg):Option Out:=l0 ((([]:List Row),([]:List Tx),(1:Int),()),(0:Int))
theorem ae (k:Nat) (J:Arg):@Eq (Option Out) (D.W k J) (p (r0 k J) J):=
 Eq.trans (b:=p (s0 k J) J) (by kernel_rfl) (by rw[aO])
theorem ok:Ok prog 80 D.sig:=aw func80 aM (by kernel_rfl) (fc cu.ok (fc cM.ok (fc am.ok (an _))))
end cE
end OT
