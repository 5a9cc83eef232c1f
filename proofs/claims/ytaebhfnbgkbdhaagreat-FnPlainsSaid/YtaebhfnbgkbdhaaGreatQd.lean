/- The proof's parts, merged: slices.Delete at elements of any size  what it computes, as a contract of this framework.. No conditions but those that each states. -/
import Derived.Test.YtaebhfnbgkbdhaaGreatQc
import Derived.Shelf.SlLaysE0
import Derived.Shelf.RegionOpenPlain
import Derived.WalkKit
import Derived.Deep.LoopGhost
import Derived.Deep.RegionLaw
import Derived.Lib.Walk
import Derived.Sort.WalkB12
import Derived.Lib.SliceRun
import Derived.Test.YtaebhfnbgkbdhaaGreatProg
import Derived.KernelRfl
set_option linter.unusedVariables false
set_option linter.unusedSimpArgs false
namespace OT
open Go Go.Shelf Go.RowKit Go.Lib Go.Proofs
section
variable {P:Program} {ρ:Ren}
theorem CR (w:World) (t e ty:TypeId) (z:Value) (ht:P.underlying t=some (.slice e)) (hv:∀ w,(zeroValue e).run P w=.ok z w) (b o n c:Nat) (hn:0 < n)
  (hc:∀ j,j < (Builtin.zeroCells z.cells n).toList.length->(w.cell? ⟨b,o+j,none⟩).isSome=true) (hf:∀ j,j < (Builtin.zeroCells z.cells n).toList.length->w.frozen? ⟨b,o+j,none⟩=false) (h1:∀ v ∈ (Builtin.zeroCells z.cells n).toList,v.oneCell'=true) :
  (Builtin.clear_ #[t] ty #[.slice (some ⟨b,o,none⟩) n c]).run P w=.ok (.tuple #[]) (w.setCells b o (Builtin.zeroCells z.cells n).toList):=by
 have bs:=run_storeCells_cells (P:=P) b o (Builtin.zeroCells z.cells n).toList 0 w (by simpa using hc) (by simpa using hf) h1
 simp only[Nat.add_zero] at bs
 obtain ⟨m,rfl⟩:∃ m,n=m+1:=⟨n - 1,by omega⟩
 simp_all [Builtin.clear_,run_underlying]
theorem Ad (b:Nat) (vs:List Value) (o:Nat) (w:World) (h:∀ j,j < vs.length->(w.cell? ⟨b,o+j,none⟩).isSome=true) (k:Nat) (hk:(w.cell? ⟨b,k,none⟩).isSome=true):((w.setCells b o vs).cell? ⟨b,k,none⟩).isSome=true:=by
 by_cases cw:o<=k/\k < o+vs.length
 ·have:=World.cell?_setCells_in b vs o w h (k - o) (by omega)
  grind
 grind [World.cell?_setCells_out]
set_option maxHeartbeats 4000000 in
set_option maxRecDepth 1000000 in
theorem Hd (L:SlLaysE0.n45 P ρ) (k:Nat) (inf:TypeInfo) (zv:Value) (Kj:P.info? (ρ.t 23)=some inf) (Pd:inf.size=k) (hz:∀ w,(zeroValue (ρ.t 23)).run P w=.ok zv w) (vn:zv.cells.size=k) (Bd:∀ n,∀ v ∈ (Builtin.zeroCells zv.cells n).toList,v.oneCell'=true)
  (b off n c i j:Nat) (cs:List Value) (w:World) (rE:cs.length=n*k) (fj:∀ t v,cs[t]?=some v->w.cell? ⟨b,off+t,none⟩=some v) (Kk:∀ t,t < n*k->w.frozen? ⟨b,off+t,none⟩=false) (Pe:∀ v ∈ cs,v.oneCell'=true)
  (hJ:n<=c) (hm:c<=9223372036854775807) (gG:i < j) (hj:j<=n) :
  Calls P (ρ.f 45) #[.slice (some ⟨b,off,none⟩) n c,.int .i64 i,.int .i64 j] w λe w'=>e=.returned (.slice (some ⟨b,off,none⟩) (i+(n - j)) c) /\
   w'=(w.drew.setCells b (off+i*k) (cs.drop (j*k))).setCells b (off+(i+(n - j))*k) (Builtin.zeroCells zv.cells (n - (i+(n - j)))).toList:=by
 have mixed:=L.mixed;have t0:=L.t0;have a0:=L.a0;have z0:=L.z0;have v0:=L.v0;have t3:=L.t3;have a3:=L.a3;have z3:=L.z3;have v3:=L.v3;have t4:=L.t4;have a4:=L.a4;have z4:=L.z4;have v4:=L.v4;have t22:=L.t22;have a22:=L.a22;have z22:=L.z22;have v22:=L.v22
 have z23:∀ w,(Go.sizeOf (ρ.t 23)).run P w=.ok k w:=λw=>by simp[Go.sizeOf,typeInfo,Kj,Pd]
 have Mq:j*k<=n*k:=Nat.mul_le_mul_right _ hj
 obtain ⟨news,xz⟩:∃ news,news=cs.drop (j*k):=⟨_,rfl⟩
 have hlen:news.length=(n - j)*k:=by rw[xz,List.length_drop,rE,Nat.sub_mul]
 obtain ⟨A,hA,Qi⟩:∃ A:Addr,(if c=j then some (⟨b,off,none⟩:Addr) else some ⟨b,off+j*k,none⟩)=some A/\Hid (∀ t u,news[t]?=some u->w.drew.cell? (A.add t)=some u):=by
  by_cases h:c=j
  ·refine ⟨⟨b,off,none⟩,by simp[h],λt u hu=>?_⟩
   have h0:news.length=0:=by rw[hlen,show n - j=0 by omega,Nat.zero_mul]
   rw[List.length_eq_zero_iff.1 h0] at hu
   simp at hu
  ·refine ⟨⟨b,off+j*k,none⟩,by simp[h],λt u hu=>?_⟩
   rw[xz,List.getElem?_drop] at hu
   rw[Addr.add_lit,show off+j*k+t=off+(j*k+t) by omega]
   exact fj _ u hu
 have s1:Hid (news.length=(n - j)*k):=hlen
 have s2:Hid (∀ u ∈ news,u.oneCell'=true):=by
  intro u hu
  rw[xz] at hu
  exact Pe u (List.mem_of_mem_drop hu)
 have uT:∀ t,t < n*k->(w.cell? ⟨b,off+t,none⟩).isSome=true:=λt ht=>by rw[fj t _ (List.getElem?_eq_getElem (by omega))];rfl
 have Ta:i*k+(n - j)*k<=n*k:=by rw[<-Nat.add_mul];exact Nat.mul_le_mul_right _ (by omega)
 have s3:Hid (∀ t,t < news.length->(w.drew.cell? ⟨b,off+i*k+t,none⟩).isSome=true/\w.drew.frozen? ⟨b,off+i*k+t,none⟩=false):=by
  intro t ht
  rw[hlen] at ht
  rw[Nat.add_assoc]
  exact ⟨uT _ (by omega),Kk _ (by omega)⟩
 obtain ⟨W1,He⟩:∃ W1,W1=w.drew.setCells b (off+i*k) news:=⟨_,rfl⟩
 have hZ:(Builtin.zeroCells zv.cells (n - (i+(n - j)))).toList.length=(n - (i+(n - j)))*k:=by simp[Builtin.zeroCells,vn]
 have MG:(i+(n - j))*k+(n - (i+(n - j)))*k=n*k:=by rw[<-Nat.add_mul];congr 1;omega
 have Qj:∀ ty,(Builtin.clear_ #[ρ.t 22] ty #[.slice (some ⟨b,off+(i+(n - j))*k,none⟩) (n - (i+(n - j))) (c - (i+(n - j)))]).run P W1=.ok (.tuple #[]) (W1.setCells b (off+(i+(n - j))*k) (Builtin.zeroCells zv.cells (n - (i+(n - j)))).toList):=
  λty=>CR W1 _ _ ty zv t22 hz b (off+(i+(n - j))*k) _ _ (by omega) (λt ht=>by
   rw[hZ] at ht
   rw[He,Nat.add_assoc]
   exact Ad b _ _ _ (λt ht=>by rw[hlen] at ht;rw[Nat.add_assoc];exact uT _ (by omega)) _ (uT _ (by omega))) (λt ht=>by rw[hZ] at ht;rw[He,World.frozen?_setCells,Nat.add_assoc];exact Kk _ (by omega)) (Bd _)
 have hW:Hid (W1=w.drew.setCells b (off+i*k) news):=He
 have ci:¬ (i:Int)=(j:Int):=by omega
 have MH:i<=c:=by omega
 have TV:j<=c:=by omega
 have TW:¬ c=i+(n - j):=by omega
 rw[<-xz,<- He]
 obtain ⟨Z,Pf⟩:∃ Z,Z=(Builtin.zeroCells zv.cells (n - (i+(n - j)))).toList:=⟨_,rfl⟩
 rw[<-Pf] at Qj ⊢
 clear He xz hlen uT fj Kk rE Pe hZ Pf Bd vn
 obtain ⟨_,_,FG⟩:=L.f45
 go_enter FG,SlBodyN.n45_ntmps ρ
 go_wp2_with fail
 go_region_law_o (refine step_append_room rfl (.tmp 22) (.tmp 25) (ρ.t 22) rfl (ρ.t 23) inf k t22 Kj Pd b off i c (by simp[Act.eval,Act.put]) A (n - j) (c - j) news (by simp[Act.eval,Act.put]) s1.out Qi.out s2.out (by omega) s3.out ?_;rw[<-hW.out])
 go_wp2
 go_ret
 exact ⟨rfl,rfl⟩
set_option maxHeartbeats 4000000 in
set_option maxRecDepth 1000000 in
theorem II (L:SlLaysE0.n45 P ρ) (b:Option Addr) (n c i:Nat) (w:World) (cw:i<=n) (hJ:n<=c) (hm:c<=9223372036854775807) (hb:∀ ad,b=some ad->ad.spot=none) (wP:b=none->c=0) (k:Nat) (z23:∀ w,(Go.sizeOf (ρ.t 23)).run P w=.ok k w) :
  Calls P (ρ.f 45) #[.slice b n c,.int .i64 i,.int .i64 i] w λe w'=>e=.returned (.slice b n c)/\w'=w:=by
 have mixed:=L.mixed;have t0:=L.t0;have a0:=L.a0;have z0:=L.z0;have v0:=L.v0;have t3:=L.t3;have a3:=L.a3;have z3:=L.z3;have v3:=L.v3;have t4:=L.t4;have a4:=L.a4;have z4:=L.z4;have v4:=L.v4;have t22:=L.t22;have a22:=L.a22;have z22:=L.z22;have v22:=L.v22
 have MH:i<=c:=by omega
 obtain ⟨_,_,FG⟩:=L.f45
 cases b with
 | none=>
  have h0:=wP rfl
  subst h0
  have td:n=0:=by omega
  subst td
  have Kj:i=0:=by omega
  subst Kj
  go_enter FG,SlBodyN.n45_ntmps ρ
  go_wp2
  all_goals (go_ret;exact ⟨rfl,rfl⟩)
 | some ad=>
  obtain ⟨b,off,sp⟩:=ad
  have:=hb _ rfl
  simp only at this
  subst this
  go_enter FG,SlBodyN.n45_ntmps ρ
  go_wp2
  all_goals (go_ret;exact ⟨rfl,rfl⟩)
theorem Qk (w:World) {e:Ty} {i:TypeId} (hl:aq P e (.inl i)=true) (hz:e.lu=true) {inf:TypeInfo} {zv:Value} (h1:P.info? i=some inf) (h2:inf.zero=some zv):∀ n,∀ v ∈ (Builtin.zeroCells zv.cells n).toList,v.oneCell'=true:=by
 obtain ⟨L,hL⟩:=jQ e hz
 obtain ⟨Tb,z',i1,i2,i3,i4,i5,i6⟩:=nM (ej hl)
 rw[h1] at i1
 injection i1 with i1
 subst i1
 rw[h2] at i4
 injection i4 with i4
 subst i4
 have hc:=i6 L hL
 obtain ⟨r1,_,_⟩:=o3 (P:=P) (w:=w) (A:=λ_ _=>True) e hL hl
 grind [af.one,Builtin.zeroCells,Nat.mod_lt]
theorem IJ {w w':World} {A:Cells} {F0:FP} {e:Ty} {me:Md} {b cap:Nat} {vs:List e.den} {news:List Value} {Hi:Nat->FP} {F1:FP}
  (hw:Ext w w' (bk b 0 (cap*e.sz))) (hJ:cap<=maxLen) (cz:cr w' b (cap*e.sz,vO e)) (hlen:List.length vs<=cap) (qU:Has w' b 0 news)
  (jE:∀ (i:Nat) (y:e.den),vs[i]?=some y->af P w A e me [] y ((news.drop (i*e.sz)).take e.sz) (Hi i))
  (hF:∀ b' i,bk b 0 (cap*e.sz) b' i+ao (List.length vs) Hi b' i<=F1 b' i) (hle:∀ b' i,F1 b' i<=F0 b' i) (h1:∀ b i,F0 b i<=1) (pG:∀ b i,1<=F0 b i->¬ A b i) (BO:∀ b i,1<=F0 b i\/A b i->b < w.heap.size) :
  af P w' A (.aa e) (.aa true me) [] vs [.slice (some ⟨b,0,none⟩) (List.length vs) cap] F1:=by
 simp only[af,hole,List.any_nil,Bool.false_eq_true,if_false,av,ly,Md.own,if_true,Md.e]
 refine ⟨some ⟨b,0,none⟩,cap,rfl,hlen,hJ,(λe=>by cases e),λad e2=>?_⟩
 injection e2 with e2
 subst e2
 refine ⟨rfl,rfl,cz,Hi,hF,λi y hy=>?_⟩
 have hr:=jE i y hy
 have hi:=(List.getElem?_eq_some_iff.1 hy).1
 refine ⟨_,af.length _ hr,λj u hu=>?_,?_⟩
 ·rw[List.getElem?_take] at hu
  split at hu
  ·rw[List.getElem?_drop] at hu
   have:=qU _ u hu
   grind
  ·cases hu
 ·simp only[List.filterMap_nil]
  refine af.mono (P:=P) (λ_ _ h=>h) (λb' k ha u hu=>hw.cell b' k (BO b' k (.inr ha)) ?_ u hu) hw.lW e hr (λ_ _=>Nat.le_refl _) (λb' k hp u hu=>hw.cell b' k ?_ ?_ u hu)
  ·grind
  ·exact BO b' k (.inl (by grind [a_]))
  grind [a_]
def yK (e:Ty) (v:List e.den×Int×Int×Unit):Option (List e.den×Unit):=if 0<=v.2.1/\v.2.1<=v.2.2.1/\v.2.2.1<=(v.1.length:Int) then some (v.1.take v.2.1.toNat++v.1.drop v.2.2.1.toNat,()) else none
def Kl (i j:Int) (k:Nat):Bool:=decide (i<=(k:Int))&&decide ((k:Int) < j)
def BP (i j:Int):List Path->Bool
 | []=>true
 | [.idx k::_]=>Kl i j k
 | _=>false
theorem EW {i j:Int} {H:List Path} (h:BP i j H=true):hole H=false/\(j<=i->H=[])/\∀ t:Nat,((t:Int) < i\/j<=(t:Int))->H.filterMap (dA t)=[]:=by
 unfold BP at h
 split at h
 ·exact ⟨rfl,λ_=>rfl,λ_ _=>rfl⟩
 ·rename_i k q
  simp only[Kl,Bool.and_eq_true,decide_eq_true_eq] at h
  refine ⟨rfl,λgG=>by omega,λt ht=>?_⟩
  grind [dA]
 ·cases h
theorem Hf (L:SlLaysE0.n45 P ρ) {e:Ty} {me:Md} (hl:aq P e (.inl (ρ.t 23))=true) (h1:1<=e.sz) (vn:e.lu=true) (he:l5 P (ρ.f 45) false) :
  Ok P (ρ.f 45) { ps:=[(.fi (.aa true me),.aa e),(.ro,.int .i64),(.ro,.int .i64)],rs:=[(.aa e,.aa true me)],F:=yK e,vd:=λv H=>BP v.2.1 v.2.2.1 H }:=by
 refine ⟨?_,he⟩
 intro w A F0 v xs eQ hle pG BO ES out iS
 obtain ⟨vs,i,j,⟨⟩⟩:=v
 obtain ⟨x,GE,F1,F2,rfl,hF,⟨H,cs,hH,rfl,cH⟩,x2,TX,F3,F4,rfl,zo,⟨bf,rfl,hi⟩,x3,RS,F5,F6,rfl,TY,⟨GO,rfl,hj⟩,yA⟩:=eQ
 have yA:RS=[]:=yA
 subst yA
 have cH:af P w A (.aa e) (.aa true me) H vs cs F1:=cH
 have hH:BP i j H=true:=hH
 obtain ⟨RU,TZ,tC⟩:=EW hH
 have hi:bf=[.int .i64 i]:=hi
 have hj:GO=[.int .i64 j]:=hj
 subst hi;subst hj
 have iS:yK e (vs,i,j,())=some out:=iS
 unfold yK at iS
 split at iS
 rotate_left
 ·cases iS
 rename_i hb
 obtain ⟨b1,b2,b3⟩:=hb
 simp only at b1 b2 b3 iS
 injection iS with iS
 subst iS
 obtain ⟨ni,rfl⟩:=Int.eq_ofNat_of_zero_le b1
 obtain ⟨nj,rfl⟩:=Int.eq_ofNat_of_zero_le (Int.le_trans b1 b2)
 simp only[Int.toNat_natCast]
 have gG:ni<=nj:=by omega
 have Kd:nj<=List.length vs:=by omega
 obtain ⟨inf,zv,i1,i2,i3,i4,i5,_⟩:=nM (ej hl)
 have hz:∀ w,(zeroValue (ρ.t 23)).run P w=.ok zv w:=λw=>by simp[zeroValue,typeInfo,i1,i4]
 have z23:∀ w,(Go.sizeOf (ρ.t 23)).run P w=.ok e.sz w:=λw=>by simp[Go.sizeOf,typeInfo,i1,i2]
 obtain ⟨xa,cap,hK,Fi,r1,r2,r3,r4,r5,r6,r7,r8⟩:=xg RU (v:=vs) cH
 obtain ⟨c1,c2,c3,c4⟩:=r8 rfl
 subst r1
 have yG:cap<=9223372036854775807:=by grind [maxLen]
 have hx:(aZ (.aa e) [.slice xa (List.length vs) cap]::[aZ (.int .i64) [.int .i64 (ni:Int)],aZ (.int .i64) [.int .i64 (nj:Int)]]).toArray=#[.slice xa (List.length vs) cap,.int .i64 ni,.int .i64 nj]:=rfl
 show Calls P (ρ.f 45) (aZ (.aa e) [.slice xa (List.length vs) cap]::[aZ (.int .i64) [.int .i64 (ni:Int)],aZ (.int .i64) [.int .i64 (nj:Int)]]).toArray w _
 rw[hx]
 have EX:∀ (w':World) (rv:Value),Ext w w' F0->(∃ cs,rv=aZ (.aa e) cs/\af P w' A (.aa e) (.aa true me) [] (vs.take ni++vs.drop nj) cs F1) ->
   ∃ G9,Ending.returned rv=.returned G9/\Ext w w' F0/\∃ (A':Cells) (G GR GM:FP),(∀ b i,A b i->A' b i)/\(∀ b i,A' b i->A b i\/1<=F0 b i\/w.heap.size<=b)/\(∀ b i,1<=G b i->1<=F0 b i\/w.heap.size<=b)/\(∀ b i,G b i<=1)/\(∀ b i,1<=G b i->¬ A' b i)/\(∀ b i,1<=G b i\/A' b i->b < w'.heap.size)/\(∀ b i,GR b i+GM b i<=G b i) /\
   fl P w' A' [⟨.aa e,.aa true me,vs.take ni++vs.drop nj⟩] G9 GR/\gc P w' A' [(.fi (.aa true me),.aa e),(.ro,.int .i64),(.ro,.int .i64)] () [aZ (.aa e) [.slice xa (List.length vs) cap],aZ (.int .i64) [.int .i64 (ni:Int)],aZ (.int .i64) [.int .i64 (nj:Int)]] GM:=λw' rv bH hr=>
  ⟨_,rfl,bH,A,F0,F1,λ_ _=>0,λ_ _ h=>h,λ_ _ h=>.inl h,λ_ _ h=>.inl h,hle,pG,λb i h=>Nat.lt_of_lt_of_le (BO b i h) bH.size,λb i=>by grind,hr,trivial⟩
 by_cases heq:ni=nj
 ·subst heq
  refine (II L xa (List.length vs) cap ni w Kd c1 yG (λad di=>(c4 ad di).2.1) c3 e.sz z23).mono ?_
  rintro ex w' ⟨rfl,rfl⟩
  refine EX _ _ (Ext.refl _ _) ⟨_,(bp _ _ rfl).symm,?_⟩
  grind [List.take_append_drop]
 ·cases xa with
  | none=>grind
  | some ad=>
   obtain ⟨q1,q2,q3,q4⟩:=c4 ad rfl
   obtain ⟨_,d5⟩:=r3 ad rfl
   obtain ⟨b,off,sp⟩:=ad
   simp only at q1 q2 q3 q4 d5
   subst q1;subst q2
   have Tc:List.length vs*e.sz<=cap*e.sz:=Nat.mul_le_mul_right _ c1
   have mH:∀ t,t < cap*e.sz->(w.cell? ⟨b,t,none⟩).isSome=true:=λt ht=>by
    obtain ⟨c,e',fr,w1,w2,w3⟩:=q3
    grind [World.cell?]
   have Ql:=Hd L e.sz inf zv i1 i2 hz i5 (Qk w hl vn i1 i4) b 0 (List.length vs) cap ni nj hK w r4 (λt u hu=>lc (d5 t u hu) (r5 u (List.mem_of_getElem? hu))) (λt ht=>by rw[Nat.zero_add];exact q3.frozen (by grind)) r5 c1 yG (by omega) Kd
   refine Ql.mono ?_
   rintro ex w' ⟨rfl,hw⟩
   simp only[Nat.zero_add] at hw
   have qW:List.length (vs.take ni++vs.drop nj)=ni+(List.length vs - nj):=by simp;omega
   have m1:ni*e.sz+(List.length vs - nj)*e.sz=(ni+(List.length vs - nj))*e.sz:=by rw[Nat.add_mul]
   have m2:(ni+(List.length vs - nj))*e.sz<=List.length vs*e.sz:=Nat.mul_le_mul_right _ (by omega)
   have m3:(hK.drop (nj*e.sz)).length=(List.length vs - nj)*e.sz:=by grind [Nat.sub_mul]
   have hZ:(Builtin.zeroCells zv.cells (List.length vs - (ni+(List.length vs - nj)))).toList.length=(List.length vs - (ni+(List.length vs - nj)))*e.sz:=by simp[Builtin.zeroCells,i5]
   have m4:(ni+(List.length vs - nj))*e.sz+(List.length vs - (ni+(List.length vs - nj)))*e.sz=List.length vs*e.sz:=by rw[<-Nat.add_mul];congr 1;omega
   have x1:=fX (b:=b) (o:=ni*e.sz) (hK.drop (nj*e.sz)) w.drew (ni*e.sz)
   have x2:=fX (b:=b) (o:=(ni+(List.length vs - nj))*e.sz) (Builtin.zeroCells zv.cells (List.length vs - (ni+(List.length vs - nj)))).toList (w.drew.setCells b (ni*e.sz) (hK.drop (nj*e.sz))) ((ni+(List.length vs - nj))*e.sz)
   have Bz:∀ b' t,bk b 0 (cap*e.sz) b' t=0->bk b (ni*e.sz) (hK.drop (nj*e.sz)).length b' t=0:=λb' t h0=>by
    simp only[bk] at h0 ⊢
    split at h0
    ·cases h0
    grind
   have mL:∀ b' t,bk b 0 (cap*e.sz) b' t=0->bk b ((ni+(List.length vs - nj))*e.sz) (Builtin.zeroCells zv.cells (List.length vs - (ni+(List.length vs - nj)))).toList.length b' t=0:=λb' t h0=>by
    simp only[bk] at h0 ⊢
    split at h0
    ·cases h0
    grind
   have bH:Ext w w' (bk b 0 (cap*e.sz)):=by
    rw[hw]
    exact (((vW w).mono (λ_ _ _=>rfl)).trans (x1.mono Bz) (λ_ _ _ h=>h)).trans (x2.mono mL) (λ_ _ _ h=>h)
   refine EX w' _ (bH.mono λb' t h0=>by grind) ⟨[.slice (some ⟨b,0,none⟩) (ni+(List.length vs - nj)) cap],(bp _ _ rfl).symm,?_⟩
   rw[<-qW]
   refine IJ (news:=hK.take (ni*e.sz)++hK.drop (nj*e.sz)) (Hi:=λt=>if t < ni then Fi t else Fi (nj+(t - ni))) (F0:=F0) bH c2 (bH.lW _ _ q3) (by grind) ?_ ?_ (λb' t=>?_) (λb' t=>by grind) hle pG BO
   ·intro t u hu
    rw[Nat.zero_add]
    have nt:(hK.take (ni*e.sz)).length=ni*e.sz:=by rw[List.length_take,r4];omega
    rw[hw]
    have PV:t < (ni+(List.length vs - nj))*e.sz:=by
     grind
    refine x2.cell b t ?_ ?_ u ?_
    ·have:=x1.size
     have hb:=q3.lt
     exact Nat.lt_of_lt_of_le hb x1.size
    ·grind [bk]
    ·by_cases ht:t < ni*e.sz
     ·rw[List.getElem?_append_left (by omega),List.getElem?_take,if_pos ht] at hu
      refine x1.cell b t q3.lt ?_ u ?_
      ·grind [bk]
      ·have:=d5 t u hu
       rw[Nat.zero_add] at this
       exact this
     ·rw[List.getElem?_append_right (by omega),nt] at hu
      have:=mE (w:=w.drew) (b:=b) (o:=ni*e.sz) (L:=hK.drop (nj*e.sz)) (λk hk=>by rw[m3] at hk;exact mH _ (by omega)) (λu hu=>r5 u (List.mem_of_mem_drop hu)) _ u hu
      rw[show ni*e.sz+(t - ni*e.sz)=t by omega] at this
      exact this
   ·have nt:(hK.take (ni*e.sz)).length=(vs.take ni).length*e.sz:=by grind [Nat.mul_le_mul_right]
    have hr:=vX (P:=P) (w:=w) (A:=A) (e:=e) (me:=me) (v:=vs.take ni) (y:=vs.drop nj) (Fi:=Fi) (Gi:=λt=>Fi (nj+t)) nt (λt z hz=>by
      rw[List.getElem?_take] at hz
      split at hz
      ·rename_i ht
       have:=r6 t z hz
       rw[tC t (.inl (by omega))] at this
       have h6:t*e.sz+e.sz<=ni*e.sz:=by rw[<-Nat.succ_mul];exact Nat.mul_le_mul_right _ (by omega)
       rw[List.drop_take,List.take_take,Nat.min_eq_left (by omega)]
       exact this
      ·cases hz) (λt z hz=>by
      rw[List.getElem?_drop] at hz
      have:=r6 (nj+t) z hz
      rw[tC (nj+t) (.inr (by omega))] at this
      rw[List.drop_drop,<- Nat.add_mul]
      exact this)
    grind
   ·rw[qW]
    have s1:=Bi ni (List.length vs - nj) Fi (λt=>Fi (nj+t)) b' t
    have s2:=kG nj (List.length vs - nj) Fi b' t
    have s3:=y_ (List.length vs) Fi 0 ni (by omega) b' t
    have s4:=kG ni (nj - ni) Fi b' t
    rw[show ni+(nj - ni)=nj by omega] at s4
    rw[show nj+(List.length vs - nj)=List.length vs by omega] at s2
    grind
end
end OT
set_option maxRecDepth 100000
set_option linter.unusedVariables false
namespace OT
open Go Go.Proofs.Tryz
abbrev ax:Type:=((List UInt8)×Int×Unit)
abbrev bj:Ty:=(ba [(.aa u8),i64])
abbrev Row:Type:=(Int×Int×Int×(List UInt8)×Unit)
abbrev aj:Ty:=(ba [i64,i64,i64,.str])
abbrev Change:Type:=(Bool×Row×Bool×Row×Unit)
abbrev ay:Ty:=(ba [.bool,aj,.bool,aj])
abbrev Key:Type:=(Int×Int×Unit)
abbrev aF:Ty:=(ba [i64,i64])
abbrev Tx:Type:=(Int×(List Change)×(List Int)×(List Key)×Unit)
abbrev aB:Ty:=(ba [i64,(.aa ay),(.aa i64),(.aa aF)])
abbrev Plain:Type:=((List Row)×(List Tx)×Int×Unit)
abbrev bJ:Ty:=(ba [(.aa aj),(.aa aB),i64])
abbrev gA:Type:=(Int×Int×Plain×Unit)
abbrev eB:Ty:=(ba [i64,i64,bJ])
abbrev aK:Type:=(Int×Bool×Change×Unit)
abbrev bz:Ty:=(ba [i64,.bool,ay])
abbrev Op:Type:=(Int×Int×Row×Int×Unit)
abbrev fm:Ty:=(ba [i64,i64,aj,i64])
abbrev dr:Type:=(Int×(List Int)×(List Int)×Plain×Unit)
abbrev i9:Ty:=(ba [i64,(.aa i64),(.aa i64),bJ])
abbrev lj:Type:=(Int×(List Row)×Unit)
abbrev jk:Ty:=(ba [i64,(.aa aj)])
abbrev t_:Type:=(Int×(List Tx)×Unit)
abbrev sG:Ty:=(ba [i64,(.aa aB)])
abbrev o7:Type:=(Int×Int×Int×Int×Row×Unit)
abbrev CS:Ty:=(ba [i64,i64,i64,i64,aj])
abbrev gJ:Type:=(Int×Int×o7×Unit)
abbrev QC:Ty:=(ba [i64,i64,CS])
abbrev ua:Type:=(Int×(List UInt8)×Unit)
abbrev Km:Ty:=(ba [i64,(.aa u8)])
abbrev NQ:Type:=(Int×(List ua)×(List (List UInt8))×Unit)
abbrev MI:Ty:=(ba [i64,(.aa Km),(.aa (.aa u8))])
abbrev kT:Type:=((List (List UInt8))×(List ua)×Unit)
abbrev QD:Ty:=(ba [(.aa (.aa u8)),(.aa Km)])
abbrev Seen:Type:=(Row×Int×Int×Bool×Int×Int×Unit)
abbrev SQ:Ty:=(ba [aj,i64,i64,.bool,i64,i64])
abbrev N_:Type:=(Int×Int×(List UInt8)×Unit)
abbrev NR:Ty:=(ba [i64,i64,(.aa u8)])
abbrev LF:Type:=(Int×(List Change)×Unit)
abbrev Lk:Ty:=(ba [i64,(.aa ay)])
noncomputable def be:TL:=[(2,i64),(29,aj),(24,(.aa aj)),(25,(.aa aB)),(76,aB),(45,ay),(53,(.aa ay)),(4,.bool),(31,fm),(73,(.aa i64)),(155,aF),(74,(.aa aF)),(27,bJ),(9,.str),(70,bz),(35,eB),(38,jk),(96,(.map aF .bool)),(22,(.aa u8)),(79,sG),(140,bj),(142,i9),(144,(.aa fm)),(177,(.aa .str)),(3,i64),(5,u8),(239,(.int .u64))]
theorem aM:(EV prog be&&Aq prog be)=true:=by kernel_rfl
namespace lk
abbrev Arg:Type:=(List UInt8)×Unit
abbrev Out:Type:=Bool×Unit
abbrev ps:PQ:=[(.ro,(.aa u8))]
noncomputable def D:FD:={ fn:=f6,tl:=be,ps:=ps,rs:=[(.bool,(ah .bool))] }
noncomputable def ab (a:Arg):Option Out:=@lift Out λk=>D.W k a
noncomputable def p (J:Arg):Option Out:=some (decide ((1048576:Int) < (J.1.length:Int)),())
theorem ae (k:Nat) (J:Arg):@Eq (Option Out) (D.W k J) (p J):=by kernel_rfl
theorem ok:Ok prog 6 D.sig:=aw func6 aM (by kernel_rfl) (an _)
end lk
namespace iV
abbrev Arg:Type:=(List UInt8)×Unit
abbrev Out:Type:=ax×Unit
abbrev ps:PQ:=[(.ro,(.aa u8))]
noncomputable def D:FD:={ fn:=f25,tl:=be,ps:=ps,rs:=[((.ptr bj),(.ptr true (ah bj)))] }
noncomputable def ab (a:Arg):Option Out:=@lift Out λk=>D.W k a
noncomputable def p (J:Arg):Option Out:=some ((J.1,(0:Int),()),())
theorem ae (k:Nat) (J:Arg):@Eq (Option Out) (D.W k J) (p J):=by kernel_rfl
theorem ok:Ok prog 25 D.sig:=aw func25 aM (by kernel_rfl) (an _)
end iV
namespace am
abbrev Arg:Type:=ax×Int×Unit
abbrev Out:Type:=Int×ax×Unit
abbrev ps:PQ:=[(.dt (ah bj) (ah bj),bj),(.ro,i64)]
noncomputable def D:FD:={ fn:=f51,tl:=be,ps:=ps,rs:=[(i64,(ah i64))],es:=[0],od:=[(8,[0,1,2,3,4,5,6,7,8,9,10,11,12,13,14,15]),(10,[0,1,2,3,4,5,6,7,8,9,10,11,12,13,14,15,16,17])] }
noncomputable def ab (a:Arg):Option Out:=@lift Out λk=>D.W k a
noncomputable def p (J:Arg):Option Out:=bif decide (J.2.1 < (1:Int)) then (some ((0:Int),(J.1.1,al (J.1.2.1+(1:Int)),J.1.2.2),())) else bif decide ((J.1.1.length:Int)=(0:Int)) then (if J.2.1=0 then none else some ((al ((al ((al (J.1.2.1+(1:Int))) - (1:Int)))*(7:Int))).tmod J.2.1,(J.1.1,al (J.1.2.1+(1:Int)),J.1.2.2),())) else if (J.1.1.length:Int)=0 then none else if 0<=(al ((al (J.1.2.1+(1:Int))) - (1:Int))).tmod (J.1.1.length:Int) then ((J.1.1[((al ((al (J.1.2.1+(1:Int))) - (1:Int))).tmod (J.1.1.length:Int)).toNat]?).bind λx2=>if (J.1.1.length:Int)=0 then none else let j5:=λ(p4:Int)=>(if J.2.1=0 then none else some (p4.tmod J.2.1,(J.1.1,al (J.1.2.1+(1:Int)),J.1.2.2),()):Option Out);bif decide ((200:Int) < J.2.1) then (if (J.1.1.length:Int)=0 then none else if 0<=(al ((al ((al (J.1.2.1+(1:Int))) - (1:Int)))+(1:Int))).tmod (J.1.1.length:Int) then ((J.1.1[((al ((al ((al (J.1.2.1+(1:Int))) - (1:Int)))+(1:Int))).tmod (J.1.1.length:Int)).toNat]?).bind λx3=>j5 (al ((al ((al ((al ((al (x2.toNat:Int))+(al ((al ((al ((al (J.1.2.1+(1:Int))) - (1:Int))).tdiv (J.1.1.length:Int)))*(37:Int)))))*(251:Int)))+(al ((al (x3.toNat:Int))*(13:Int)))))+(al ((al (J.1.2.1+(1:Int))) - (1:Int)))))) else none) else j5 (al ((al (x2.toNat:Int))+(al ((al ((al ((al (J.1.2.1+(1:Int))) - (1:Int))).tdiv (J.1.1.length:Int)))*(37:Int)))))) else none
theorem ae (k:Nat) (J:Arg):@Eq (Option Out) (D.W k J) (p J):=by kernel_rfl
theorem ok:Ok prog 51 D.sig:=aw func51 aM (by kernel_rfl) (an _)
end am
namespace aR
abbrev Arg:Type:=ax×(List Int)×Unit
abbrev Out:Type:=Int×ax×Unit
abbrev ps:PQ:=[(.dt (ah bj) (ah bj),bj),(.ro,(.aa i64))]
noncomputable def D:FD:={ fn:=f71,tl:=be,ps:=ps,rs:=[(i64,(ah i64))],gl:=[(51,am.D.sig)],es:=[0] }
noncomputable def ab (a:Arg):Option Out:=@lift Out λk=>D.W k a
noncomputable def p (J:Arg):Option Out:=(am.ab (J.1,(J.2.1.length:Int),())).bind λr2=>if 0<=r2.1 then ((J.2.1[r2.1.toNat]?).bind λx3=>some (x3,r2.2.1,())) else none
theorem ae (k:Nat) (J:Arg):@Eq (Option Out) (D.W k J) (p J):=by kernel_rfl
theorem ok:Ok prog 71 D.sig:=aw func71 aM (by kernel_rfl) (fc am.ok (an _))
end aR
namespace bg
abbrev Arg:Type:=Int×Int×Int×Unit
abbrev Out:Type:=Bool×Unit
abbrev ps:PQ:=[(.ro,i64),(.ro,i64),(.ro,i64)]
noncomputable def D:FD:={ fn:=f76,tl:=be,ps:=ps,rs:=[(.bool,(ah .bool))] }
noncomputable def ab (a:Arg):Option Out:=@lift Out λk=>D.W k a
noncomputable def p (J:Arg):Option Out:=bif decide (J.2.1<=J.1) then (some (decide (J.1<=J.2.2.1),())) else some (false,())
theorem ae (k:Nat) (J:Arg):@Eq (Option Out) (D.W k J) (p J):=by kernel_rfl
theorem ok:Ok prog 76 D.sig:=aw func76 aM (by kernel_rfl) (an _)
end bg
namespace fq
abbrev Arg:Type:=(List UInt8)×Unit
abbrev Out:Type:=Bool×Unit
abbrev ps:PQ:=[(.ro,.str)]
noncomputable def D:FD:={ fn:=f185,tl:=be,ps:=ps,rs:=[(.bool,(ah .bool))],lv:=[(2,[0,3])],lx:=[(0,[0])] }
noncomputable def ab (a:Arg):Option Out:=@lift Out λk=>D.W k a
noncomputable def T0 (J:Arg) (Y:Int):St:={ n:=23,sl:=[(0,.val .str J.1),(3,.val i64 Y)],vr:=[],aA:=[] }
noncomputable def b0 (self:Int->Option Out) (e0:(Unit)->Option Out) (J:Arg) (Y:Int):Option Out:=bif decide (Y < (J.1.length:Int)) then (if 0<=Y then ((J.1[Y.toNat]?).bind λaT=>bif decide ((aT.toNat:Int) < (97:Int)) then (some (false,())) else if 0<=Y then ((J.1[Y.toNat]?).bind λub=>bif decide ((122:Int) < (ub.toNat:Int)) then (some (false,())) else self (al (Y+(1:Int)))) else none) else none) else e0 ()
noncomputable abbrev B0 (_:Nat):=b0
noncomputable def q0 (J:Arg) (cJ:(Unit)):Option Out:=some (decide ((J.1.length:Int)<=(8:Int)),())
noncomputable abbrev Q0 (_:Nat):=q0
noncomputable def s0 (k:Nat) (J:Arg):(Int)->Option Out:=λY=>D.L k [1,0,1,0,0] [0,3] [] (ai 0 (aG (D.N k [1,1]) D.K0)) (T0 J Y)
noncomputable def r0 (k:Nat) (J:Arg):(Int)->Option Out:=au (λw v=>B0 k w (Q0 k J) J v) k
theorem aO (k:Nat) (J:Arg):s0 k J=r0 k J:=
 funext λY=>aI _ _ _ (T0 J) _ (λrec v=>by kernel_rfl) k Y
noncomputable def p (l0:(Int)->Option Out) (J:Arg):Option Out:=l0 (0:Int)
theorem ae (k:Nat) (J:Arg):@Eq (Option Out) (D.W k J) (p (r0 k J) J):=
 Eq.trans (b:=p (s0 k J) J) (by kernel_rfl) (by rw[aO])
theorem ok:Ok prog 185 D.sig:=aw func185 aM (by kernel_rfl) (an _)
end fq
namespace cu
abbrev Arg:Type:=Row×Unit
abbrev Out:Type:=Int×Unit
abbrev ps:PQ:=[(.ro,(.ptr aj))]
noncomputable def D:FD:={ fn:=f136,tl:=be,ps:=ps,rs:=[(i64,(ah i64))],gl:=[(76,bg.D.sig),(185,fq.D.sig)] }
noncomputable def ab (a:Arg):Option Out:=@lift Out λk=>D.W k a
noncomputable def p (J:Arg):Option Out:=(bg.ab (J.1.1,(0:Int),(3:Int),())).bind λr2=>bif !r2.1 then (some ((3:Int),())) else (bg.ab (J.1.2.1,(1:Int),(99:Int),())).bind λr3=>bif !r3.1 then (some ((3:Int),())) else (bg.ab (J.1.2.2.1,(0:Int),(999:Int),())).bind λr4=>bif !r4.1 then (some ((3:Int),())) else (fq.ab (J.1.2.2.2.1,())).bind λr5=>bif !r5.1 then (some ((5:Int),())) else some ((0:Int),())
theorem ae (k:Nat) (J:Arg):@Eq (Option Out) (D.W k J) (p J):=by kernel_rfl
theorem ok:Ok prog 136 D.sig:=aw func136 aM (by kernel_rfl) (fc bg.ok (fc fq.ok (an _)))
end cu
namespace e8
abbrev Arg:Type:=Row×Row×Unit
abbrev Out:Type:=Bool×Unit
abbrev ps:PQ:=[(.ro,(.ptr aj)),(.ro,(.ptr aj))]
noncomputable def D:FD:={ fn:=f152,tl:=be,ps:=ps,rs:=[(.bool,(ah .bool))],od:=[(1,[0,1,2,3,4,5,6,7,8,9,10,11,12,13,14,15,16,17,18,19,20,21,22,23,24,25,26,27,28,29,30,31])] }
noncomputable def ab (a:Arg):Option Out:=@lift Out λk=>D.W k a
noncomputable def p (J:Arg):Option Out:=bif decide (J.1.1 < J.2.1.1) then (some (true,())) else bif decide (J.1.1=J.2.1.1) then (some (decide (J.1.2.1 < J.2.1.2.1),())) else some (false,())
theorem ae (k:Nat) (J:Arg):@Eq (Option Out) (D.W k J) (p J):=by kernel_rfl
theorem ok:Ok prog 152 D.sig:=aw func152 aM (by kernel_rfl) (an _)
end e8
namespace c_
abbrev Arg:Type:=(List Row)×Unit
abbrev Out:Type:=Int×Unit
abbrev ps:PQ:=[(.ro,(.aa aj))]
noncomputable def D:FD:={ fn:=f97,tl:=be,ps:=ps,rs:=[(i64,(ah i64))],gl:=[(136,cu.D.sig),(152,e8.D.sig)],lv:=[(4,[0,3])],lx:=[(0,[])],od:=[(9,[0,1,2,3,4,5,6,7,8,9,10,11,12])] }
noncomputable def ab (a:Arg):Option Out:=@lift Out λk=>D.W k a
noncomputable def T0 (J:Arg) (Y:Int):St:={ n:=34,sl:=[(0,.val (.aa aj) J.1),(3,.val i64 Y)],vr:=[],aA:=[] }
noncomputable def b0 (self:Int->Option Out) (e0:(Unit)->Option Out) (J:Arg) (Y:Int):Option Out:=bif decide (Y < (J.1.length:Int)) then (if 0<=Y then ((J.1[Y.toNat]?).bind λaT=>(cu.ab (aT,())).bind λbN=>bif !decide (bN.1=(0:Int)) then (some (bN.1,())) else bif decide ((0:Int) < Y) then (if 0<=al (Y - (1:Int)) then ((J.1[(al (Y - (1:Int))).toNat]?).bind λjS=>if 0<=Y then ((J.1[Y.toNat]?).bind λwh=>(e8.ab (jS,wh,())).bind λmP=>bif !mP.1 then (some ((1:Int),())) else self (al (Y+(1:Int)))) else none) else none) else self (al (Y+(1:Int)))) else none) else e0 ()
noncomputable abbrev B0 (_:Nat):=b0
noncomputable def q0 (J:Arg) (EY:(Unit)):Option Out:=some ((0:Int),())
noncomputable abbrev Q0 (_:Nat):=q0
noncomputable def s0 (k:Nat) (J:Arg):(Int)->Option Out:=λY=>D.L k [1,1,0,1,0,0] [0,3] [] (ai 0 (aG (D.N k [1,1,1]) D.K0)) (T0 J Y)
noncomputable def r0 (k:Nat) (J:Arg):(Int)->Option Out:=au (λw v=>B0 k w (Q0 k J) J v) k
theorem aO (k:Nat) (J:Arg):s0 k J=r0 k J:=
 funext λY=>aI _ _ _ (T0 J) _ (λrec v=>by kernel_rfl) k Y
noncomputable def p (l0:(Int)->Option Out) (J:Arg):Option Out:=bif decide ((60:Int) < (J.1.length:Int)) then (some ((2:Int),())) else l0 (0:Int)
theorem ae (k:Nat) (J:Arg):@Eq (Option Out) (D.W k J) (p (r0 k J) J):=
 Eq.trans (b:=p (s0 k J) J) (by kernel_rfl) (by rw[aO])
theorem ok:Ok prog 97 D.sig:=aw func97 aM (by kernel_rfl) (fc cu.ok (fc e8.ok (an _)))
end c_
namespace d8
abbrev Arg:Type:=Change×Unit
abbrev Out:Type:=Int×Int×Unit
abbrev ps:PQ:=[(.ro,(.ptr ay))]
noncomputable def D:FD:={ fn:=f137,tl:=be,ps:=ps,rs:=[(i64,(ah i64)),(i64,(ah i64))],od:=[(2,[0,1,2,3,4,5,6,7,8,9,10,11]),(3,[0,1,2,3,4,5,6,7,8,9,10,11])] }
noncomputable def ab (a:Arg):Option Out:=@lift Out λk=>D.W k a
noncomputable def p (J:Arg):Option Out:=bif J.1.2.2.1 then (some (J.1.2.2.2.1.1,J.1.2.2.2.1.2.1,())) else some (J.1.2.1.1,J.1.2.1.2.1,())
theorem ae (k:Nat) (J:Arg):@Eq (Option Out) (D.W k J) (p J):=by kernel_rfl
theorem ok:Ok prog 137 D.sig:=aw func137 aM (by kernel_rfl) (an _)
end d8
namespace eC
abbrev Arg:Type:=Change×Unit
abbrev Out:Type:=Key×Unit
abbrev ps:PQ:=[(.ro,(.ptr ay))]
noncomputable def D:FD:={ fn:=f162,tl:=be,ps:=ps,rs:=[(aF,(ah aF))],gl:=[(137,d8.D.sig)] }
noncomputable def ab (a:Arg):Option Out:=@lift Out λk=>D.W k a
noncomputable def p (J:Arg):Option Out:=(d8.ab (J.1,())).bind λr2=>some ((r2.1,r2.2.1,()),())
theorem ae (k:Nat) (J:Arg):@Eq (Option Out) (D.W k J) (p J):=by kernel_rfl
theorem ok:Ok prog 162 D.sig:=aw func162 aM (by kernel_rfl) (fc d8.ok (an _))
end eC
namespace cn
abbrev Arg:Type:=Tx×Key×Unit
abbrev Out:Type:=Bool×Unit
abbrev ps:PQ:=[(.ro,(.ptr aB)),(.ro,aF)]
noncomputable def D:FD:={ fn:=f163,tl:=be,ps:=ps,rs:=[(.bool,(ah .bool))],lv:=[(2,[0,3,5])],lx:=[(0,[])],od:=[(4,[0,1,2,3,4,5,6,7,8])] }
noncomputable def ab (a:Arg):Option Out:=@lift Out λk=>D.W k a
noncomputable def T0 (J:Arg) (Y:Int):St:={ n:=24,sl:=[(0,.cp aB J.1),(3,.box aF (ah aF) [] J.2.1),(5,.val i64 Y)],vr:=[],aA:=[] }
noncomputable def b0 (self:Int->Option Out) (e0:(Unit)->Option Out) (J:Arg) (Y:Int):Option Out:=bif decide (Y < (J.1.2.2.2.1.length:Int)) then (if 0<=Y then ((J.1.2.2.2.1[Y.toNat]?).bind λaT=>bif (Ty.eq aF aT J.2.1) then (some (true,())) else self (al (Y+(1:Int)))) else none) else e0 ()
noncomputable abbrev B0 (_:Nat):=b0
noncomputable def q0 (J:Arg) (sH:(Unit)):Option Out:=some (false,())
noncomputable abbrev Q0 (_:Nat):=q0
noncomputable def s0 (k:Nat) (J:Arg):(Int)->Option Out:=λY=>D.L k [1,0,1,0,0] [0,3,5] [] (ai 0 (aG (D.N k [1,1]) D.K0)) (T0 J Y)
noncomputable def r0 (k:Nat) (J:Arg):(Int)->Option Out:=au (λw v=>B0 k w (Q0 k J) J v) k
theorem aO (k:Nat) (J:Arg):s0 k J=r0 k J:=
 funext λY=>aI _ _ _ (T0 J) _ (λrec v=>by kernel_rfl) k Y
noncomputable def p (l0:(Int)->Option Out) (J:Arg):Option Out:=l0 (0:Int)
theorem ae (k:Nat) (J:Arg):@Eq (Option Out) (D.W k J) (p (r0 k J) J):=
 Eq.trans (b:=p (s0 k J) J) (by kernel_rfl) (by rw[aO])
theorem ok:Ok prog 163 D.sig:=aw func163 aM (by kernel_rfl) (an _)
end cn
namespace gg
abbrev Arg:Type:=Change×Unit
abbrev Out:Type:=Int×Unit
abbrev ps:PQ:=[(.ro,(.ptr ay))]
noncomputable def D:FD:={ fn:=f65,tl:=be,ps:=ps,rs:=[(i64,(ah i64))],gl:=[(136,cu.D.sig)],od:=[(1,[0,1,2,3,4,5,6,7,8,9,10,11,12,13,14,15,16,17,18,19,20,21,22,23,24,25,26,27,28,29,30,31,32,33,34,35,36,37,38,39,40,41,42,43,44,45,46,47,48,49])] }
noncomputable def ab (a:Arg):Option Out:=@lift Out λk=>D.W k a
noncomputable def p (J:Arg):Option Out:=let j5:Option Out:=bif J.1.1 then ((cu.ab (J.1.2.1,())).bind λr6=>bif !decide (r6.1=(0:Int)) then (some (r6.1,())) else bif J.1.2.2.1 then ((cu.ab (J.1.2.2.2.1,())).bind λr8=>some (r8.1,())) else some ((0:Int),())) else bif J.1.2.2.1 then ((cu.ab (J.1.2.2.2.1,())).bind λr9=>some (r9.1,())) else some ((0:Int),());bif !J.1.1 then (bif !J.1.2.2.1 then (some ((1:Int),())) else bif J.1.1 then (bif J.1.2.2.1 then (bif !decide (J.1.2.1.1=J.1.2.2.2.1.1) then (some ((1:Int),())) else bif !decide (J.1.2.1.2.1=J.1.2.2.2.1.2.1) then (some ((1:Int),())) else j5) else j5) else j5) else bif J.1.1 then (bif J.1.2.2.1 then (bif !decide (J.1.2.1.1=J.1.2.2.2.1.1) then (some ((1:Int),())) else bif !decide (J.1.2.1.2.1=J.1.2.2.2.1.2.1) then (some ((1:Int),())) else j5) else j5) else j5
theorem ae (k:Nat) (J:Arg):@Eq (Option Out) (D.W k J) (p J):=by kernel_rfl
theorem ok:Ok prog 65 D.sig:=aw func65 aM (by kernel_rfl) (fc cu.ok (an _))
end gg
namespace hM
abbrev Arg:Type:=Change×Unit
abbrev Out:Type:=Int×Unit
abbrev ps:PQ:=[(.ro,(.ptr ay))]
noncomputable def D:FD:={ fn:=f196,tl:=be,ps:=ps,rs:=[(i64,(ah i64))],gl:=[(65,gg.D.sig)],od:=[(4,[0,1,2,3,4,5,6,7,8,9,10,11,12,13,14,15,16,17,18,19,20])] }
noncomputable def ab (a:Arg):Option Out:=@lift Out λk=>D.W k a
noncomputable def p (J:Arg):Option Out:=(gg.ab (J.1,())).bind λr2=>bif !decide (r2.1=(0:Int)) then (some (r2.1,())) else bif J.1.1 then (bif J.1.2.2.1 then (bif (Ty.eq aj J.1.2.1 J.1.2.2.2.1) then (some ((1:Int),())) else some ((0:Int),())) else some ((0:Int),())) else some ((0:Int),())
theorem ae (k:Nat) (J:Arg):@Eq (Option Out) (D.W k J) (p J):=by kernel_rfl
theorem ok:Ok prog 196 D.sig:=aw func196 aM (by kernel_rfl) (fc gg.ok (an _))
end hM
namespace eD
abbrev Arg:Type:=Tx×Unit
abbrev Out:Type:=Int×Unit
abbrev ps:PQ:=[(.ro,(.ptr aB))]
noncomputable def D:FD:={ fn:=f153,tl:=be,ps:=ps,rs:=[(i64,(ah i64))],gl:=[(162,eC.D.sig),(163,cn.D.sig),(196,hM.D.sig)],lv:=[(2,[0,3])],lx:=[(0,[])] }
noncomputable def ab (a:Arg):Option Out:=@lift Out λk=>D.W k a
noncomputable def T0 (J:Arg) (Y:Int):St:={ n:=34,sl:=[(0,.cp aB J.1),(3,.val i64 Y)],vr:=[],aA:=[] }
noncomputable def b0 (self:Int->Option Out) (e0:(Unit)->Option Out) (J:Arg) (Y:Int):Option Out:=bif decide (Y < (J.1.2.1.length:Int)) then (if 0<=Y then ((J.1.2.1[Y.toNat]?).bind λaT=>(hM.ab (aT,())).bind λbN=>bif !decide (bN.1=(0:Int)) then (some (bN.1,())) else if 0<=Y then ((J.1.2.1[Y.toNat]?).bind λjS=>(eC.ab (jS,())).bind λij=>(cn.ab (J.1,ij.1,())).bind λmP=>bif !mP.1 then (some ((8:Int),())) else self (al (Y+(1:Int)))) else none) else none) else e0 ()
noncomputable abbrev B0 (_:Nat):=b0
noncomputable def q0 (J:Arg) (EY:(Unit)):Option Out:=some ((0:Int),())
noncomputable abbrev Q0 (_:Nat):=q0
noncomputable def s0 (k:Nat) (J:Arg):(Int)->Option Out:=λY=>D.L k [1,0,1,0,0] [0,3] [] (ai 0 (aG (D.N k [1,1]) D.K0)) (T0 J Y)
noncomputable def r0 (k:Nat) (J:Arg):(Int)->Option Out:=au (λw v=>B0 k w (Q0 k J) J v) k
theorem aO (k:Nat) (J:Arg):s0 k J=r0 k J:=
 funext λY=>aI _ _ _ (T0 J) _ (λrec v=>by kernel_rfl) k Y
noncomputable def p (l0:(Int)->Option Out) (J:Arg):Option Out:=l0 (0:Int)
theorem ae (k:Nat) (J:Arg):@Eq (Option Out) (D.W k J) (p (r0 k J) J):=
 Eq.trans (b:=p (s0 k J) J) (by kernel_rfl) (by rw[aO])
theorem ok:Ok prog 153 D.sig:=aw func153 aM (by kernel_rfl) (fc eC.ok (fc cn.ok (fc hM.ok (an _))))
end eD
namespace jl
abbrev Arg:Type:=Key×Unit
abbrev Out:Type:=Bool×Unit
abbrev ps:PQ:=[(.ro,(.ptr aF))]
noncomputable def D:FD:={ fn:=f197,tl:=be,ps:=ps,rs:=[(.bool,(ah .bool))],gl:=[(76,bg.D.sig)] }
noncomputable def ab (a:Arg):Option Out:=@lift Out λk=>D.W k a
noncomputable def p (J:Arg):Option Out:=(bg.ab (J.1.1,(0:Int),(3:Int),())).bind λr2=>bif r2.1 then ((bg.ab (J.1.2.1,(1:Int),(99:Int),())).bind λr3=>some (r3.1,())) else some (false,())
theorem ae (k:Nat) (J:Arg):@Eq (Option Out) (D.W k J) (p J):=by kernel_rfl
theorem ok:Ok prog 197 D.sig:=aw func197 aM (by kernel_rfl) (fc bg.ok (an _))
end jl
namespace a9
abbrev Arg:Type:=Tx×Unit
abbrev Out:Type:=Int×Unit
abbrev ps:PQ:=[(.ro,(.ptr aB))]
noncomputable def D:FD:={ fn:=f154,tl:=be,ps:=ps,rs:=[(i64,(ah i64))],gl:=[(76,bg.D.sig),(197,jl.D.sig)],lv:=[(4,[0,3]),(9,[0,4]),(14,[0,4,5])],lx:=[(0,[0]),(2,[]),(4,[0,4])],od:=[(6,[0,1,2,3,4,5,6,7,8,9,10,11,12,13,14,15,16,17,18,19,20,21,22,23,24,25,26,27,28,29,30,31,32,33,34,35]),(16,[0,1,2,3,4,5,6,7,8,9,10,11,12,13,14])],ar:=[(6,[3,6,10,21,24,28,32])] }
noncomputable def ab (a:Arg):Option Out:=@lift Out λk=>D.W k a
noncomputable def T0 (J:Arg) (Y:Int):St:={ n:=102,sl:=[(0,.cp aB J.1),(3,.val i64 Y)],vr:=[],aA:=[] }
noncomputable def S0 (rec:RT Out) (J:Arg):(Int)->Option Out:=λY=>rec (T0 J Y)
noncomputable def cV (K:KT Out) (J:Arg):(Unit)->Option Out:=λz=>K (.exit 0) ({ n:=102,sl:=[(0,.cp aB J.1)],vr:=[],aA:=[] })
noncomputable def b0 (self:Int->Option Out) (e0:(Unit)->Option Out) (J:Arg) (Y:Int):Option Out:=bif decide (Y < (J.1.2.2.1.length:Int)) then (if 0<=Y then ((J.1.2.2.1[Y.toNat]?).bind λaT=>(bg.ab (aT,(0:Int),(J.1.2.1.length:Int),())).bind λbN=>bif !bN.1 then (some ((3:Int),())) else bif decide ((0:Int) < Y) then (if 0<=Y then ((J.1.2.2.1[Y.toNat]?).bind λjS=>if 0<=al (Y - (1:Int)) then ((J.1.2.2.1[(al (Y - (1:Int))).toNat]?).bind λwh=>bif decide (jS < wh) then (some ((3:Int),())) else self (al (Y+(1:Int)))) else none) else none) else self (al (Y+(1:Int)))) else none) else e0 ()
noncomputable abbrev B0 (_:Nat):=b0
theorem i_ (k:Nat) (rec:RT Out) (K:KT Out) (J:Arg) (Y:Int):D.N k [1,1,0,1,0,0] (T0 J Y) (fw rec (dz [0,3] []) K)=b0 (S0 rec J) (cV K J) J Y:=by kernel_rfl
noncomputable def T1 (J:Arg) (cT:Tx×Int):St:={ n:=102,sl:=[(0,.cp aB cT.1),(4,.val i64 cT.2)],vr:=[],aA:=[] }
noncomputable def S1 (rec:RT Out) (J:Arg):(Tx×Int)->Option Out:=λcT=>rec (T1 J cT)
noncomputable def fR (K:KT Out) (J:Arg):(Unit)->Option Out:=λz=>K (.exit 2) ({ n:=102,sl:=[],vr:=[],aA:=[] })
noncomputable def T2 (J:Arg) (fx:Tx) (df:Int) (nO:Int):St:={ n:=102,sl:=[(0,.cp aB fx),(4,.val i64 df),(5,.val i64 nO)],vr:=[],aA:=[] }
noncomputable def b2 (self:Int->Option Out) (e4:(Unit)->Option Out) (J:Arg) (fx:Tx) (df:Int) (nO:Int):Option Out:=bif decide (nO < df) then (if 0<=nO then ((fx.2.2.2.1[nO.toNat]?).bind λEZ=>if 0<=df then ((fx.2.2.2.1[df.toNat]?).bind λOa=>bif (Ty.eq aF EZ Oa) then (some ((6:Int),())) else self (al (nO+(1:Int)))) else none) else none) else e4 ()
noncomputable abbrev B2 (_:Nat):=b2
noncomputable def q1 (self:(Tx×Int)->Option Out) (e2:(Unit)->Option Out) (J:Arg) (fx:Tx) (df:Int) (uW:(Unit)):Option Out:=self (fx,al (df+(1:Int)))
noncomputable abbrev Q1 (_:Nat):=q1
noncomputable def s2 (k:Nat) (rec:RT Out) (K:KT Out) (J:Arg):Tx->Int->(Int)->Option Out:=λfx df=>λnO=>D.L k [1,1,1,0,1,0,0,1,0,0,1,1,0,0] [0,4,5] [] (ai 4 (ai 3 (aG (D.N k [1,1,1,0,1,0,0,1,1]) (fw rec (dz [0,4] []) K)))) (T2 J fx df nO)
noncomputable def r2 (k:Nat) (self:(Tx×Int)->Option Out) (e2:(Unit)->Option Out) (J:Arg):Tx->Int->(Int)->Option Out:=λfx df=>au (λw v=>B2 k w (Q1 k self e2 J fx df) J fx df v) k
theorem o8 (k:Nat) (rec:RT Out) (K:KT Out) (J:Arg):s2 k rec K J=r2 k (S1 rec J) (fR K J) J:=
 funext λfx=>funext λdf=>funext λnO=>aI _ _ _ (T2 J fx df) _ (λrec v=>by kernel_rfl) k nO
noncomputable def b1 (self:(Tx×Int)->Option Out) (e2:(Unit)->Option Out) (l2:Tx->Int->(Int)->Option Out) (J:Arg) (cT:Tx×Int):Option Out:=bif decide (cT.2 < (cT.1.2.2.2.1.length:Int)) then (if 0<=cT.2 then ((cT.1.2.2.2.1[cT.2.toNat]?).bind λnP=>(jl.ab (nP,())).bind λxA=>bif !xA.1 then (some ((3:Int),())) else l2 cT.1 cT.2 (0:Int)) else none) else e2 ()
noncomputable def B1 (k:Nat) (self:(Tx×Int)->Option Out) (e2:(Unit)->Option Out) (J:Arg) (cT:Tx×Int):Option Out:=b1 self e2 (r2 k self e2 J) J cT
theorem o9 (k:Nat) (rec:RT Out) (K:KT Out) (J:Arg) (cT:Tx×Int):D.N k [1,1,1,0,1,0,0] (T1 J cT) (fw rec (dz [0,4] []) K)=B1 k (S1 rec J) (fR K J) J cT:=
 Eq.trans (b:=b1 (S1 rec J) (fR K J) (s2 k rec K J) J cT) (by kernel_rfl) (by rw[o8];rfl)
noncomputable def q2 (J:Arg) (E0:(Unit)):Option Out:=some ((0:Int),())
noncomputable abbrev Q2 (_:Nat):=q2
theorem xB (k:Nat) (J:Arg) (E0:(Unit)):fR (ai 2 (aG (D.N k [1,1,1,1]) D.K0)) J E0=q2 J E0:=by kernel_rfl
noncomputable def s1 (k:Nat) (J:Arg):(Tx×Int)->Option Out:=λcT=>D.L k [1,1,1,0,1,0,0] [0,4] [] (ai 2 (aG (D.N k [1,1,1,1]) D.K0)) (T1 J cT)
noncomputable def r1 (k:Nat) (J:Arg):(Tx×Int)->Option Out:=au (λw v=>B1 k w (Q2 k J) J v) k
theorem ja (k:Nat) (J:Arg):s1 k J=r1 k J:=by
 funext cT;
 have h2:fR (ai 2 (aG (D.N k [1,1,1,1]) D.K0)) J=Q2 k J:=funext λz=>xB k J z
 refine (aI _ _ _ (T1 J) (λself v=>B1 k self (fR (ai 2 (aG (D.N k [1,1,1,1]) D.K0)) J) J v) (λrec v=>o9 k rec (ai 2 (aG (D.N k [1,1,1,1]) D.K0)) J v) k cT).trans ?_
 rw[h2]
 rfl
noncomputable def q0 (l1:(Tx×Int)->Option Out) (J:Arg) (jT:(Unit)):Option Out:=l1 (J.1,(0:Int))
noncomputable def Q0 (k:Nat) (J:Arg) (jT:(Unit)):Option Out:=q0 (r1 k J) J jT
theorem mQ (k:Nat) (J:Arg) (jT:(Unit)):cV (ai 0 (aG (D.N k [1,1,1]) D.K0)) J jT=Q0 k J jT:=
 Eq.trans (b:=q0 (s1 k J) J jT) (by kernel_rfl) (by rw[ja];rfl)
noncomputable def s0 (k:Nat) (J:Arg):(Int)->Option Out:=λY=>D.L k [1,1,0,1,0,0] [0,3] [] (ai 0 (aG (D.N k [1,1,1]) D.K0)) (T0 J Y)
noncomputable def r0 (k:Nat) (J:Arg):(Int)->Option Out:=au (λw v=>B0 k w (Q0 k J) J v) k
theorem aO (k:Nat) (J:Arg):s0 k J=r0 k J:=by
 funext Y;
 have h0:cV (ai 0 (aG (D.N k [1,1,1]) D.K0)) J=Q0 k J:=funext λz=>mQ k J z
 refine (aI _ _ _ (T0 J) (λself v=>B0 k self (cV (ai 0 (aG (D.N k [1,1,1]) D.K0)) J) J v) (λrec v=>i_ k rec (ai 0 (aG (D.N k [1,1,1]) D.K0)) J v) k Y).trans ?_
 rw[h0]
 rfl
noncomputable def p (l0:(Int)->Option Out) (J:Arg):Option Out:=bif decide ((8:Int) < (J.1.2.2.1.length:Int)) then (some ((2:Int),())) else bif decide ((12:Int) < (J.1.2.2.2.1.length:Int)) then (some ((2:Int),())) else l0 (0:Int)
theorem ae (k:Nat) (J:Arg):@Eq (Option Out) (D.W k J) (p (r0 k J) J):=
 Eq.trans (b:=p (s0 k J) J) (by kernel_rfl) (by rw[aO])
theorem ok:Ok prog 154 D.sig:=aw func154 aM (by kernel_rfl) (fc bg.ok (fc jl.ok (an _)))
end a9
namespace eU
abbrev Arg:Type:=(List Tx)×Key×Unit
abbrev Out:Type:=Int×Unit
abbrev ps:PQ:=[(.ro,(.aa aB)),(.ro,aF)]
noncomputable def D:FD:={ fn:=f198,tl:=be,ps:=ps,rs:=[(i64,(ah i64))],gl:=[(163,cn.D.sig)],lv:=[(2,[0,3,5])],lx:=[(0,[])],od:=[(4,[0,1,2,3,4])] }
noncomputable def ab (a:Arg):Option Out:=@lift Out λk=>D.W k a
noncomputable def T0 (J:Arg) (Y:Int):St:={ n:=22,sl:=[(0,.val (.aa aB) J.1),(3,.box aF (ah aF) [] J.2.1),(5,.val i64 Y)],vr:=[],aA:=[] }
noncomputable def b0 (self:Int->Option Out) (e0:(Unit)->Option Out) (J:Arg) (Y:Int):Option Out:=bif decide (Y < (J.1.length:Int)) then (if 0<=Y then ((J.1[Y.toNat]?).bind λaT=>(cn.ab (aT,J.2.1,())).bind λbN=>bif bN.1 then (if 0<=Y then ((J.1[Y.toNat]?).bind λjS=>some (jS.1,())) else none) else self (al (Y+(1:Int)))) else none) else e0 ()
noncomputable abbrev B0 (_:Nat):=b0
noncomputable def q0 (J:Arg) (MJ:(Unit)):Option Out:=some ((0:Int),())
noncomputable abbrev Q0 (_:Nat):=q0
noncomputable def s0 (k:Nat) (J:Arg):(Int)->Option Out:=λY=>D.L k [1,0,1,0,0] [0,3,5] [] (ai 0 (aG (D.N k [1,1]) D.K0)) (T0 J Y)
noncomputable def r0 (k:Nat) (J:Arg):(Int)->Option Out:=au (λw v=>B0 k w (Q0 k J) J v) k
theorem aO (k:Nat) (J:Arg):s0 k J=r0 k J:=
 funext λY=>aI _ _ _ (T0 J) _ (λrec v=>by kernel_rfl) k Y
noncomputable def p (l0:(Int)->Option Out) (J:Arg):Option Out:=l0 (0:Int)
theorem ae (k:Nat) (J:Arg):@Eq (Option Out) (D.W k J) (p (r0 k J) J):=
 Eq.trans (b:=p (s0 k J) J) (by kernel_rfl) (by rw[aO])
theorem ok:Ok prog 198 D.sig:=aw func198 aM (by kernel_rfl) (fc cn.ok (an _))
end eU
namespace bF
abbrev Arg:Type:=(List Tx)×Unit
abbrev Out:Type:=Bool×Unit
abbrev ps:PQ:=[(.ro,(.aa aB))]
noncomputable def D:FD:={ fn:=f155,tl:=be,ps:=ps,rs:=[(.bool,(ah .bool))],gl:=[(198,eU.D.sig)],lv:=[(2,[0,3]),(5,[0,3,4])],lx:=[(0,[]),(2,[0,3])],od:=[(7,[0,1,2,3,4,5,6,7,8,10,11,12,13,14,9,15])] }
noncomputable def ab (a:Arg):Option Out:=@lift Out λk=>D.W k a
noncomputable def T0 (J:Arg) (Y:(List Tx)×Int):St:={ n:=37,sl:=[(0,.val (.aa aB) Y.1),(3,.val i64 Y.2)],vr:=[],aA:=[] }
noncomputable def S0 (rec:RT Out) (J:Arg):((List Tx)×Int)->Option Out:=λY=>rec (T0 J Y)
noncomputable def cV (K:KT Out) (J:Arg):(Unit)->Option Out:=λz=>K (.exit 0) ({ n:=37,sl:=[],vr:=[],aA:=[] })
noncomputable def T1 (J:Arg) (jU:List Tx) (cC:Int) (nQ:Int):St:={ n:=37,sl:=[(0,.val (.aa aB) jU),(3,.val i64 cC),(4,.val i64 nQ)],vr:=[],aA:=[] }
noncomputable def b1 (self:Int->Option Out) (e2:(Unit)->Option Out) (J:Arg) (jU:List Tx) (cC:Int) (nQ:Int):Option Out:=if 0<=cC then ((jU[cC.toNat]?).bind λxC=>bif decide (nQ < (xC.2.2.2.1.length:Int)) then (if 0<=cC then ((jU[cC.toNat]?).bind λsI=>if 0<=nQ then ((sI.2.2.2.1[nQ.toNat]?).bind λOb=>if 0<=cC then ((jU[cC.toNat]?).bind λnP=>(eU.ab (jU,Ob,())).bind λxA=>bif !decide (xA.1=nP.1) then (some (false,())) else self (al (nQ+(1:Int)))) else none) else none) else none) else e2 ()) else none
noncomputable abbrev B1 (_:Nat):=b1
noncomputable def q0 (self:((List Tx)×Int)->Option Out) (e0:(Unit)->Option Out) (J:Arg) (jU:List Tx) (cC:Int) (sJ:(Unit)):Option Out:=self (jU,al (cC+(1:Int)))
noncomputable abbrev Q0 (_:Nat):=q0
noncomputable def s1 (k:Nat) (rec:RT Out) (K:KT Out) (J:Arg):(List Tx)->Int->(Int)->Option Out:=λjU cC=>λnQ=>D.L k [1,0,1,0,0,1,0,0,1,0,0] [0,3,4] [] (ai 2 (ai 1 (aG (D.N k [1,0,1,0,0,1,1]) (fw rec (dz [0,3] []) K)))) (T1 J jU cC nQ)
noncomputable def r1 (k:Nat) (self:((List Tx)×Int)->Option Out) (e0:(Unit)->Option Out) (J:Arg):(List Tx)->Int->(Int)->Option Out:=λjU cC=>au (λw v=>B1 k w (Q0 k self e0 J jU cC) J jU cC v) k
theorem ja (k:Nat) (rec:RT Out) (K:KT Out) (J:Arg):s1 k rec K J=r1 k (S0 rec J) (cV K J) J:=
 funext λjU=>funext λcC=>funext λnQ=>aI _ _ _ (T1 J jU cC) _ (λrec v=>by kernel_rfl) k nQ
noncomputable def b0 (self:((List Tx)×Int)->Option Out) (e0:(Unit)->Option Out) (l1:(List Tx)->Int->(Int)->Option Out) (J:Arg) (Y:(List Tx)×Int):Option Out:=bif decide (Y.2 < (Y.1.length:Int)) then (l1 Y.1 Y.2 (0:Int)) else e0 ()
noncomputable def B0 (k:Nat) (self:((List Tx)×Int)->Option Out) (e0:(Unit)->Option Out) (J:Arg) (Y:(List Tx)×Int):Option Out:=b0 self e0 (r1 k self e0 J) J Y
theorem i_ (k:Nat) (rec:RT Out) (K:KT Out) (J:Arg) (Y:(List Tx)×Int):D.N k [1,0,1,0,0] (T0 J Y) (fw rec (dz [0,3] []) K)=B0 k (S0 rec J) (cV K J) J Y:=
 Eq.trans (b:=b0 (S0 rec J) (cV K J) (s1 k rec K J) J Y) (by kernel_rfl) (by rw[ja];rfl)
noncomputable def q1 (J:Arg) (xD:(Unit)):Option Out:=some (true,())
noncomputable abbrev Q1 (_:Nat):=q1
theorem o_ (k:Nat) (J:Arg) (xD:(Unit)):cV (ai 0 (aG (D.N k [1,1]) D.K0)) J xD=q1 J xD:=by kernel_rfl
noncomputable def s0 (k:Nat) (J:Arg):((List Tx)×Int)->Option Out:=λY=>D.L k [1,0,1,0,0] [0,3] [] (ai 0 (aG (D.N k [1,1]) D.K0)) (T0 J Y)
noncomputable def r0 (k:Nat) (J:Arg):((List Tx)×Int)->Option Out:=au (λw v=>B0 k w (Q1 k J) J v) k
theorem aO (k:Nat) (J:Arg):s0 k J=r0 k J:=by
 funext Y;
 have h0:cV (ai 0 (aG (D.N k [1,1]) D.K0)) J=Q1 k J:=funext λz=>o_ k J z
 refine (aI _ _ _ (T0 J) (λself v=>B0 k self (cV (ai 0 (aG (D.N k [1,1]) D.K0)) J) J v) (λrec v=>i_ k rec (ai 0 (aG (D.N k [1,1]) D.K0)) J v) k Y).trans ?_
 rw[h0]
 rfl
noncomputable def p (l0:((List Tx)×Int)->Option Out) (J:Arg):Option Out:=l0 (J.1,(0:Int))
theorem ae (k:Nat) (J:Arg):@Eq (Option Out) (D.W k J) (p (r0 k J) J):=
 Eq.trans (b:=p (s0 k J) J) (by kernel_rfl) (by rw[aO])
theorem ok:Ok prog 155 D.sig:=aw func155 aM (by kernel_rfl) (fc eU.ok (an _))
end bF
namespace cQ
abbrev Arg:Type:=(List Tx)×Unit
abbrev Out:Type:=Int×Unit
abbrev ps:PQ:=[(.ro,(.aa aB))]
noncomputable def D:FD:={ fn:=f156,tl:=be,ps:=ps,rs:=[(i64,(ah i64))],lv:=[(3,[0,3,4])],lx:=[(0,[3])] }
noncomputable def ab (a:Arg):Option Out:=@lift Out λk=>D.W k a
noncomputable def T0 (J:Arg) (Y:Int×Int):St:={ n:=20,sl:=[(0,.val (.aa aB) J.1),(3,.val i64 Y.1),(4,.val i64 Y.2)],vr:=[],aA:=[] }
noncomputable def b0 (self:(Int×Int)->Option Out) (e0:Int->Option Out) (J:Arg) (Y:Int×Int):Option Out:=bif decide (Y.2 < (J.1.length:Int)) then (if 0<=Y.2 then ((J.1[Y.2.toNat]?).bind λaT=>self (al (Y.1+(aT.2.1.length:Int)),al (Y.2+(1:Int)))) else none) else e0 Y.1
noncomputable abbrev B0 (_:Nat):=b0
noncomputable def q0 (J:Arg) (sH:Int):Option Out:=some (sH,())
noncomputable abbrev Q0 (_:Nat):=q0
noncomputable def s0 (k:Nat) (J:Arg):(Int×Int)->Option Out:=λY=>D.L k [1,1,0,1,0,0] [0,3,4] [] (ai 0 (aG (D.N k [1,1,1]) D.K0)) (T0 J Y)
noncomputable def r0 (k:Nat) (J:Arg):(Int×Int)->Option Out:=au (λw v=>B0 k w (Q0 k J) J v) k
theorem aO (k:Nat) (J:Arg):s0 k J=r0 k J:=
 funext λY=>aI _ _ _ (T0 J) _ (λrec v=>by kernel_rfl) k Y
noncomputable def p (l0:(Int×Int)->Option Out) (J:Arg):Option Out:=l0 ((0:Int),(0:Int))
theorem ae (k:Nat) (J:Arg):@Eq (Option Out) (D.W k J) (p (r0 k J) J):=
 Eq.trans (b:=p (s0 k J) J) (by kernel_rfl) (by rw[aO])
theorem ok:Ok prog 156 D.sig:=aw func156 aM (by kernel_rfl) (an _)
end cQ
namespace co
abbrev Arg:Type:=(List Tx)×Unit
abbrev Out:Type:=Int×Unit
abbrev ps:PQ:=[(.ro,(.aa aB))]
noncomputable def D:FD:={ fn:=f98,tl:=be,ps:=ps,rs:=[(i64,(ah i64))],gl:=[(76,bg.D.sig),(153,eD.D.sig),(154,a9.D.sig),(155,bF.D.sig),(156,cQ.D.sig)],lv:=[(4,[0,3])],lx:=[(0,[0])],od:=[(9,[0,1,2,3,4,5,6,7,8,9,10,11,12,13,14])] }
noncomputable def ab (a:Arg):Option Out:=@lift Out λk=>D.W k a
noncomputable def T0 (J:Arg) (Y:Int):St:={ n:=56,sl:=[(0,.val (.aa aB) J.1),(3,.val i64 Y)],vr:=[],aA:=[] }
noncomputable def b0 (self:Int->Option Out) (e0:(Unit)->Option Out) (J:Arg) (Y:Int):Option Out:=bif decide (Y < (J.1.length:Int)) then (if 0<=Y then ((J.1[Y.toNat]?).bind λaT=>(bg.ab (aT.1,(1:Int),(99:Int),())).bind λbN=>bif !bN.1 then (some ((3:Int),())) else let MK:Option Out:=(eD.ab (aT,())).bind λE1=>bif !decide (E1.1=(0:Int)) then (some (E1.1,())) else (a9.ab (aT,())).bind λoN=>bif !decide (oN.1=(0:Int)) then (some (oN.1,())) else self (al (Y+(1:Int)));bif decide ((0:Int) < Y) then (if 0<=al (Y - (1:Int)) then ((J.1[(al (Y - (1:Int))).toNat]?).bind λjS=>bif decide (aT.1<=jS.1) then (some ((1:Int),())) else MK) else none) else MK) else none) else e0 ()
noncomputable abbrev B0 (_:Nat):=b0
noncomputable def q0 (J:Arg) (Td:(Unit)):Option Out:=(bF.ab (J.1,())).bind λQm=>bif !Qm.1 then (some ((7:Int),())) else (cQ.ab (J.1,())).bind λIK=>bif decide ((12:Int) < IK.1) then (some ((2:Int),())) else some ((0:Int),())
noncomputable abbrev Q0 (_:Nat):=q0
noncomputable def s0 (k:Nat) (J:Arg):(Int)->Option Out:=λY=>D.L k [1,1,0,1,0,0] [0,3] [] (ai 0 (aG (D.N k [1,1,1]) D.K0)) (T0 J Y)
noncomputable def r0 (k:Nat) (J:Arg):(Int)->Option Out:=au (λw v=>B0 k w (Q0 k J) J v) k
theorem aO (k:Nat) (J:Arg):s0 k J=r0 k J:=
 funext λY=>aI _ _ _ (T0 J) _ (λrec v=>by kernel_rfl) k Y
noncomputable def p (l0:(Int)->Option Out) (J:Arg):Option Out:=bif decide ((4:Int) < (J.1.length:Int)) then (some ((2:Int),())) else l0 (0:Int)
theorem ae (k:Nat) (J:Arg):@Eq (Option Out) (D.W k J) (p (r0 k J) J):=
 Eq.trans (b:=p (s0 k J) J) (by kernel_rfl) (by rw[aO])
theorem ok:Ok prog 98 D.sig:=aw func98 aM (by kernel_rfl) (fc bg.ok (fc eD.ok (fc a9.ok (fc bF.ok (fc cQ.ok (an _))))))
end co
namespace aD
abbrev Arg:Type:=(List Row)×(List Tx)×Key×Unit
abbrev Out:Type:=Int×Unit
abbrev ps:PQ:=[(.ro,(.aa aj)),(.ro,(.aa aB)),(.ro,aF)]
noncomputable def D:FD:={ fn:=f99,tl:=be,ps:=ps,rs:=[(i64,(ah i64))],lv:=[(3,[0,1,5,7,8]),(7,[1,5,7,9]),(14,[7,10,11]),(18,[7,10,11,12,13])],lx:=[(0,[1,5,7]),(2,[5,7]),(4,[10]),(6,[7,10,11,12])],od:=[(5,[0,1,2,3,4,5,6,7,8,9,10,11,12,13,14]),(20,[0,1,2,3,4,5,6,7,8,9])] }
noncomputable def ab (a:Arg):Option Out:=@lift Out λk=>D.W k a
noncomputable def T0 (J:Arg) (Y:(List Key)×Int):St:={ n:=82,sl:=[(0,.val (.aa aj) J.1),(1,.val (.aa aB) J.2.1),(5,.box aF (ah aF) [] J.2.2.1),(7,.own (.aa aF) (av (.aa aF)) [] Y.1),(8,.val i64 Y.2)],vr:=[],aA:=[] }
noncomputable def S0 (rec:RT Out) (J:Arg):((List Key)×Int)->Option Out:=λY=>rec (T0 J Y)
noncomputable def cV (K:KT Out) (J:Arg):(List Key)->Option Out:=λz=>K (.exit 0) ({ n:=82,sl:=[(1,.val (.aa aB) J.2.1),(5,.box aF (ah aF) [] J.2.2.1),(7,.own (.aa aF) (av (.aa aF)) [] z)],vr:=[],aA:=[] })
noncomputable def b0 (self:((List Key)×Int)->Option Out) (e0:(List Key)->Option Out) (J:Arg) (Y:(List Key)×Int):Option Out:=bif decide (Y.2 < (J.1.length:Int)) then (if 0<=Y.2 then ((J.1[Y.2.toNat]?).bind λaT=>if 0<=Y.2 then ((J.1[Y.2.toNat]?).bind λub=>if Y.1.length+[(aT.1,ub.2.1,())].length<=bV then (self (Y.1++[(aT.1,ub.2.1,())],al (Y.2+(1:Int)))) else none) else none) else none) else e0 Y.1
noncomputable abbrev B0 (_:Nat):=b0
theorem i_ (k:Nat) (rec:RT Out) (K:KT Out) (J:Arg) (Y:(List Key)×Int):D.N k [1,1,0,1,0,0] (T0 J Y) (fw rec (dz [0,1,5,7,8] []) K)=b0 (S0 rec J) (cV K J) J Y:=by kernel_rfl
noncomputable def T1 (J:Arg) (ca:(List Key)×Int):St:={ n:=82,sl:=[(1,.val (.aa aB) J.2.1),(5,.box aF (ah aF) [] J.2.2.1),(7,.own (.aa aF) (av (.aa aF)) [] ca.1),(9,.val i64 ca.2)],vr:=[],aA:=[] }
noncomputable def S1 (rec:RT Out) (J:Arg):((List Key)×Int)->Option Out:=λca=>rec (T1 J ca)
noncomputable def fR (K:KT Out) (J:Arg):(List Key)->Option Out:=λz=>K (.exit 2) ({ n:=82,sl:=[(5,.box aF (ah aF) [] J.2.2.1),(7,.own (.aa aF) (av (.aa aF)) [] z)],vr:=[],aA:=[] })
noncomputable def b1 (self:((List Key)×Int)->Option Out) (e2:(List Key)->Option Out) (J:Arg) (ca:(List Key)×Int):Option Out:=bif decide (ca.2 < (J.2.1.length:Int)) then (if 0<=ca.2 then ((J.2.1[ca.2.toNat]?).bind λsI=>if ca.1.length+sI.2.2.2.1.length<=bV then (self (ca.1++sI.2.2.2.1,al (ca.2+(1:Int)))) else none) else none) else e2 ca.1
noncomputable abbrev B1 (_:Nat):=b1
theorem o9 (k:Nat) (rec:RT Out) (K:KT Out) (J:Arg) (ca:(List Key)×Int):D.N k [1,1,1,0,1,0,0] (T1 J ca) (fw rec (dz [1,5,7,9] []) K)=b1 (S1 rec J) (fR K J) J ca:=by kernel_rfl
noncomputable def T2 (J:Arg) (gn:(List Key)×Int×Int):St:={ n:=82,sl:=[(7,.own (.aa aF) (av (.aa aF)) [] gn.1),(10,.val i64 gn.2.1),(11,.val i64 gn.2.2)],vr:=[],aA:=[] }
noncomputable def S2 (rec:RT Out) (J:Arg):((List Key)×Int×Int)->Option Out:=λgn=>rec (T2 J gn)
noncomputable def yL (K:KT Out) (J:Arg):Int->Option Out:=λz=>K (.exit 4) ({ n:=82,sl:=[(10,.val i64 z)],vr:=[],aA:=[] })
noncomputable def T3 (J:Arg) (jy:List Key) (lL:Int) (jz:Int) (jV:Bool×Int):St:={ n:=82,sl:=[(7,.own (.aa aF) (av (.aa aF)) [] jy),(10,.val i64 lL),(11,.val i64 jz),(12,.val .bool jV.1),(13,.val i64 jV.2)],vr:=[],aA:=[] }
noncomputable def b3 (self:(Bool×Int)->Option Out) (e6:Bool->Option Out) (J:Arg) (jy:List Key) (lL:Int) (jz:Int) (jV:Bool×Int):Option Out:=bif decide (jV.2 < jz) then (bif jV.1 then (if 0<=jV.2/\jV.2 < (jy.length:Int) then ((jy[jV.2.toNat]?).bind λOc=>if 0<=jz/\jz < (jy.length:Int) then ((jy[jz.toNat]?).bind λOd=>self (!(Ty.eq aF Oc Od),al (jV.2+(1:Int)))) else none) else none) else e6 jV.1) else e6 jV.1
noncomputable abbrev B3 (_:Nat):=b3
noncomputable def q2 (self:((List Key)×Int×Int)->Option Out) (e4:Int->Option Out) (J:Arg) (jy:List Key) (lL:Int) (jz:Int) (Oe:Bool):Option Out:=bif Oe then (self (jy,al (lL+(1:Int)),al (jz+(1:Int)))) else self (jy,lL,al (jz+(1:Int)))
noncomputable abbrev Q2 (_:Nat):=q2
noncomputable def s3 (k:Nat) (rec:RT Out) (K:KT Out) (J:Arg):(List Key)->Int->Int->(Bool×Int)->Option Out:=λjy lL jz=>λjV=>D.L k [1,1,1,1,1,1,0,1,0,0,1,0,0,1,0,1,0,0] [7,10,11,12,13] [] (ai 6 (aG (D.N k [1,1,1,1,1,1,0,1,0,0,1,0,0,1,1]) (ai 5 (aG (D.N k [1,1,1,1,1,1,0,1,0,0,1,1]) (fw rec (dz [7,10,11] []) K))))) (T3 J jy lL jz jV)
noncomputable def r3 (k:Nat) (self:((List Key)×Int×Int)->Option Out) (e4:Int->Option Out) (J:Arg):(List Key)->Int->Int->(Bool×Int)->Option Out:=λjy lL jz=>au (λw v=>B3 k w (Q2 k self e4 J jy lL jz) J jy lL jz v) k
theorem Of (k:Nat) (rec:RT Out) (K:KT Out) (J:Arg):s3 k rec K J=r3 k (S2 rec J) (yL K J) J:=
 funext λjy=>funext λlL=>funext λjz=>funext λjV=>aI _ _ _ (T3 J jy lL jz) _ (λrec v=>by kernel_rfl) k jV
noncomputable def b2 (self:((List Key)×Int×Int)->Option Out) (e4:Int->Option Out) (l3:(List Key)->Int->Int->(Bool×Int)->Option Out) (J:Arg) (gn:(List Key)×Int×Int):Option Out:=bif decide (gn.2.2 < (gn.1.length:Int)) then (l3 gn.1 gn.2.1 gn.2.2 (true,(0:Int))) else e4 gn.2.1
noncomputable def B2 (k:Nat) (self:((List Key)×Int×Int)->Option Out) (e4:Int->Option Out) (J:Arg) (gn:(List Key)×Int×Int):Option Out:=b2 self e4 (r3 k self e4 J) J gn
theorem Og (k:Nat) (rec:RT Out) (K:KT Out) (J:Arg) (gn:(List Key)×Int×Int):D.N k [1,1,1,1,1,1,0,1,0,0] (T2 J gn) (fw rec (dz [7,10,11] []) K)=B2 k (S2 rec J) (yL K J) J gn:=
 Eq.trans (b:=b2 (S2 rec J) (yL K J) (s3 k rec K J) J gn) (by kernel_rfl) (by rw[Of];rfl)
noncomputable def q3 (J:Arg) (Ar:Int):Option Out:=some (Ar,())
noncomputable abbrev Q3 (_:Nat):=q3
theorem Oh (k:Nat) (J:Arg) (Ar:Int):yL (ai 4 (aG (D.N k [1,1,1,1,1,1,1]) D.K0)) J Ar=q3 J Ar:=by kernel_rfl
noncomputable def s2 (k:Nat) (J:Arg):((List Key)×Int×Int)->Option Out:=λgn=>D.L k [1,1,1,1,1,1,0,1,0,0] [7,10,11] [] (ai 4 (aG (D.N k [1,1,1,1,1,1,1]) D.K0)) (T2 J gn)
noncomputable def r2 (k:Nat) (J:Arg):((List Key)×Int×Int)->Option Out:=au (λw v=>B2 k w (Q3 k J) J v) k
theorem o8 (k:Nat) (J:Arg):s2 k J=r2 k J:=by
 funext gn;
 have h4:yL (ai 4 (aG (D.N k [1,1,1,1,1,1,1]) D.K0)) J=Q3 k J:=funext λz=>Oh k J z
 refine (aI _ _ _ (T2 J) (λself v=>B2 k self (yL (ai 4 (aG (D.N k [1,1,1,1,1,1,1]) D.K0)) J) J v) (λrec v=>Og k rec (ai 4 (aG (D.N k [1,1,1,1,1,1,1]) D.K0)) J v) k gn).trans ?_
 rw[h4]
 rfl
noncomputable def q1 (l2:((List Key)×Int×Int)->Option Out) (J:Arg) (nR:(List Key)):Option Out:=let Kn:=λ(Oi:List Key)=>(l2 (Oi,(0:Int),(0:Int)):Option Out);bif !decide (J.2.2.1.2.1=(0:Int)) then (if nR.length+[J.2.2.1].length<=bV then (Kn (nR++[J.2.2.1])) else none) else Kn nR
noncomputable def Q1 (k:Nat) (J:Arg) (nR:(List Key)):Option Out:=q1 (r2 k J) J nR
theorem o_ (k:Nat) (J:Arg) (nR:(List Key)):fR (ai 2 (aG (D.N k [1,1,1,1]) D.K0)) J nR=Q1 k J nR:=
 Eq.trans (b:=q1 (s2 k J) J nR) (by kernel_rfl) (by rw[o8];rfl)
noncomputable def s1 (k:Nat) (J:Arg):((List Key)×Int)->Option Out:=λca=>D.L k [1,1,1,0,1,0,0] [1,5,7,9] [] (ai 2 (aG (D.N k [1,1,1,1]) D.K0)) (T1 J ca)
noncomputable def r1 (k:Nat) (J:Arg):((List Key)×Int)->Option Out:=au (λw v=>B1 k w (Q1 k J) J v) k
theorem ja (k:Nat) (J:Arg):s1 k J=r1 k J:=by
 funext ca;
 have h2:fR (ai 2 (aG (D.N k [1,1,1,1]) D.K0)) J=Q1 k J:=funext λz=>o_ k J z
 refine (aI _ _ _ (T1 J) (λself v=>B1 k self (fR (ai 2 (aG (D.N k [1,1,1,1]) D.K0)) J) J v) (λrec v=>o9 k rec (ai 2 (aG (D.N k [1,1,1,1]) D.K0)) J v) k ca).trans ?_
 rw[h2]
 rfl
noncomputable def q0 (l1:((List Key)×Int)->Option Out) (J:Arg) (cJ:(List Key)):Option Out:=l1 (cJ,(0:Int))
noncomputable def Q0 (k:Nat) (J:Arg) (cJ:(List Key)):Option Out:=q0 (r1 k J) J cJ
theorem mQ (k:Nat) (J:Arg) (cJ:(List Key)):cV (ai 0 (aG (D.N k [1,1,1]) D.K0)) J cJ=Q0 k J cJ:=
 Eq.trans (b:=q0 (s1 k J) J cJ) (by kernel_rfl) (by rw[ja];rfl)
noncomputable def s0 (k:Nat) (J:Arg):((List Key)×Int)->Option Out:=λY=>D.L k [1,1,0,1,0,0] [0,1,5,7,8] [] (ai 0 (aG (D.N k [1,1,1]) D.K0)) (T0 J Y)
noncomputable def r0 (k:Nat) (J:Arg):((List Key)×Int)->Option Out:=au (λw v=>B0 k w (Q0 k J) J v) k
theorem aO (k:Nat) (J:Arg):s0 k J=r0 k J:=by
 funext Y;
 have h0:cV (ai 0 (aG (D.N k [1,1,1]) D.K0)) J=Q0 k J:=funext λz=>mQ k J z
 refine (aI _ _ _ (T0 J) (λself v=>B0 k self (cV (ai 0 (aG (D.N k [1,1,1]) D.K0)) J) J v) (λrec v=>i_ k rec (ai 0 (aG (D.N k [1,1,1]) D.K0)) J v) k Y).trans ?_
 rw[h0]
 rfl
noncomputable def p (l0:((List Key)×Int)->Option Out) (J:Arg):Option Out:=l0 (([]:List Key),(0:Int))
theorem ae (k:Nat) (J:Arg):@Eq (Option Out) (D.W k J) (p (r0 k J) J):=
 Eq.trans (b:=p (s0 k J) J) (by kernel_rfl) (by rw[aO])
theorem ok:Ok prog 99 D.sig:=aw func99 aM (by kernel_rfl) (an _)
end aD
namespace bW
abbrev Arg:Type:=(List Row)×Int×Int×Unit
abbrev Out:Type:=Int×Unit
abbrev ps:PQ:=[(.ro,(.aa aj)),(.ro,i64),(.ro,i64)]
noncomputable def D:FD:={ fn:=f121,tl:=be,ps:=ps,rs:=[(i64,(ah i64))],lv:=[(2,[0,1,2,7])],lx:=[(0,[])] }
noncomputable def ab (a:Arg):Option Out:=@lift Out λk=>D.W k a
noncomputable def T0 (J:Arg) (Y:Int):St:={ n:=31,sl:=[(0,.val (.aa aj) J.1),(1,.val i64 J.2.1),(2,.val i64 J.2.2.1),(7,.val i64 Y)],vr:=[],aA:=[] }
noncomputable def b0 (self:Int->Option Out) (e0:(Unit)->Option Out) (J:Arg) (Y:Int):Option Out:=bif decide (Y < (J.1.length:Int)) then (if 0<=Y then ((J.1[Y.toNat]?).bind λaT=>bif decide (aT.1=J.2.1) then (if 0<=Y then ((J.1[Y.toNat]?).bind λub=>bif decide (ub.2.1=J.2.2.1) then (some (Y,())) else self (al (Y+(1:Int)))) else none) else self (al (Y+(1:Int)))) else none) else e0 ()
noncomputable abbrev B0 (_:Nat):=b0
noncomputable def q0 (J:Arg) (cJ:(Unit)):Option Out:=some ((-1:Int),())
noncomputable abbrev Q0 (_:Nat):=q0
noncomputable def s0 (k:Nat) (J:Arg):(Int)->Option Out:=λY=>D.L k [1,0,1,0,0] [0,1,2,7] [] (ai 0 (aG (D.N k [1,1]) D.K0)) (T0 J Y)
noncomputable def r0 (k:Nat) (J:Arg):(Int)->Option Out:=au (λw v=>B0 k w (Q0 k J) J v) k
theorem aO (k:Nat) (J:Arg):s0 k J=r0 k J:=
 funext λY=>aI _ _ _ (T0 J) _ (λrec v=>by kernel_rfl) k Y
noncomputable def p (l0:(Int)->Option Out) (J:Arg):Option Out:=l0 (0:Int)
theorem ae (k:Nat) (J:Arg):@Eq (Option Out) (D.W k J) (p (r0 k J) J):=
 Eq.trans (b:=p (s0 k J) J) (by kernel_rfl) (by rw[aO])
theorem ok:Ok prog 121 D.sig:=aw func121 aM (by kernel_rfl) (an _)
end bW
namespace cD
abbrev Arg:Type:=(List Row)×Row×Unit
abbrev Out:Type:=(List Row)×Unit
abbrev ps:PQ:=[(.ro,(.aa aj)),(.ro,aj)]
noncomputable def D:FD:={ fn:=f122,tl:=be,ps:=ps,rs:=[((.aa aj),(av (.aa aj)))],gl:=[(152,e8.D.sig)],lv:=[(2,[0,3,5])],lx:=[(0,[0,3,5])],od:=[(5,[0,1,4,5,6,2,3,7,8])] }
noncomputable def ab (a:Arg):Option Out:=@lift Out λk=>D.W k a
noncomputable def T0 (J:Arg) (Y:Int):St:={ n:=32,sl:=[(0,.val (.aa aj) J.1),(3,.box aj (ah aj) [] J.2.1),(5,.val i64 Y)],vr:=[],aA:=[] }
noncomputable def b0 (self:Int->Option Out) (e0:Int->Option Out) (J:Arg) (Y:Int):Option Out:=bif decide (Y < (J.1.length:Int)) then (if 0<=Y then ((J.1[Y.toNat]?).bind λaT=>(e8.ab (aT,J.2.1,())).bind λbN=>bif bN.1 then (self (al (Y+(1:Int)))) else e0 Y) else none) else e0 Y
noncomputable abbrev B0 (_:Nat):=b0
noncomputable def q0 (J:Arg) (cJ:Int):Option Out:=if 0<=cJ/\cJ<=(J.1.length:Int) then (if ([]:List Row).length+((J.1.take cJ.toNat).drop 0).length<=bV then (let IL:=([]:List Row)++((J.1.take cJ.toNat).drop 0);if 0<=cJ/\cJ<=(J.1.length:Int) then (if IL.length+[J.2.1].length<=bV then (if (IL++[J.2.1]).length+((J.1.take J.1.length).drop cJ.toNat).length<=bV then (let IM:=(IL++[J.2.1])++((J.1.take J.1.length).drop cJ.toNat);some (IM,())) else none) else none) else none) else none) else none
noncomputable abbrev Q0 (_:Nat):=q0
noncomputable def s0 (k:Nat) (J:Arg):(Int)->Option Out:=λY=>D.L k [1,1,0,0,0] [0,3,5] [] (ai 0 (aG (D.N k [1,1,1]) D.K0)) (T0 J Y)
noncomputable def r0 (k:Nat) (J:Arg):(Int)->Option Out:=au (λw v=>B0 k w (Q0 k J) J v) k
theorem aO (k:Nat) (J:Arg):s0 k J=r0 k J:=
 funext λY=>aI _ _ _ (T0 J) _ (λrec v=>by kernel_rfl) k Y
noncomputable def p (l0:(Int)->Option Out) (J:Arg):Option Out:=l0 (0:Int)
theorem ae (k:Nat) (J:Arg):@Eq (Option Out) (D.W k J) (p (r0 k J) J):=
 Eq.trans (b:=p (s0 k J) J) (by kernel_rfl) (by rw[aO])
theorem ok:Ok prog 122 D.sig:=aw func122 aM (by kernel_rfl) (fc e8.ok (an _))
end cD
namespace cx
abbrev Arg:Type:=(List Row)×Change×Unit
abbrev Out:Type:=(List Row)×Bool×Unit
abbrev ps:PQ:=[(.ro,(.aa aj)),(.ro,(.ptr ay))]
noncomputable def D:FD:={ fn:=f109,tl:=be,ps:=ps,rs:=[((.aa aj),(av (.aa aj))),(.bool,(ah .bool))],gl:=[(121,bW.D.sig),(122,cD.D.sig),(137,d8.D.sig)],lv:=[(7,[0,1,8,9,10])],lx:=[(0,[1,9])],od:=[(3,[0,1,2,3,4,5,6,7,8,9,10,11,12,13,14,15,16,17,18,19,20,21])] }
noncomputable def ab (a:Arg):Option Out:=@lift Out λk=>D.W k a
noncomputable def T0 (J:Arg) (fZ:Int) (cb:(List Row)×Int):St:={ n:=70,sl:=[(0,.val (.aa aj) J.1),(1,.cp ay J.2.1),(8,.val i64 fZ),(9,.own (.aa aj) (av (.aa aj)) [] cb.1),(10,.val i64 cb.2)],vr:=[],aA:=[] }
noncomputable def b0 (self:((List Row)×Int)->Option Out) (e0:(List Row)->Option Out) (J:Arg) (fZ:Int) (cb:(List Row)×Int):Option Out:=bif decide (cb.2 < (J.1.length:Int)) then (bif !decide (cb.2=fZ) then (if 0<=cb.2 then ((J.1[cb.2.toNat]?).bind λKo=>if cb.1.length+[Ko].length<=bV then (self (cb.1++[Ko],al (cb.2+(1:Int)))) else none) else none) else self (cb.1,al (cb.2+(1:Int)))) else e0 cb.1
noncomputable abbrev B0 (_:Nat):=b0
noncomputable def q0 (J:Arg) (fZ:Int) (uX:(List Row)):Option Out:=bif J.2.1.2.2.1 then ((cD.ab (uX,J.2.1.2.2.2.1,())).bind λOj=>some (Oj.1,true,())) else some (uX,true,())
noncomputable abbrev Q0 (_:Nat):=q0
noncomputable def s0 (k:Nat) (J:Arg):Int->((List Row)×Int)->Option Out:=λfZ=>λcb=>D.L k [1,1,1,1,1,0,1,0,0] [0,1,8,9,10] [] (ai 0 (aG (D.N k [1,1,1,1,1,1]) D.K0)) (T0 J fZ cb)
noncomputable def r0 (k:Nat) (J:Arg):Int->((List Row)×Int)->Option Out:=λfZ=>au (λw v=>B0 k w (Q0 k J fZ) J fZ v) k
theorem aO (k:Nat) (J:Arg):s0 k J=r0 k J:=
 funext λfZ=>funext λcb=>aI _ _ _ (T0 J fZ) _ (λrec v=>by kernel_rfl) k cb
noncomputable def p (l0:Int->((List Row)×Int)->Option Out) (J:Arg):Option Out:=(d8.ab (J.2.1,())).bind λr2=>(bW.ab (J.1,r2.1,r2.2.1,())).bind λr3=>let yM:Option Out:=l0 r3.1 (([]:List Row),(0:Int));bif !(J.2.1.1 == (decide ((0:Int)<=r3.1))) then (some (([]:List Row),false,())) else bif decide ((0:Int)<=r3.1) then (if 0<=r3.1 then ((J.1[r3.1.toNat]?).bind λx4=>bif !(Ty.eq aj x4 J.2.1.2.1) then (some (([]:List Row),false,())) else yM) else none) else yM
theorem ae (k:Nat) (J:Arg):@Eq (Option Out) (D.W k J) (p (r0 k J) J):=
 Eq.trans (b:=p (s0 k J) J) (by kernel_rfl) (by rw[aO])
theorem ok:Ok prog 109 D.sig:=aw func109 aM (by kernel_rfl) (fc bW.ok (fc cD.ok (fc d8.ok (an _))))
end cx
namespace dF
abbrev Arg:Type:=(List Change)×Unit
abbrev Out:Type:=(List Change)×Unit
abbrev ps:PQ:=[(.ro,(.aa ay))]
noncomputable def D:FD:={ fn:=f161,tl:=be,ps:=ps,rs:=[((.aa ay),(av (.aa ay)))],lv:=[(3,[0,3,4])],lx:=[(0,[3])] }
noncomputable def ab (a:Arg):Option Out:=@lift Out λk=>D.W k a
noncomputable def T0 (J:Arg) (Y:(List Change)×Int):St:={ n:=31,sl:=[(0,.val (.aa ay) J.1),(3,.own (.aa ay) (av (.aa ay)) [] Y.1),(4,.val i64 Y.2)],vr:=[],aA:=[] }
noncomputable def b0 (self:((List Change)×Int)->Option Out) (e0:(List Change)->Option Out) (J:Arg) (Y:(List Change)×Int):Option Out:=bif decide ((0:Int)<=Y.2) then (if 0<=Y.2 then ((J.1[Y.2.toNat]?).bind λaT=>if Y.1.length+[(aT.2.2.1,aT.2.2.2.1,aT.1,aT.2.1,())].length<=bV then (let BQ:=Y.1++[(aT.2.2.1,aT.2.2.2.1,aT.1,aT.2.1,())];self (BQ,al (Y.2 - (1:Int)))) else none) else none) else e0 Y.1
noncomputable abbrev B0 (_:Nat):=b0
noncomputable def q0 (J:Arg) (cJ:(List Change)):Option Out:=some (cJ,())
noncomputable abbrev Q0 (_:Nat):=q0
noncomputable def s0 (k:Nat) (J:Arg):((List Change)×Int)->Option Out:=λY=>D.L k [1,1,0,1,0,0] [0,3,4] [] (ai 0 (aG (D.N k [1,1,1]) D.K0)) (T0 J Y)
noncomputable def r0 (k:Nat) (J:Arg):((List Change)×Int)->Option Out:=au (λw v=>B0 k w (Q0 k J) J v) k
theorem aO (k:Nat) (J:Arg):s0 k J=r0 k J:=
 funext λY=>aI _ _ _ (T0 J) _ (λrec v=>by kernel_rfl) k Y
noncomputable def p (l0:((List Change)×Int)->Option Out) (J:Arg):Option Out:=l0 (([]:List Change),al ((J.1.length:Int) - (1:Int)))
theorem ae (k:Nat) (J:Arg):@Eq (Option Out) (D.W k J) (p (r0 k J) J):=
 Eq.trans (b:=p (s0 k J) J) (by kernel_rfl) (by rw[aO])
theorem ok:Ok prog 161 D.sig:=aw func161 aM (by kernel_rfl) (an _)
end dF
namespace cK
abbrev Arg:Type:=(List Row)×(List Change)×Unit
abbrev Out:Type:=(List Row)×Bool×Unit
abbrev ps:PQ:=[(.ro,(.aa aj)),(.ro,(.aa ay))]
noncomputable def D:FD:={ fn:=f106,tl:=be,ps:=ps,rs:=[((.aa aj),(ah (.aa aj))),(.bool,(ah .bool))],gl:=[(109,cx.D.sig),(161,dF.D.sig)],lv:=[(3,[0,6,7])],lx:=[(0,[0])],lf:=[(3,[(0,(.aa false (.pair .leaf (.pair .leaf (.pair .leaf (.pair .leaf .leaf))))))])] }
noncomputable def ab (a:Arg):Option Out:=@lift Out λk=>D.W k a
noncomputable def T0 (J:Arg) (nC:List Change) (cW:(List Row)×Int):St:={ n:=30,sl:=[(0,.val (.aa aj) cW.1),(6,.own (.aa ay) (av (.aa ay)) [] nC),(7,.val i64 cW.2)],vr:=[],aA:=[] }
noncomputable def b0 (self:((List Row)×Int)->Option Out) (e0:(List Row)->Option Out) (J:Arg) (nC:List Change) (cW:(List Row)×Int):Option Out:=bif decide (cW.2 < (nC.length:Int)) then (if 0<=cW.2/\cW.2 < (nC.length:Int) then ((nC[cW.2.toNat]?).bind λjS=>(cx.ab (cW.1,jS,())).bind λij=>bif !ij.2.1 then (some (([]:List Row),false,())) else self (ij.1,al (cW.2+(1:Int)))) else none) else e0 cW.1
noncomputable abbrev B0 (_:Nat):=b0
noncomputable def q0 (J:Arg) (nC:List Change) (jT:(List Row)):Option Out:=some (jT,true,())
noncomputable abbrev Q0 (_:Nat):=q0
noncomputable def s0 (k:Nat) (J:Arg):(List Change)->((List Row)×Int)->Option Out:=λnC=>λcW=>D.L k [1,1,0,1,0,0] [0,6,7] [(0,(.aa false (.pair .leaf (.pair .leaf (.pair .leaf (.pair .leaf .leaf))))))] (ai 0 (aG (D.N k [1,1,1]) D.K0)) (T0 J nC cW)
noncomputable def r0 (k:Nat) (J:Arg):(List Change)->((List Row)×Int)->Option Out:=λnC=>au (λw v=>B0 k w (Q0 k J nC) J nC v) k
theorem aO (k:Nat) (J:Arg):s0 k J=r0 k J:=
 funext λnC=>funext λcW=>aI _ _ _ (T0 J nC) _ (λrec v=>by kernel_rfl) k cW
noncomputable def p (l0:(List Change)->((List Row)×Int)->Option Out) (J:Arg):Option Out:=(dF.ab (J.2.1,())).bind λr2=>l0 r2.1 (J.1,(0:Int))
theorem ae (k:Nat) (J:Arg):@Eq (Option Out) (D.W k J) (p (r0 k J) J):=
 Eq.trans (b:=p (s0 k J) J) (by kernel_rfl) (by rw[aO])
theorem ok:Ok prog 106 D.sig:=aw func106 aM (by kernel_rfl) (fc cx.ok (fc dF.ok (an _)))
end cK
namespace d9
abbrev Arg:Type:=(List Row)×(List Tx)×Unit
abbrev Out:Type:=(List Row)×Bool×Unit
abbrev ps:PQ:=[(.ro,(.aa aj)),(.ro,(.aa aB))]
noncomputable def D:FD:={ fn:=f100,tl:=be,ps:=ps,rs:=[((.aa aj),(ah (.aa aj))),(.bool,(ah .bool))],gl:=[(106,cK.D.sig)],lv:=[(3,[1,6,7])],lx:=[(0,[6])],lf:=[(3,[(6,(.aa false (.pair .leaf (.pair .leaf (.pair .leaf (.pair .leaf .leaf))))))])] }
noncomputable def ab (a:Arg):Option Out:=@lift Out λk=>D.W k a
noncomputable def T0 (J:Arg) (Y:(List Row)×Int):St:={ n:=33,sl:=[(1,.val (.aa aB) J.2.1),(6,.val (.aa aj) Y.1),(7,.val i64 Y.2)],vr:=[],aA:=[] }
noncomputable def b0 (self:((List Row)×Int)->Option Out) (e0:(List Row)->Option Out) (J:Arg) (Y:(List Row)×Int):Option Out:=bif decide (Y.2 < (J.2.1.length:Int)) then (if 0<=Y.2 then ((J.2.1[Y.2.toNat]?).bind λaT=>(cK.ab (Y.1,aT.2.1,())).bind λbN=>bif !bN.2.1 then (some (([]:List Row),false,())) else self (bN.1,al (Y.2+(1:Int)))) else none) else e0 Y.1
noncomputable abbrev B0 (_:Nat):=b0
noncomputable def q0 (J:Arg) (cJ:(List Row)):Option Out:=some (cJ,true,())
noncomputable abbrev Q0 (_:Nat):=q0
noncomputable def s0 (k:Nat) (J:Arg):((List Row)×Int)->Option Out:=λY=>D.L k [1,1,0,1,0,0] [1,6,7] [(6,(.aa false (.pair .leaf (.pair .leaf (.pair .leaf (.pair .leaf .leaf))))))] (ai 0 (aG (D.N k [1,1,1]) D.K0)) (T0 J Y)
noncomputable def r0 (k:Nat) (J:Arg):((List Row)×Int)->Option Out:=au (λw v=>B0 k w (Q0 k J) J v) k
theorem aO (k:Nat) (J:Arg):s0 k J=r0 k J:=
 funext λY=>aI _ _ _ (T0 J) _ (λrec v=>by kernel_rfl) k Y
noncomputable def p (l0:((List Row)×Int)->Option Out) (J:Arg):Option Out:=if ([]:List Row).length+J.1.length<=bV then (l0 (([]:List Row)++J.1,(0:Int))) else none
theorem ae (k:Nat) (J:Arg):@Eq (Option Out) (D.W k J) (p (r0 k J) J):=
 Eq.trans (b:=p (s0 k J) J) (by kernel_rfl) (by rw[aO])
theorem ok:Ok prog 100 D.sig:=aw func100 aM (by kernel_rfl) (fc cK.ok (an _))
end d9
namespace gi
abbrev Arg:Type:=Plain×Unit
abbrev Out:Type:=Int×Unit
abbrev ps:PQ:=[(.ro,(.ptr bJ))]
noncomputable def D:FD:={ fn:=f36,tl:=be,ps:=ps,rs:=[(i64,(ah i64))],gl:=[(76,bg.D.sig),(97,c_.D.sig),(98,co.D.sig),(99,aD.D.sig),(100,d9.D.sig)],od:=[(8,[0,1,2,3,4,5,6,7,8,9,10,11,12,13,14,15,16,17,18,19,20,21,22,23,24,25]),(10,[0,1,2,3,4,5,6,7,8,9,10]),(12,[0,1,2,3,4,5,6,7,8,9,10,11,12,13])],ar:=[(8,[3,13,18,22])] }
noncomputable def ab (a:Arg):Option Out:=@lift Out λk=>D.W k a
noncomputable def p (J:Arg):Option Out:=(c_.ab (J.1.1,())).bind λr2=>bif !decide (r2.1=(0:Int)) then (some (r2.1,())) else (co.ab (J.1.2.1,())).bind λr3=>bif !decide (r3.1=(0:Int)) then (some (r3.1,())) else let j8:Option Out:=(aD.ab (J.1.1,J.1.2.1,((0:Int),(0:Int),()),())).bind λr9=>bif decide ((12:Int) < r9.1) then (some ((2:Int),())) else (d9.ab (J.1.1,J.1.2.1,())).bind λkm=>bif !km.2.1 then (some ((8:Int),())) else some ((0:Int),());(bg.ab (J.1.2.2.1,(1:Int),(100:Int),())).bind λr4=>bif !r4.1 then (some ((3:Int),())) else bif decide ((0:Int) < (J.1.2.1.length:Int)) then (if 0<=al ((J.1.2.1.length:Int) - (1:Int)) then ((J.1.2.1[(al ((J.1.2.1.length:Int) - (1:Int))).toNat]?).bind λx5=>bif decide (J.1.2.2.1<=x5.1) then (some ((3:Int),())) else j8) else none) else j8
theorem ae (k:Nat) (J:Arg):@Eq (Option Out) (D.W k J) (p J):=by kernel_rfl
theorem ok:Ok prog 36 D.sig:=aw func36 aM (by kernel_rfl) (fc bg.ok (fc c_.ok (fc co.ok (fc aD.ok (fc d9.ok (an _))))))
end gi
namespace fU
abbrev Arg:Type:=Int×Unit
abbrev Out:Type:=gA×Unit
abbrev ps:PQ:=[(.ro,i64)]
noncomputable def D:FD:={ fn:=f37,tl:=be,ps:=ps,rs:=[(eB,(av eB))] }
noncomputable def ab (a:Arg):Option Out:=@lift Out λk=>D.W k a
noncomputable def p (J:Arg):Option Out:=some ((J.1,(0:Int),(([]:List Row),([]:List Tx),(0:Int),()),()),())
theorem ae (k:Nat) (J:Arg):@Eq (Option Out) (D.W k J) (p J):=by kernel_rfl
theorem ok:Ok prog 37 D.sig:=aw func37 aM (by kernel_rfl) (an _)
end fU
namespace bX
abbrev Arg:Type:=Int×Unit
abbrev Out:Type:=aK×Unit
abbrev ps:PQ:=[(.ro,i64)]
noncomputable def D:FD:={ fn:=f101,tl:=be,ps:=ps,rs:=[(bz,(ah bz))] }
noncomputable def ab (a:Arg):Option Out:=@lift Out λk=>D.W k a
noncomputable def p (J:Arg):Option Out:=some ((J.1,false,(false,((0:Int),(0:Int),(0:Int),([]:List UInt8),()),false,((0:Int),(0:Int),(0:Int),([]:List UInt8),()),()),()),())
theorem ae (k:Nat) (J:Arg):@Eq (Option Out) (D.W k J) (p J):=by kernel_rfl
theorem ok:Ok prog 101 D.sig:=aw func101 aM (by kernel_rfl) (an _)
end bX
namespace eG
abbrev Arg:Type:=Int×Unit
abbrev Out:Type:=Bool×Unit
abbrev ps:PQ:=[(.ro,i64)]
noncomputable def D:FD:={ fn:=f158,tl:=be,ps:=ps,rs:=[(.bool,(ah .bool))],gl:=[(76,bg.D.sig)] }
noncomputable def ab (a:Arg):Option Out:=@lift Out λk=>D.W k a
noncomputable def p (J:Arg):Option Out:=(bg.ab (J.1,(2:Int),(4:Int),())).bind λr2=>some (r2.1,())
theorem ae (k:Nat) (J:Arg):@Eq (Option Out) (D.W k J) (p J):=by kernel_rfl
theorem ok:Ok prog 158 D.sig:=aw func158 aM (by kernel_rfl) (fc bg.ok (an _))
end eG
namespace gK
abbrev Arg:Type:=Op×Unit
abbrev Out:Type:=Bool×Unit
abbrev ps:PQ:=[(.ro,(.ptr fm))]
noncomputable def D:FD:={ fn:=f157,tl:=be,ps:=ps,rs:=[(.bool,(ah .bool))],gl:=[(76,bg.D.sig),(158,eG.D.sig)] }
noncomputable def ab (a:Arg):Option Out:=@lift Out λk=>D.W k a
noncomputable def p (J:Arg):Option Out:=let j6:Option Out:=let j8:Option Out:=bif decide (J.1.1=(4:Int)) then (bif decide (J.1.2.2.1.2.2.1=(0:Int)) then (some (decide (J.1.2.2.1.2.2.2.1=([]:List UInt8)),())) else some (false,())) else (eG.ab (J.1.1,())).bind λr9=>bif r9.1 then (some (true,())) else some ((Ty.eq aj J.1.2.2.1 ((0:Int),(0:Int),(0:Int),([]:List UInt8),())),());bif decide (J.1.1=(1:Int)) then (bif !decide (J.1.2.1=(0:Int)) then (some (false,())) else j8) else bif decide (J.1.1=(9:Int)) then (bif !decide (J.1.2.1=(0:Int)) then (some (false,())) else j8) else j8;(bg.ab (J.1.1,(1:Int),(9:Int),())).bind λr2=>bif !r2.1 then (some (false,())) else bif !decide (J.1.1=(6:Int)) then (bif !decide (J.1.2.2.2.1=(0:Int)) then (some (false,())) else j6) else j6
theorem ae (k:Nat) (J:Arg):@Eq (Option Out) (D.W k J) (p J):=by kernel_rfl
theorem ok:Ok prog 157 D.sig:=aw func157 aM (by kernel_rfl) (fc bg.ok (fc eG.ok (an _)))
end gK
namespace jb
abbrev Arg:Type:=Op×Unit
abbrev Out:Type:=Int×Unit
abbrev ps:PQ:=[(.ro,(.ptr fm))]
noncomputable def D:FD:={ fn:=f102,tl:=be,ps:=ps,rs:=[(i64,(ah i64))],gl:=[(76,bg.D.sig),(136,cu.D.sig),(157,gK.D.sig),(158,eG.D.sig)] }
noncomputable def ab (a:Arg):Option Out:=@lift Out λk=>D.W k a
noncomputable def p (J:Arg):Option Out:=(gK.ab (J.1,())).bind λr2=>bif !r2.1 then (some ((1:Int),())) else bif !decide (J.1.1=(1:Int)) then (bif !decide (J.1.1=(9:Int)) then ((bg.ab (J.1.2.1,(1:Int),(99:Int),())).bind λr3=>bif !r3.1 then (some ((3:Int),())) else (bg.ab (J.1.2.2.2.1,(0:Int),(7:Int),())).bind λr4=>bif !r4.1 then (some ((3:Int),())) else (eG.ab (J.1.1,())).bind λr9=>bif r9.1 then ((cu.ab (J.1.2.2.1,())).bind λkm=>some (km.1,())) else some ((0:Int),())) else (bg.ab (J.1.2.2.2.1,(0:Int),(7:Int),())).bind λr5=>bif !r5.1 then (some ((3:Int),())) else (eG.ab (J.1.1,())).bind λmR=>bif mR.1 then ((cu.ab (J.1.2.2.1,())).bind λrJ=>some (rJ.1,())) else some ((0:Int),())) else (bg.ab (J.1.2.2.2.1,(0:Int),(7:Int),())).bind λr6=>bif !r6.1 then (some ((3:Int),())) else (eG.ab (J.1.1,())).bind λzC=>bif zC.1 then ((cu.ab (J.1.2.2.1,())).bind λHg=>some (Hg.1,())) else some ((0:Int),())
theorem ae (k:Nat) (J:Arg):@Eq (Option Out) (D.W k J) (p J):=by kernel_rfl
theorem ok:Ok prog 102 D.sig:=aw func102 aM (by kernel_rfl) (fc bg.ok (fc cu.ok (fc gK.ok (fc eG.ok (an _)))))
end jb
namespace dp
abbrev Arg:Type:=(List Tx)×Int×Unit
abbrev Out:Type:=Int×Unit
abbrev ps:PQ:=[(.ro,(.aa aB)),(.ro,i64)]
noncomputable def D:FD:={ fn:=f105,tl:=be,ps:=ps,rs:=[(i64,(ah i64))],lv:=[(2,[0,1,5])],lx:=[(0,[])] }
noncomputable def ab (a:Arg):Option Out:=@lift Out λk=>D.W k a
noncomputable def T0 (J:Arg) (Y:Int):St:={ n:=20,sl:=[(0,.val (.aa aB) J.1),(1,.val i64 J.2.1),(5,.val i64 Y)],vr:=[],aA:=[] }
noncomputable def b0 (self:Int->Option Out) (e0:(Unit)->Option Out) (J:Arg) (Y:Int):Option Out:=bif decide (Y < (J.1.length:Int)) then (if 0<=Y then ((J.1[Y.toNat]?).bind λaT=>bif decide (aT.1=J.2.1) then (some (Y,())) else self (al (Y+(1:Int)))) else none) else e0 ()
noncomputable abbrev B0 (_:Nat):=b0
noncomputable def q0 (J:Arg) (sH:(Unit)):Option Out:=some ((-1:Int),())
noncomputable abbrev Q0 (_:Nat):=q0
noncomputable def s0 (k:Nat) (J:Arg):(Int)->Option Out:=λY=>D.L k [1,0,1,0,0] [0,1,5] [] (ai 0 (aG (D.N k [1,1]) D.K0)) (T0 J Y)
noncomputable def r0 (k:Nat) (J:Arg):(Int)->Option Out:=au (λw v=>B0 k w (Q0 k J) J v) k
theorem aO (k:Nat) (J:Arg):s0 k J=r0 k J:=
 funext λY=>aI _ _ _ (T0 J) _ (λrec v=>by kernel_rfl) k Y
noncomputable def p (l0:(Int)->Option Out) (J:Arg):Option Out:=l0 (0:Int)
theorem ae (k:Nat) (J:Arg):@Eq (Option Out) (D.W k J) (p (r0 k J) J):=
 Eq.trans (b:=p (s0 k J) J) (by kernel_rfl) (by rw[aO])
theorem ok:Ok prog 105 D.sig:=aw func105 aM (by kernel_rfl) (an _)
end dp
namespace bP
abbrev Arg:Type:=(List Tx)×Int×Key×Unit
abbrev Out:Type:=Bool×Unit
abbrev ps:PQ:=[(.ro,(.aa aB)),(.ro,i64),(.ro,aF)]
noncomputable def D:FD:={ fn:=f199,tl:=be,ps:=ps,rs:=[(.bool,(ah .bool))],lv:=[(2,[0,1,5,7]),(6,[0,1,5,7,8])],lx:=[(0,[]),(1,[0,1,5,7]),(2,[0,1,5,7])] }
noncomputable def ab (a:Arg):Option Out:=@lift Out λk=>D.W k a
noncomputable def T0 (J:Arg) (Y:(List Tx)×Int×Key×Int):St:={ n:=68,sl:=[(0,.val (.aa aB) Y.1),(1,.val i64 Y.2.1),(5,.box aF (ah aF) [] Y.2.2.1),(7,.val i64 Y.2.2.2)],vr:=[],aA:=[] }
noncomputable def S0 (rec:RT Out) (J:Arg):((List Tx)×Int×Key×Int)->Option Out:=λY=>rec (T0 J Y)
noncomputable def cV (K:KT Out) (J:Arg):(Unit)->Option Out:=λz=>K (.exit 0) ({ n:=68,sl:=[],vr:=[],aA:=[] })
noncomputable def T1 (J:Arg) (cC:List Tx) (f5:Int) (eK:Key) (c6:Int) (e_:Int):St:={ n:=68,sl:=[(0,.val (.aa aB) cC),(1,.val i64 f5),(5,.box aF (ah aF) [] eK),(7,.val i64 c6),(8,.val i64 e_)],vr:=[],aA:=[] }
noncomputable def b1 (self:Int->Option Out) (e2:(Unit)->Option Out) (J:Arg) (cC:List Tx) (f5:Int) (eK:Key) (c6:Int) (e_:Int):Option Out:=if 0<=c6 then ((cC[c6.toNat]?).bind λnP=>bif decide (e_ < (nP.2.2.2.1.length:Int)) then (if 0<=c6 then ((cC[c6.toNat]?).bind λE2=>if 0<=e_ then ((E2.2.2.2.1[e_.toNat]?).bind λnS=>bif (Ty.eq aF nS eK) then (some (true,())) else bif decide (nS.1=(0:Int)) then (bif decide (nS.2.1=eK.1) then (some (true,())) else bif decide (eK.1=(0:Int)) then (bif decide (nS.1=eK.2.1) then (some (true,())) else self (al (e_+(1:Int)))) else self (al (e_+(1:Int)))) else bif decide (eK.1=(0:Int)) then (bif decide (nS.1=eK.2.1) then (some (true,())) else self (al (e_+(1:Int)))) else self (al (e_+(1:Int)))) else none) else none) else e2 ()) else none
noncomputable abbrev B1 (_:Nat):=b1
noncomputable def q0 (self:((List Tx)×Int×Key×Int)->Option Out) (e0:(Unit)->Option Out) (J:Arg) (cC:List Tx) (f5:Int) (eK:Key) (c6:Int) (xD:(Unit)):Option Out:=self (cC,f5,eK,al (c6+(1:Int)))
noncomputable abbrev Q0 (_:Nat):=q0
noncomputable def s1 (k:Nat) (rec:RT Out) (K:KT Out) (J:Arg):(List Tx)->Int->Key->Int->(Int)->Option Out:=λcC f5 eK c6=>λe_=>D.L k [1,0,1,0,0,1,0,0,1,1,0,0] [0,1,5,7,8] [] (ai 2 (ai 1 (aG (D.N k [1,0,1,0,0,1,1]) (fw rec (dz [0,1,5,7] []) K)))) (T1 J cC f5 eK c6 e_)
noncomputable def r1 (k:Nat) (self:((List Tx)×Int×Key×Int)->Option Out) (e0:(Unit)->Option Out) (J:Arg):(List Tx)->Int->Key->Int->(Int)->Option Out:=λcC f5 eK c6=>au (λw v=>B1 k w (Q0 k self e0 J cC f5 eK c6) J cC f5 eK c6 v) k
theorem ja (k:Nat) (rec:RT Out) (K:KT Out) (J:Arg):s1 k rec K J=r1 k (S0 rec J) (cV K J) J:=
 funext λcC=>funext λf5=>funext λeK=>funext λc6=>funext λe_=>aI _ _ _ (T1 J cC f5 eK c6) _ (λrec v=>by kernel_rfl) k e_
noncomputable def b0 (self:((List Tx)×Int×Key×Int)->Option Out) (e0:(Unit)->Option Out) (l1:(List Tx)->Int->Key->Int->(Int)->Option Out) (J:Arg) (Y:(List Tx)×Int×Key×Int):Option Out:=bif decide (Y.2.2.2 < (Y.1.length:Int)) then (if 0<=Y.2.2.2 then ((Y.1[Y.2.2.2.toNat]?).bind λaT=>bif decide (aT.1=Y.2.1) then (self (Y.1,Y.2.1,Y.2.2.1,al (Y.2.2.2+(1:Int)))) else l1 Y.1 Y.2.1 Y.2.2.1 Y.2.2.2 (0:Int)) else none) else e0 ()
noncomputable def B0 (k:Nat) (self:((List Tx)×Int×Key×Int)->Option Out) (e0:(Unit)->Option Out) (J:Arg) (Y:(List Tx)×Int×Key×Int):Option Out:=b0 self e0 (r1 k self e0 J) J Y
theorem i_ (k:Nat) (rec:RT Out) (K:KT Out) (J:Arg) (Y:(List Tx)×Int×Key×Int):D.N k [1,0,1,0,0] (T0 J Y) (fw rec (dz [0,1,5,7] []) K)=B0 k (S0 rec J) (cV K J) J Y:=
 Eq.trans (b:=b0 (S0 rec J) (cV K J) (s1 k rec K J) J Y) (by kernel_rfl) (by rw[ja];rfl)
noncomputable def q1 (J:Arg) (uX:(Unit)):Option Out:=some (false,())
noncomputable abbrev Q1 (_:Nat):=q1
theorem o_ (k:Nat) (J:Arg) (uX:(Unit)):cV (ai 0 (aG (D.N k [1,1]) D.K0)) J uX=q1 J uX:=by kernel_rfl
noncomputable def s0 (k:Nat) (J:Arg):((List Tx)×Int×Key×Int)->Option Out:=λY=>D.L k [1,0,1,0,0] [0,1,5,7] [] (ai 0 (aG (D.N k [1,1]) D.K0)) (T0 J Y)
noncomputable def r0 (k:Nat) (J:Arg):((List Tx)×Int×Key×Int)->Option Out:=au (λw v=>B0 k w (Q1 k J) J v) k
theorem aO (k:Nat) (J:Arg):s0 k J=r0 k J:=by
 funext Y;
 have h0:cV (ai 0 (aG (D.N k [1,1]) D.K0)) J=Q1 k J:=funext λz=>o_ k J z
 refine (aI _ _ _ (T0 J) (λself v=>B0 k self (cV (ai 0 (aG (D.N k [1,1]) D.K0)) J) J v) (λrec v=>i_ k rec (ai 0 (aG (D.N k [1,1]) D.K0)) J v) k Y).trans ?_
 rw[h0]
 rfl
noncomputable def p (l0:((List Tx)×Int×Key×Int)->Option Out) (J:Arg):Option Out:=l0 (J.1,J.2.1,J.2.2.1,(0:Int))
theorem ae (k:Nat) (J:Arg):@Eq (Option Out) (D.W k J) (p (r0 k J) J):=
 Eq.trans (b:=p (s0 k J) J) (by kernel_rfl) (by rw[aO])
theorem ok:Ok prog 199 D.sig:=aw func199 aM (by kernel_rfl) (an _)
end bP
namespace fK
abbrev Arg:Type:=(List Row)×Op×Unit
abbrev Out:Type:=Change×Int×Unit
abbrev ps:PQ:=[(.ro,(.aa aj)),(.ro,(.ptr fm))]
noncomputable def D:FD:={ fn:=f200,tl:=be,ps:=ps,rs:=[(ay,(ah ay)),(i64,(ah i64))],gl:=[(121,bW.D.sig)],od:=[(1,[0,1,2,3,4,5,6,7,8,9,10,11,12])] }
noncomputable def ab (a:Arg):Option Out:=@lift Out λk=>D.W k a
noncomputable def p (J:Arg):Option Out:=(bW.ab (J.1,J.2.1.2.2.1.1,J.2.1.2.2.1.2.1,())).bind λr2=>let j5:Option Out:=let j7:Option Out:=let Pg:=λ(p9:Change)=>(bif p9.2.2.1 then (some ((p9.1,p9.2.1,p9.2.2.1,J.2.1.2.2.1,p9.2.2.2.2),(0:Int),())) else some (p9,(0:Int),()):Option Out);bif decide ((0:Int)<=r2.1) then (if 0<=r2.1 then ((J.1[r2.1.toNat]?).bind λx8=>Pg (decide ((0:Int)<=r2.1),x8,!decide (J.2.1.1=(4:Int)),((0:Int),(0:Int),(0:Int),([]:List UInt8),()),())) else none) else Pg (decide ((0:Int)<=r2.1),((0:Int),(0:Int),(0:Int),([]:List UInt8),()),!decide (J.2.1.1=(4:Int)),((0:Int),(0:Int),(0:Int),([]:List UInt8),()),());bif !decide (J.2.1.1=(2:Int)) then (bif decide (r2.1 < (0:Int)) then (some ((false,((0:Int),(0:Int),(0:Int),([]:List UInt8),()),false,((0:Int),(0:Int),(0:Int),([]:List UInt8),()),()),(4:Int),())) else j7) else j7;bif decide (J.2.1.1=(2:Int)) then (bif decide ((0:Int)<=r2.1) then (some ((false,((0:Int),(0:Int),(0:Int),([]:List UInt8),()),false,((0:Int),(0:Int),(0:Int),([]:List UInt8),()),()),(6:Int),())) else j5) else j5
theorem ae (k:Nat) (J:Arg):@Eq (Option Out) (D.W k J) (p J):=by kernel_rfl
theorem ok:Ok prog 200 D.sig:=aw func200 aM (by kernel_rfl) (fc bW.ok (an _))
end fK
namespace db
abbrev Arg:Type:=(List Row)×Change×Unit
abbrev Out:Type:=Int×Unit
abbrev ps:PQ:=[(.ro,(.aa aj)),(.ro,(.ptr ay))]
noncomputable def D:FD:={ fn:=f225,tl:=be,ps:=ps,rs:=[(i64,(ah i64))],gl:=[(76,bg.D.sig),(137,d8.D.sig)],lv:=[(5,[0,1,6,7])],lx:=[(0,[])],od:=[(7,[0,1,2,3,4,5,6,7,8,9,10,11,12,13,14,15,16,17,18,19,20,21,22,23,24,25,26,27,28,29,30,31,32,33,34,35])] }
noncomputable def ab (a:Arg):Option Out:=@lift Out λk=>D.W k a
noncomputable def T0 (J:Arg) (c6:Int) (c9:Int):St:={ n:=80,sl:=[(0,.val (.aa aj) J.1),(1,.cp ay J.2.1),(6,.val i64 c6),(7,.val i64 c9)],vr:=[],aA:=[] }
noncomputable def b0 (self:Int->Option Out) (e0:(Unit)->Option Out) (J:Arg) (c6:Int) (c9:Int):Option Out:=bif decide (c9 < (J.1.length:Int)) then (if 0<=c9 then ((J.1[c9.toNat]?).bind λnP=>bif decide (nP.1=c6) then (if 0<=c9 then ((J.1[c9.toNat]?).bind λE2=>bif !decide (E2.1=(0:Int)) then (bif !J.2.1.2.2.1 then (some ((8:Int),())) else if 0<=c9 then ((J.1[c9.toNat]?).bind λnS=>bif decide (J.2.1.2.2.2.1.2.2.1 < (nS.2.2.2.1.length:Int)) then (some ((8:Int),())) else self (al (c9+(1:Int)))) else none) else self (al (c9+(1:Int)))) else none) else self (al (c9+(1:Int)))) else none) else e0 ()
noncomputable abbrev B0 (_:Nat):=b0
noncomputable def q0 (J:Arg) (c6:Int) (xD:(Unit)):Option Out:=some ((0:Int),())
noncomputable abbrev Q0 (_:Nat):=q0
noncomputable def s0 (k:Nat) (J:Arg):Int->(Int)->Option Out:=λc6=>λc9=>D.L k [1,1,1,0,1,0,0] [0,1,6,7] [] (ai 0 (aG (D.N k [1,1,1,1]) D.K0)) (T0 J c6 c9)
noncomputable def r0 (k:Nat) (J:Arg):Int->(Int)->Option Out:=λc6=>au (λw v=>B0 k w (Q0 k J c6) J c6 v) k
theorem aO (k:Nat) (J:Arg):s0 k J=r0 k J:=
 funext λc6=>funext λc9=>aI _ _ _ (T0 J c6) _ (λrec v=>by kernel_rfl) k c9
noncomputable def p (l0:Int->(Int)->Option Out) (J:Arg):Option Out:=(d8.ab (J.2.1,())).bind λr2=>let ML:Option Out:=l0 r2.2.1 (0:Int);bif J.2.1.2.2.1 then ((bg.ab (r2.2.1,(1:Int),(3:Int),())).bind λr3=>bif !r3.1 then (some ((10:Int),())) else bif decide ((8:Int) < J.2.1.2.2.2.1.2.2.1) then (some ((10:Int),())) else bif !decide (J.2.1.2.2.2.1.2.2.2.1=([]:List UInt8)) then (some ((10:Int),())) else ML) else ML
theorem ae (k:Nat) (J:Arg):@Eq (Option Out) (D.W k J) (p (r0 k J) J):=
 Eq.trans (b:=p (s0 k J) J) (by kernel_rfl) (by rw[aO])
theorem ok:Ok prog 225 D.sig:=aw func225 aM (by kernel_rfl) (fc bg.ok (fc d8.ok (an _)))
end db
namespace gw
abbrev Arg:Type:=(List Row)×Int×Unit
abbrev Out:Type:=Int×Unit
abbrev ps:PQ:=[(.ro,(.aa aj)),(.ro,i64)]
noncomputable def D:FD:={ fn:=f226,tl:=be,ps:=ps,rs:=[(i64,(ah i64))],gl:=[(121,bW.D.sig)] }
noncomputable def ab (a:Arg):Option Out:=@lift Out λk=>D.W k a
noncomputable def p (J:Arg):Option Out:=(bW.ab (J.1,(0:Int),J.2.1,())).bind λr2=>bif decide (r2.1 < (0:Int)) then (some ((-1:Int),())) else if 0<=r2.1 then ((J.1[r2.1.toNat]?).bind λx3=>some (x3.2.2.1,())) else none
theorem ae (k:Nat) (J:Arg):@Eq (Option Out) (D.W k J) (p J):=by kernel_rfl
theorem ok:Ok prog 226 D.sig:=aw func226 aM (by kernel_rfl) (fc bW.ok (an _))
end gw
namespace jc
abbrev Arg:Type:=(List Row)×Change×Unit
abbrev Out:Type:=Int×Unit
abbrev ps:PQ:=[(.ro,(.aa aj)),(.ro,(.ptr ay))]
noncomputable def D:FD:={ fn:=f201,tl:=be,ps:=ps,rs:=[(i64,(ah i64))],gl:=[(137,d8.D.sig),(225,db.D.sig),(226,gw.D.sig)] }
noncomputable def ab (a:Arg):Option Out:=@lift Out λk=>D.W k a
noncomputable def p (J:Arg):Option Out:=(d8.ab (J.2.1,())).bind λr2=>bif decide (r2.1=(0:Int)) then ((db.ab (J.1,J.2.1,())).bind λr3=>some (r3.1,())) else bif !J.2.1.2.2.1 then (some ((0:Int),())) else (gw.ab (J.1,r2.1,())).bind λr4=>bif decide (r4.1 < (0:Int)) then (some ((4:Int),())) else bif decide (r4.1 < (J.2.1.2.2.2.1.2.2.2.1.length:Int)) then (some ((10:Int),())) else some ((0:Int),())
theorem ae (k:Nat) (J:Arg):@Eq (Option Out) (D.W k J) (p J):=by kernel_rfl
theorem ok:Ok prog 201 D.sig:=aw func201 aM (by kernel_rfl) (fc d8.ok (fc db.ok (fc gw.ok (an _))))
end jc
namespace et
abbrev Arg:Type:=(List Row)×(List Tx)×Op×Unit
abbrev Out:Type:=aK×Unit
abbrev ps:PQ:=[(.ro,(.aa aj)),(.ro,(.aa aB)),(.ro,(.ptr fm))]
noncomputable def D:FD:={ fn:=f159,tl:=be,ps:=ps,rs:=[(bz,(ah bz))],gl:=[(99,aD.D.sig),(101,bX.D.sig),(156,cQ.D.sig),(199,bP.D.sig),(200,fK.D.sig),(201,jc.D.sig)],od:=[(1,[0,1,2,3,4,5,6,7,8,9,10,11,12]),(2,[0,1,2,3,4,5,6])] }
noncomputable def ab (a:Arg):Option Out:=@lift Out λk=>D.W k a
noncomputable def p (J:Arg):Option Out:=(bP.ab (J.2.1,J.2.2.1.2.1,(J.2.2.1.2.2.1.1,J.2.2.1.2.2.1.2.1,()),())).bind λr2=>bif r2.1 then ((bX.ab ((7:Int),())).bind λr3=>some (r3.1,())) else (fK.ab (J.1,J.2.2.1,())).bind λr4=>bif !decide (r4.2.1=(0:Int)) then ((bX.ab (r4.2.1,())).bind λr5=>some (r5.1,())) else (jc.ab (J.1,r4.1,())).bind λr6=>bif !decide (r6.1=(0:Int)) then ((bX.ab (r6.1,())).bind λr7=>some (r7.1,())) else (aD.ab (J.1,J.2.1,(J.2.2.1.2.2.1.1,J.2.2.1.2.2.1.2.1,()),())).bind λr8=>bif decide ((12:Int) < r8.1) then ((bX.ab ((9:Int),())).bind λkm=>some (km.1,())) else (cQ.ab (J.2.1,())).bind λr9=>bif decide ((12:Int)<=r9.1) then ((bX.ab ((9:Int),())).bind λmR=>some (mR.1,())) else bif r4.1.1 then (bif r4.1.2.2.1 then (bif (Ty.eq aj r4.1.2.1 r4.1.2.2.2.1) then (some (((0:Int),false,(false,((0:Int),(0:Int),(0:Int),([]:List UInt8),()),false,((0:Int),(0:Int),(0:Int),([]:List UInt8),()),()),()),())) else some (((0:Int),true,r4.1,()),())) else some (((0:Int),true,r4.1,()),())) else some (((0:Int),true,r4.1,()),())
theorem ae (k:Nat) (J:Arg):@Eq (Option Out) (D.W k J) (p J):=by kernel_rfl
theorem ok:Ok prog 159 D.sig:=aw func159 aM (by kernel_rfl) (fc aD.ok (fc bX.ok (fc cQ.ok (fc bP.ok (fc fK.ok (fc jc.ok (an _)))))))
end et
namespace eE
abbrev Arg:Type:=(List Row)×(List Tx)×Op×Unit
abbrev Out:Type:=aK×Unit
abbrev ps:PQ:=[(.ro,(.aa aj)),(.ro,(.aa aB)),(.ro,(.ptr fm))]
noncomputable def D:FD:={ fn:=f103,tl:=be,ps:=ps,rs:=[(bz,(ah bz))],gl:=[(101,bX.D.sig),(105,dp.D.sig),(159,et.D.sig)],od:=[(17,[0,1,2,3,4,5,6,7,8,9,10])] }
noncomputable def ab (a:Arg):Option Out:=@lift Out λk=>D.W k a
noncomputable def p (J:Arg):Option Out:=bif decide (J.2.2.1.1=(1:Int)) then (bif decide ((4:Int)<=(J.2.1.length:Int)) then ((bX.ab ((2:Int),())).bind λr2=>some (r2.1,())) else some (((0:Int),false,(false,((0:Int),(0:Int),(0:Int),([]:List UInt8),()),false,((0:Int),(0:Int),(0:Int),([]:List UInt8),()),()),()),())) else bif decide (J.2.2.1.1=(9:Int)) then (some (((0:Int),false,(false,((0:Int),(0:Int),(0:Int),([]:List UInt8),()),false,((0:Int),(0:Int),(0:Int),([]:List UInt8),()),()),()),())) else (dp.ab (J.2.1,J.2.2.1.2.1,())).bind λr3=>bif decide (r3.1 < (0:Int)) then ((bX.ab ((4:Int),())).bind λr4=>some (r4.1,())) else bif decide (J.2.2.1.1=(5:Int)) then (if 0<=r3.1 then ((J.2.1[r3.1.toNat]?).bind λx5=>bif decide ((8:Int)<=(x5.2.2.1.length:Int)) then ((bX.ab ((2:Int),())).bind λr6=>some (r6.1,())) else some (((0:Int),false,(false,((0:Int),(0:Int),(0:Int),([]:List UInt8),()),false,((0:Int),(0:Int),(0:Int),([]:List UInt8),()),()),()),())) else none) else bif decide (J.2.2.1.1=(6:Int)) then (if 0<=r3.1 then ((J.2.1[r3.1.toNat]?).bind λx7=>bif decide ((x7.2.2.1.length:Int)<=J.2.2.1.2.2.2.1) then ((bX.ab ((3:Int),())).bind λr8=>some (r8.1,())) else some (((0:Int),false,(false,((0:Int),(0:Int),(0:Int),([]:List UInt8),()),false,((0:Int),(0:Int),(0:Int),([]:List UInt8),()),()),()),())) else none) else bif decide (J.2.2.1.1=(7:Int)) then (bif decide (J.2.2.1.1=(7:Int)) then (some (((0:Int),false,(false,((0:Int),(0:Int),(0:Int),([]:List UInt8),()),false,((0:Int),(0:Int),(0:Int),([]:List UInt8),()),()),()),())) else (et.ab (J.1,J.2.1,J.2.2.1,())).bind λkm=>some (km.1,())) else bif decide (J.2.2.1.1=(8:Int)) then (some (((0:Int),false,(false,((0:Int),(0:Int),(0:Int),([]:List UInt8),()),false,((0:Int),(0:Int),(0:Int),([]:List UInt8),()),()),()),())) else (et.ab (J.1,J.2.1,J.2.2.1,())).bind λmR=>some (mR.1,())
theorem ae (k:Nat) (J:Arg):@Eq (Option Out) (D.W k J) (p J):=by kernel_rfl
theorem ok:Ok prog 103 D.sig:=aw func103 aM (by kernel_rfl) (fc bX.ok (fc dp.ok (fc et.ok (an _))))
end eE
namespace gL
abbrev Arg:Type:=(List Row)×(List Tx)×Op×Unit
abbrev Out:Type:=aK×Unit
abbrev ps:PQ:=[(.ro,(.aa aj)),(.ro,(.aa aB)),(.ro,fm)]
noncomputable def D:FD:={ fn:=f38,tl:=be,ps:=ps,rs:=[(bz,(ah bz))],gl:=[(97,c_.D.sig),(98,co.D.sig),(101,bX.D.sig),(102,jb.D.sig),(103,eE.D.sig)] }
noncomputable def ab (a:Arg):Option Out:=@lift Out λk=>D.W k a
noncomputable def p (J:Arg):Option Out:=(c_.ab (J.1,())).bind λr2=>bif !decide (r2.1=(0:Int)) then ((bX.ab (r2.1,())).bind λr3=>some (r3.1,())) else (co.ab (J.2.1,())).bind λr4=>bif !decide (r4.1=(0:Int)) then ((bX.ab (r4.1,())).bind λr5=>some (r5.1,())) else (jb.ab (J.2.2.1,())).bind λr6=>bif !decide (r6.1=(0:Int)) then ((bX.ab (r6.1,())).bind λr7=>some (r7.1,())) else (eE.ab (J.1,J.2.1,J.2.2.1,())).bind λr8=>some (r8.1,())
theorem ae (k:Nat) (J:Arg):@Eq (Option Out) (D.W k J) (p J):=by kernel_rfl
theorem ok:Ok prog 38 D.sig:=aw func38 aM (by kernel_rfl) (fc c_.ok (fc co.ok (fc bX.ok (fc jb.ok (fc eE.ok (an _))))))
end gL
namespace f_
abbrev Arg:Type:=Tx×Unit
abbrev Out:Type:=Tx×Unit
abbrev ps:PQ:=[(.ro,aB)]
noncomputable def D:FD:={ fn:=f202,tl:=be,ps:=ps,rs:=[(aB,(av aB))],od:=[(1,[0,1,3,4,7,8,11,12,2,5,6,9,10,13,14,15])],ar:=[(1,[1,4,8,12])],bx:=[(1,[1])],pd:=[(1,[2,6,10])] }
noncomputable def ab (a:Arg):Option Out:=@lift Out λk=>D.W k a
noncomputable def p (J:Arg):Option Out:=if ([]:List Change).length+J.1.2.1.length<=bV then (if ([]:List Int).length+J.1.2.2.1.length<=bV then (if ([]:List Key).length+J.1.2.2.2.1.length<=bV then (some ((J.1.1,([]:List Change)++J.1.2.1,([]:List Int)++J.1.2.2.1,([]:List Key)++J.1.2.2.2.1,()),())) else none) else none) else none
theorem ae (k:Nat) (J:Arg):@Eq (Option Out) (D.W k J) (p J):=by kernel_rfl
theorem ok:Ok prog 202 D.sig:=aw func202 aM (by kernel_rfl) (an _)
end f_
namespace dG
abbrev Arg:Type:=(List Tx)×Unit
abbrev Out:Type:=(List Tx)×Unit
abbrev ps:PQ:=[(.ro,(.aa aB))]
noncomputable def D:FD:={ fn:=f160,tl:=be,ps:=ps,rs:=[((.aa aB),(av (.aa aB)))],gl:=[(202,f_.D.sig)],lv:=[(3,[0,3,4])],lx:=[(0,[3])] }
noncomputable def ab (a:Arg):Option Out:=@lift Out λk=>D.W k a
noncomputable def T0 (J:Arg) (Y:(List Tx)×Int):St:={ n:=21,sl:=[(0,.val (.aa aB) J.1),(3,.own (.aa aB) (av (.aa aB)) [] Y.1),(4,.val i64 Y.2)],vr:=[],aA:=[] }
noncomputable def b0 (self:((List Tx)×Int)->Option Out) (e0:(List Tx)->Option Out) (J:Arg) (Y:(List Tx)×Int):Option Out:=bif decide (Y.2 < (J.1.length:Int)) then (if 0<=Y.2 then ((J.1[Y.2.toNat]?).bind λaT=>(f_.ab (aT,())).bind λbN=>if Y.1.length+[bN.1].length<=bV then (self (Y.1++[bN.1],al (Y.2+(1:Int)))) else none) else none) else e0 Y.1
noncomputable abbrev B0 (_:Nat):=b0
noncomputable def q0 (J:Arg) (cJ:(List Tx)):Option Out:=some (cJ,())
noncomputable abbrev Q0 (_:Nat):=q0
noncomputable def s0 (k:Nat) (J:Arg):((List Tx)×Int)->Option Out:=λY=>D.L k [1,1,0,1,0,0] [0,3,4] [] (ai 0 (aG (D.N k [1,1,1]) D.K0)) (T0 J Y)
noncomputable def r0 (k:Nat) (J:Arg):((List Tx)×Int)->Option Out:=au (λw v=>B0 k w (Q0 k J) J v) k
theorem aO (k:Nat) (J:Arg):s0 k J=r0 k J:=
 funext λY=>aI _ _ _ (T0 J) _ (λrec v=>by kernel_rfl) k Y
noncomputable def p (l0:((List Tx)×Int)->Option Out) (J:Arg):Option Out:=l0 (([]:List Tx),(0:Int))
theorem ae (k:Nat) (J:Arg):@Eq (Option Out) (D.W k J) (p (r0 k J) J):=
 Eq.trans (b:=p (s0 k J) J) (by kernel_rfl) (by rw[aO])
theorem ok:Ok prog 160 D.sig:=aw func160 aM (by kernel_rfl) (fc f_.ok (an _))
end dG
namespace iC
abbrev Arg:Type:=Plain×Unit
abbrev Out:Type:=Plain×Unit
abbrev ps:PQ:=[(.ro,bJ)]
noncomputable def D:FD:={ fn:=f104,tl:=be,ps:=ps,rs:=[(bJ,(av bJ))],gl:=[(160,dG.D.sig)],od:=[(1,[1,2,4,5,7,8,0,3,6,9,10])],ar:=[(1,[2,5,8])],bx:=[(1,[1])] }
noncomputable def ab (a:Arg):Option Out:=@lift Out λk=>D.W k a
noncomputable def p (J:Arg):Option Out:=if ([]:List Row).length+J.1.1.length<=bV then ((dG.ab (J.1.2.1,())).bind λr2=>some ((([]:List Row)++J.1.1,r2.1,J.1.2.2.1,()),())) else none
theorem ae (k:Nat) (J:Arg):@Eq (Option Out) (D.W k J) (p J):=by kernel_rfl
theorem ok:Ok prog 104 D.sig:=aw func104 aM (by kernel_rfl) (fc dG.ok (an _))
end iC
namespace jm
abbrev Arg:Type:=Tx×Int×Unit
abbrev Out:Type:=(List Change)×Tx×Unit
abbrev ps:PQ:=[(.dt (ah aB) (ah aB),aB),(.ro,i64)]
noncomputable def D:FD:={ fn:=f107,tl:=be,ps:=ps,rs:=[((.aa ay),(av (.aa ay)))],es:=[0] }
noncomputable def ab (a:Arg):Option Out:=@lift Out λk=>D.W k a
noncomputable def p (J:Arg):Option Out:=if 0<=J.2.1 then ((J.1.2.2.1[J.2.1.toNat]?).bind λx2=>if 0<=x2/\x2<=(J.1.2.1.length:Int) then (if ([]:List Change).length+((J.1.2.1.take J.1.2.1.length).drop x2.toNat).length<=bV then (let y3:=([]:List Change)++((J.1.2.1.take J.1.2.1.length).drop x2.toNat);if 0<=x2/\x2<=(J.1.2.1.length:Int) then (if 0<=al (J.2.1+(1:Int))/\al (J.2.1+(1:Int))<=(J.1.2.2.1.length:Int) then (let y4:=(J.1.2.2.1.take (al (J.2.1+(1:Int))).toNat).drop 0;some (y3,(J.1.1,(J.1.2.1.take x2.toNat).drop 0,y4,J.1.2.2.2),())) else none) else none) else none) else none) else none
theorem ae (k:Nat) (J:Arg):@Eq (Option Out) (D.W k J) (p J):=by kernel_rfl
theorem ok:Ok prog 107 D.sig:=aw func107 aM (by kernel_rfl) (an _)
end jm
namespace eV
abbrev Arg:Type:=(List Tx)×Int×Unit
abbrev Out:Type:=(List Tx)×Unit
abbrev ps:PQ:=[(.ro,(.aa aB)),(.ro,i64)]
noncomputable def D:FD:={ fn:=f108,tl:=be,ps:=ps,rs:=[((.aa aB),(.aa true (ah aB)))],lv:=[(3,[0,1,5,6])],lx:=[(0,[5])],lf:=[(3,[(5,(.aa true (.pair .leaf (.pair (.aa false (.pair .leaf (.pair (.pair .leaf (.pair .leaf (.pair .leaf (.pair .leaf .leaf)))) (.pair .leaf (.pair (.pair .leaf (.pair .leaf (.pair .leaf (.pair .leaf .leaf)))) .leaf))))) (.pair (.aa false .leaf) (.pair (.aa false (.pair .leaf (.pair .leaf .leaf))) .leaf))))))])] }
noncomputable def ab (a:Arg):Option Out:=@lift Out λk=>D.W k a
noncomputable def T0 (J:Arg) (Y:(List Tx)×Int):St:={ n:=25,sl:=[(0,.val (.aa aB) J.1),(1,.val i64 J.2.1),(5,.own (.aa aB) (.aa true (ah aB)) [] Y.1),(6,.val i64 Y.2)],vr:=[],aA:=[] }
noncomputable def b0 (self:((List Tx)×Int)->Option Out) (e0:(List Tx)->Option Out) (J:Arg) (Y:(List Tx)×Int):Option Out:=bif decide (Y.2 < (J.1.length:Int)) then (bif !decide (Y.2=J.2.1) then (if 0<=Y.2 then ((J.1[Y.2.toNat]?).bind λaT=>if Y.1.length+[aT].length<=bV then (self (Y.1++[aT],al (Y.2+(1:Int)))) else none) else none) else self (Y.1,al (Y.2+(1:Int)))) else e0 Y.1
noncomputable abbrev B0 (_:Nat):=b0
noncomputable def q0 (J:Arg) (sH:(List Tx)):Option Out:=some (sH,())
noncomputable abbrev Q0 (_:Nat):=q0
noncomputable def s0 (k:Nat) (J:Arg):((List Tx)×Int)->Option Out:=λY=>D.L k [1,1,0,1,0,0] [0,1,5,6] [(5,(.aa true (.pair .leaf (.pair (.aa false (.pair .leaf (.pair (.pair .leaf (.pair .leaf (.pair .leaf (.pair .leaf .leaf)))) (.pair .leaf (.pair (.pair .leaf (.pair .leaf (.pair .leaf (.pair .leaf .leaf)))) .leaf))))) (.pair (.aa false .leaf) (.pair (.aa false (.pair .leaf (.pair .leaf .leaf))) .leaf))))))] (ai 0 (aG (D.N k [1,1,1]) D.K0)) (T0 J Y)
noncomputable def r0 (k:Nat) (J:Arg):((List Tx)×Int)->Option Out:=au (λw v=>B0 k w (Q0 k J) J v) k
theorem aO (k:Nat) (J:Arg):s0 k J=r0 k J:=
 funext λY=>aI _ _ _ (T0 J) _ (λrec v=>by kernel_rfl) k Y
noncomputable def p (l0:((List Tx)×Int)->Option Out) (J:Arg):Option Out:=l0 (([]:List Tx),(0:Int))
theorem ae (k:Nat) (J:Arg):@Eq (Option Out) (D.W k J) (p (r0 k J) J):=
 Eq.trans (b:=p (s0 k J) J) (by kernel_rfl) (by rw[aO])
theorem ok:Ok prog 108 D.sig:=aw func108 aM (by kernel_rfl) (an _)
end eV
namespace cX
abbrev Arg:Type:=(List Tx)×Int×Change×Unit
abbrev Out:Type:=(List Tx)×Unit
abbrev ps:PQ:=[(.ro,(.aa aB)),(.ro,i64),(.ro,ay)]
noncomputable def D:FD:={ fn:=f110,tl:=be,ps:=ps,rs:=[((.aa aB),(av (.aa aB)))],gl:=[(160,dG.D.sig),(162,eC.D.sig),(163,cn.D.sig)],od:=[(3,[0,1,2,3,4,5,6,7,8,9,10]),(6,[0,1,2,3,4,5,6,7,8,9,10])] }
noncomputable def ab (a:Arg):Option Out:=@lift Out λk=>D.W k a
noncomputable def p (J:Arg):Option Out:=(dG.ab (J.1,())).bind λr2=>if 0<=J.2.1/\J.2.1 < (r2.1.length:Int) then ((r2.1[J.2.1.toNat]?).bind λx3=>(r2.1[J.2.1.toNat]?).bind λx4=>(r2.1[J.2.1.toNat]?).bind λx5=>if x4.2.1.length+[J.2.2.1].length<=bV then (if J.2.1.toNat=J.2.1.toNat then ((r2.1.set J.2.1.toNat x5)[J.2.1.toNat]?).bind λx6=>let y7:=(r2.1.set J.2.1.toNat x5).set J.2.1.toNat (x6.1,x4.2.1++[J.2.2.1],x6.2.2);(eC.ab (J.2.2.1,())).bind λr8=>(y7[J.2.1.toNat]?).bind λx9=>(cn.ab (x9,r8.1,())).bind λkm=>bif !km.1 then ((y7[J.2.1.toNat]?).bind λzD=>(y7[J.2.1.toNat]?).bind λvx=>(y7[J.2.1.toNat]?).bind λud=>if vx.2.2.2.1.length+[r8.1].length<=bV then (if J.2.1.toNat=J.2.1.toNat then ((y7.set J.2.1.toNat ud)[J.2.1.toNat]?).bind λxE=>let RV:=(y7.set J.2.1.toNat ud).set J.2.1.toNat (xE.1,xE.2.1,xE.2.2.1,vx.2.2.2.1++[r8.1],xE.2.2.2.2);some (RV,()) else none) else none) else some (y7,()) else none) else none) else none
theorem ae (k:Nat) (J:Arg):@Eq (Option Out) (D.W k J) (p J):=by kernel_rfl
theorem ok:Ok prog 110 D.sig:=aw func110 aM (by kernel_rfl) (fc dG.ok (fc eC.ok (fc cn.ok (an _))))
end cX
namespace cE
abbrev Arg:Type:=Plain×Op×aK×Unit
abbrev Out:Type:=gA×Unit
abbrev ps:PQ:=[(.ro,bJ),(.ro,(.ptr fm)),(.ro,(.ptr bz))]
noncomputable def D:FD:={ fn:=f39,tl:=be,ps:=ps,rs:=[(eB,(.pair (ah i64) (.pair (ah i64) (.pair (.pair (ah (.aa aj)) (.pair (.aa true (ah aB)) (ah (ba [i64])))) (ah .unit)))))],gl:=[(37,fU.D.sig),(104,iC.D.sig),(105,dp.D.sig),(106,cK.D.sig),(107,jm.D.sig),(108,eV.D.sig),(109,cx.D.sig),(110,cX.D.sig)],od:=[(3,[0,1,2,3,4,5,6,7,8,9]),(8,[0,1,2,3,4,5,6,7,8,9,10,11,12]),(13,[0,1,2,3,4,5,6,7,8,9,10,11,12,13,14,15,16,17,18,19,20,21,22,23,24,25,26]),(15,[0,1,2,3,4,5,6,7,8,9,10,11,12,13,14,15,16,17,18,19,20,21,22]),(19,[0,1,2,3,4,5,6,7,8,9,10,11,12,13,14,15,16,17,18,19]),(22,[0,1,2,3,4,5,6,7,8,9,10,11,12,13,14]),(23,[0,1,2,3,4,5,6,7,8,9,10,11,12,13])],er:=[(13,[(3,27)]),(15,[(4,22)])] }
noncomputable def ab (a:Arg):Option Out:=@lift Out λk=>D.W k a
noncomputable def p (J:Arg):Option Out:=(iC.ab (J.1,())).bind λr2=>(dp.ab (r2.1.2.1,J.2.1.2.1,())).bind λr3=>bif decide (J.2.1.1=(1:Int)) then (bif decide ((100:Int)<=J.1.2.2.1) then ((fU.ab ((9:Int),())).bind λr4=>some (r4.1,())) else if r2.1.2.1.length+[(J.1.2.2.1,([]:List Change),([]:List Int),([]:List Key),())].length<=bV then (let y5:=r2.1.2.1++[(J.1.2.2.1,([]:List Change),([]:List Int),([]:List Key),())];bif J.2.2.1.2.1 then ((cx.ab (r2.1.1,J.2.2.1.2.2.1,())).bind λMM=>(cX.ab (y5,r3.1,J.2.2.1.2.2.1,())).bind λMN=>some (((0:Int),J.1.2.2.1,(MM.1,MN.1,al (J.1.2.2.1+(1:Int)),r2.1.2.2.2),()),())) else some (((0:Int),J.1.2.2.1,(r2.1.1,y5,al (J.1.2.2.1+(1:Int)),r2.1.2.2.2),()),())) else none) else bif decide (J.2.1.1=(5:Int)) then (if 0<=r3.1/\r3.1 < (r2.1.2.1.length:Int) then ((r2.1.2.1[r3.1.toNat]?).bind λx6=>(r2.1.2.1[r3.1.toNat]?).bind λx7=>if 0<=r3.1/\r3.1 < (r2.1.2.1.length:Int) then ((r2.1.2.1[r3.1.toNat]?).bind λx8=>if 0<=r3.1/\r3.1 < (r2.1.2.1.length:Int) then ((r2.1.2.1[r3.1.toNat]?).bind λx9=>(r2.1.2.1[r3.1.toNat]?).bind λvy=>(r2.1.2.1[r3.1.toNat]?).bind λzD=>(r2.1.2.1[r3.1.toNat]?).bind λvx=>if zD.2.2.1.length+[(vy.2.1.length:Int)].length<=bV then (if 0<=r3.1/\r3.1 < ((r2.1.2.1.set r3.1.toNat vx).length:Int) then (if r3.1.toNat=r3.1.toNat then ((r2.1.2.1.set r3.1.toNat vx)[r3.1.toNat]?).bind λud=>let Ph:=(r2.1.2.1.set r3.1.toNat vx).set r3.1.toNat (ud.1,ud.2.1,zD.2.2.1++[(vy.2.1.length:Int)],ud.2.2.2);bif J.2.2.1.2.1 then ((cx.ab (r2.1.1,J.2.2.1.2.2.1,())).bind λMO=>(cX.ab (Ph,r3.1,J.2.2.1.2.2.1,())).bind λRW=>some (((0:Int),(x7.2.2.1.length:Int),(MO.1,RW.1,r2.1.2.2),()),())) else some (((0:Int),(x7.2.2.1.length:Int),(r2.1.1,Ph,r2.1.2.2),()),()) else none) else none) else none) else none) else none) else none) else bif decide (J.2.1.1=(6:Int)) then (if 0<=r3.1/\r3.1 < (r2.1.2.1.length:Int) then ((r2.1.2.1[r3.1.toNat]?).bind λxF=>(r2.1.2.1[r3.1.toNat]?).bind λqb=>((r2.1.2.1.set r3.1.toNat qb)[r3.1.toNat]?).bind λRX=>(jm.ab (RX,J.2.1.2.2.2.1,())).bind λPi=>((r2.1.2.1.set r3.1.toNat qb)[r3.1.toNat]?).bind λPj=>let Pk:=(r2.1.2.1.set r3.1.toNat qb).set r3.1.toNat Pi.2.1;(cK.ab (r2.1.1,Pi.1,())).bind λPm=>bif J.2.2.1.2.1 then ((cx.ab (Pm.1,J.2.2.1.2.2.1,())).bind λRY=>(cX.ab (Pk,r3.1,J.2.2.1.2.2.1,())).bind λRZ=>some (((0:Int),(0:Int),(RY.1,RZ.1,r2.1.2.2),()),())) else some (((0:Int),(0:Int),(Pm.1,Pk,r2.1.2.2),()),())) else none) else bif decide (J.2.1.1=(7:Int)) then ((eV.ab (r2.1.2.1,r3.1,())).bind λPn=>bif J.2.2.1.2.1 then ((cx.ab (r2.1.1,J.2.2.1.2.2.1,())).bind λR2=>(cX.ab (Pn.1,r3.1,J.2.2.1.2.2.1,())).bind λR3=>some (((0:Int),(0:Int),(R2.1,R3.1,r2.1.2.2),()),())) else some (((0:Int),(0:Int),(r2.1.1,Pn.1,r2.1.2.2),()),())) else bif decide (J.2.1.1=(8:Int)) then (if 0<=r3.1/\r3.1 < (r2.1.2.1.length:Int) then ((r2.1.2.1[r3.1.toNat]?).bind λMP=>(r2.1.2.1[r3.1.toNat]?).bind λKp=>((r2.1.2.1.set r3.1.toNat Kp)[r3.1.toNat]?).bind λDM=>(cK.ab (r2.1.1,DM.2.1,())).bind λKq=>(eV.ab (r2.1.2.1.set r3.1.toNat Kp,r3.1,())).bind λKr=>bif J.2.2.1.2.1 then ((cx.ab (Kq.1,J.2.2.1.2.2.1,())).bind λR4=>(cX.ab (Kr.1,r3.1,J.2.2.1.2.2.1,())).bind λR5=>some (((0:Int),(0:Int),(R4.1,R5.1,r2.1.2.2),()),())) else some (((0:Int),(0:Int),(Kq.1,Kr.1,r2.1.2.2),()),())) else none) else bif J.2.2.1.2.1 then ((cx.ab (r2.1.1,J.2.2.1.2.2.1,())).bind λR6=>(cX.ab (r2.1.2.1,r3.1,J.2.2.1.2.2.1,())).bind λR7=>some (((0:Int),(0:Int),(R6.1,R7.1,r2.1.2.2),()),())) else some (((0:Int),(0:Int),r2.1,()),())
theorem ae (k:Nat) (J:Arg):@Eq (Option Out) (D.W k J) (p J):=by kernel_rfl
theorem ok:Ok prog 39 D.sig:=aw func39 aM (by kernel_rfl) (fc fU.ok (fc iC.ok (fc dp.ok (fc cK.ok (fc jm.ok (fc eV.ok (fc cx.ok (fc cX.ok (an _)))))))))
end cE
namespace cc
abbrev Arg:Type:=Plain×Op×Unit
abbrev Out:Type:=gA×Unit
abbrev ps:PQ:=[(.ro,bJ),(.ro,fm)]
noncomputable def D:FD:={ fn:=f9,tl:=be,ps:=ps,rs:=[(eB,(.pair (ah i64) (.pair (ah i64) (.pair (.pair (ah (.aa aj)) (.pair (.aa true (ah aB)) (ah (ba [i64])))) (ah .unit)))))],gl:=[(36,gi.D.sig),(37,fU.D.sig),(38,gL.D.sig),(39,cE.D.sig)] }
noncomputable def ab (a:Arg):Option Out:=@lift Out λk=>D.W k a
noncomputable def p (J:Arg):Option Out:=(gi.ab (J.1,())).bind λr2=>bif !decide (r2.1=(0:Int)) then ((fU.ab (r2.1,())).bind λr3=>some (r3.1,())) else (gL.ab (J.1.1,J.1.2.1,J.2.1,())).bind λr4=>bif !decide (r4.1.1=(0:Int)) then ((fU.ab (r4.1.1,())).bind λr5=>some (r5.1,())) else (cE.ab (J.1,J.2.1,r4.1,())).bind λr6=>some (r6.1,())
theorem ae (k:Nat) (J:Arg):@Eq (Option Out) (D.W k J) (p J):=by kernel_rfl
theorem ok:Ok prog 9 D.sig:=aw func9 aM (by kernel_rfl) (fc gi.ok (fc fU.ok (fc gL.ok (fc cE.ok (an _)))))
end cc
namespace dx
abbrev Arg:Type:=(List Op)×Unit
abbrev Out:Type:=dr×Unit
abbrev ps:PQ:=[(.ro,(.aa fm))]
noncomputable def D:FD:={ fn:=f79,tl:=be,ps:=ps,rs:=[(i9,(.pair (ah i64) (.pair (av (.aa i64)) (.pair (av (.aa i64)) (ah (ba [bJ]))))))],gl:=[(9,cc.D.sig)],fz:=[(7,1,7)],lv:=[(5,[0,2,3,4])],lx:=[(0,[2,3])],lf:=[(5,[(3,(.pair .leaf (.pair (.aa true .leaf) (.pair (.aa true .leaf) (.pair (.pair (.aa false (.pair .leaf (.pair .leaf (.pair .leaf (.pair .leaf .leaf))))) (.pair (.aa false (.pair .leaf (.pair (.aa false (.pair .leaf (.pair (.pair .leaf (.pair .leaf (.pair .leaf (.pair .leaf .leaf)))) (.pair .leaf (.pair (.pair .leaf (.pair .leaf (.pair .leaf (.pair .leaf .leaf)))) .leaf))))) (.pair (.aa false .leaf) (.pair (.aa false (.pair .leaf (.pair .leaf .leaf))) .leaf))))) (.pair .leaf .leaf))) .leaf)))))])],od:=[(7,[0,1,2,3,4,5,6,7,8])],ar:=[(7,[5])],pd:=[(7,[7])],er:=[(7,[(1,9)])] }
noncomputable def ab (a:Arg):Option Out:=@lift Out λk=>D.W k a
noncomputable def T0 (J:Arg) (Y:dr×Int):St:={ n:=46,sl:=[(0,.val (.aa fm) J.1),(2,.box i9 (av i9) [] ((0:Int),([]:List Int),([]:List Int),(([]:List Row),([]:List Tx),(0:Int),()),())),(3,.box i9 (.pair (ah i64) (.pair (av (.aa i64)) (.pair (av (.aa i64)) (ah (ba [bJ]))))) [] Y.1),(4,.val i64 Y.2)],vr:=[],aA:=[] }
noncomputable def b0 (self:(dr×Int)->Option Out) (e0:dr->Option Out) (J:Arg) (Y:dr×Int):Option Out:=bif decide (Y.2 < (J.1.length:Int)) then (if 0<=Y.2 then ((J.1[Y.2.toNat]?).bind λaT=>(cc.ab (Y.1.2.2.2.1,aT,())).bind λbN=>if Y.1.2.1.length+[bN.1.1].length<=bV then (if Y.1.2.2.1.length+[bN.1.2.1].length<=bV then (bif decide (bN.1.1=(0:Int)) then (self ((Y.1.1,Y.1.2.1++[bN.1.1],Y.1.2.2.1++[bN.1.2.1],bN.1.2.2.1,Y.1.2.2.2.2),al (Y.2+(1:Int)))) else self ((Y.1.1,Y.1.2.1++[bN.1.1],Y.1.2.2.1++[bN.1.2.1],Y.1.2.2.2),al (Y.2+(1:Int)))) else none) else none) else none) else e0 Y.1
noncomputable abbrev B0 (_:Nat):=b0
noncomputable def q0 (J:Arg) (cJ:dr):Option Out:=some (cJ,())
noncomputable abbrev Q0 (_:Nat):=q0
noncomputable def s0 (k:Nat) (J:Arg):(dr×Int)->Option Out:=λY=>D.L k [1,1,1,0,1,0,0] [0,2,3,4] [(3,(.pair .leaf (.pair (.aa true .leaf) (.pair (.aa true .leaf) (.pair (.pair (.aa false (.pair .leaf (.pair .leaf (.pair .leaf (.pair .leaf .leaf))))) (.pair (.aa false (.pair .leaf (.pair (.aa false (.pair .leaf (.pair (.pair .leaf (.pair .leaf (.pair .leaf (.pair .leaf .leaf)))) (.pair .leaf (.pair (.pair .leaf (.pair .leaf (.pair .leaf (.pair .leaf .leaf)))) .leaf))))) (.pair (.aa false .leaf) (.pair (.aa false (.pair .leaf (.pair .leaf .leaf))) .leaf))))) (.pair .leaf .leaf))) .leaf)))))] (ai 0 (aG (D.N k [1,1,1,1]) D.K0)) (T0 J Y)
noncomputable def r0 (k:Nat) (J:Arg):(dr×Int)->Option Out:=au (λw v=>B0 k w (Q0 k J) J v) k
theorem aO (k:Nat) (J:Arg):s0 k J=r0 k J:=
 funext λY=>aI _ _ _ (T0 J) _ (λrec v=>by kernel_rfl) k Y
noncomputable def p (l0:(dr×Int)->Option Out) (J:Arg):Option Out:=bif decide ((60:Int) < (J.1.length:Int)) then (some (((2:Int),([]:List Int),([]:List Int),(([]:List Row),([]:List Tx),(0:Int),()),()),())) else l0 (((0:Int),([]:List Int),([]:List Int),(([]:List Row),([]:List Tx),(1:Int),()),()),(0:Int))
theorem ae (k:Nat) (J:Arg):@Eq (Option Out) (D.W k J) (p (r0 k J) J):=
 Eq.trans (b:=p (s0 k J) J) (by kernel_rfl) (by rw[aO])
theorem ok:Ok prog 79 D.sig:=aw func79 aM (by kernel_rfl) (fc cc.ok (an _))
end dx
namespace cR
abbrev Arg:Type:=ax×Int×Unit
abbrev Out:Type:=Bool×ax×Unit
abbrev ps:PQ:=[(.dt (ah bj) (ah bj),bj),(.ro,i64)]
noncomputable def D:FD:={ fn:=f27,tl:=be,ps:=ps,rs:=[(.bool,(ah .bool))],gl:=[(51,am.D.sig)],es:=[0] }
noncomputable def ab (a:Arg):Option Out:=@lift Out λk=>D.W k a
noncomputable def p (J:Arg):Option Out:=(am.ab (J.1,J.2.1,())).bind λr2=>some (decide (r2.1=(0:Int)),r2.2.1,())
theorem ae (k:Nat) (J:Arg):@Eq (Option Out) (D.W k J) (p J):=by kernel_rfl
theorem ok:Ok prog 27 D.sig:=aw func27 aM (by kernel_rfl) (fc am.ok (an _))
end cR
namespace da
abbrev Arg:Type:=ax×Unit
abbrev Out:Type:=Row×ax×Unit
abbrev ps:PQ:=[(.dt (ah bj) (ah bj),bj)]
noncomputable def D:FD:={ fn:=f83,tl:=be,ps:=ps,rs:=[(aj,(ah aj))],gl:=[(51,am.D.sig),(71,aR.D.sig)],es:=[0] }
noncomputable def ab (a:Arg):Option Out:=@lift Out λk=>D.W k a
noncomputable def p (J:Arg):Option Out:=(am.ab (J.1,(3:Int),())).bind λr2=>(am.ab (r2.2.1,(6:Int),())).bind λr3=>(am.ab (r3.2.1,(9:Int),())).bind λr4=>(aR.ab (r4.2.1,[r4.1,(300:Int),(999:Int)],())).bind λr5=>(am.ab (r5.2.1,(4:Int),())).bind λr6=>if 0<=r6.1/\r6.1 < ([([]:List UInt8),([97]:List UInt8),([97,98,99]:List UInt8),([97,98,99,100,101,102,103,104]:List UInt8)].length:Int) then (([([]:List UInt8),([97]:List UInt8),([97,98,99]:List UInt8),([97,98,99,100,101,102,103,104]:List UInt8)][r6.1.toNat]?).bind λx7=>some ((r2.1,al ((1:Int)+r3.1),r5.1,x7,()),r6.2.1,())) else none
theorem ae (k:Nat) (J:Arg):@Eq (Option Out) (D.W k J) (p J):=by kernel_rfl
theorem ok:Ok prog 83 D.sig:=aw func83 aM (by kernel_rfl) (fc am.ok (fc aR.ok (an _)))
end da
namespace cL
abbrev Arg:Type:=ax×(List Row)×(List Tx)×Unit
abbrev Out:Type:=Op×ax×Unit
abbrev ps:PQ:=[(.dt (ah bj) (ah bj),bj),(.ro,(.aa aj)),(.ro,(.aa aB))]
noncomputable def D:FD:={ fn:=f29,tl:=be,ps:=ps,rs:=[(fm,(ah fm))],gl:=[(27,cR.D.sig),(51,am.D.sig),(71,aR.D.sig),(83,da.D.sig)],es:=[0] }
noncomputable def ab (a:Arg):Option Out:=@lift Out λk=>D.W k a
noncomputable def p (J:Arg):Option Out:=(am.ab (J.1,(4:Int),())).bind λr2=>let IN:=λ(Qn:ax) (dc:Int)=>((da.ab (Qn,())).bind λMQ=>(aR.ab (MQ.2.1,[(1:Int),(1:Int),(1:Int),(2:Int),(0:Int)],())).bind λE3=>let MR:=λ(MS:ax) (IP:Row)=>(let IQ:=λ(Qo:ax) (yN:Row)=>(let MT:=λ(fS:Row)=>((am.ab (Qo,(12:Int),())).bind λaN=>bif decide (aN.1=(0:Int)) then (some (((1:Int),(0:Int),((0:Int),(0:Int),(0:Int),([]:List UInt8),()),(0:Int),()),aN.2.1,())) else bif decide (aN.1=(1:Int)) then (bif decide (aN.1=(1:Int)) then (some (((2:Int),dc,fS,(0:Int),()),aN.2.1,())) else bif decide (aN.1=(4:Int)) then (bif decide (aN.1=(4:Int)) then (some (((3:Int),dc,fS,(0:Int),()),aN.2.1,())) else bif decide (aN.1=(7:Int)) then (some (((4:Int),dc,(fS.1,fS.2.1,(0:Int),([]:List UInt8),()),(0:Int),()),aN.2.1,())) else bif decide (aN.1=(8:Int)) then (some (((5:Int),dc,((0:Int),(0:Int),(0:Int),([]:List UInt8),()),(0:Int),()),aN.2.1,())) else bif decide (aN.1=(9:Int)) then ((am.ab (aN.2.1,(3:Int),())).bind λMU=>some (((6:Int),dc,((0:Int),(0:Int),(0:Int),([]:List UInt8),()),MU.1,()),MU.2.1,())) else bif decide (aN.1=(10:Int)) then ((aR.ab (aN.2.1,[(7:Int),(8:Int)],())).bind λMV=>some ((MV.1,dc,((0:Int),(0:Int),(0:Int),([]:List UInt8),()),(0:Int),()),MV.2.1,())) else some (((9:Int),(0:Int),((0:Int),(0:Int),(0:Int),([]:List UInt8),()),(0:Int),()),aN.2.1,())) else bif decide (aN.1=(5:Int)) then (bif decide (aN.1=(5:Int)) then (some (((3:Int),dc,fS,(0:Int),()),aN.2.1,())) else bif decide (aN.1=(7:Int)) then (some (((4:Int),dc,(fS.1,fS.2.1,(0:Int),([]:List UInt8),()),(0:Int),()),aN.2.1,())) else bif decide (aN.1=(8:Int)) then (some (((5:Int),dc,((0:Int),(0:Int),(0:Int),([]:List UInt8),()),(0:Int),()),aN.2.1,())) else bif decide (aN.1=(9:Int)) then ((am.ab (aN.2.1,(3:Int),())).bind λMW=>some (((6:Int),dc,((0:Int),(0:Int),(0:Int),([]:List UInt8),()),MW.1,()),MW.2.1,())) else bif decide (aN.1=(10:Int)) then ((aR.ab (aN.2.1,[(7:Int),(8:Int)],())).bind λMX=>some ((MX.1,dc,((0:Int),(0:Int),(0:Int),([]:List UInt8),()),(0:Int),()),MX.2.1,())) else some (((9:Int),(0:Int),((0:Int),(0:Int),(0:Int),([]:List UInt8),()),(0:Int),()),aN.2.1,())) else bif decide (aN.1=(6:Int)) then (some (((3:Int),dc,fS,(0:Int),()),aN.2.1,())) else bif decide (aN.1=(7:Int)) then (some (((4:Int),dc,(fS.1,fS.2.1,(0:Int),([]:List UInt8),()),(0:Int),()),aN.2.1,())) else bif decide (aN.1=(8:Int)) then (some (((5:Int),dc,((0:Int),(0:Int),(0:Int),([]:List UInt8),()),(0:Int),()),aN.2.1,())) else bif decide (aN.1=(9:Int)) then ((am.ab (aN.2.1,(3:Int),())).bind λMY=>some (((6:Int),dc,((0:Int),(0:Int),(0:Int),([]:List UInt8),()),MY.1,()),MY.2.1,())) else bif decide (aN.1=(10:Int)) then ((aR.ab (aN.2.1,[(7:Int),(8:Int)],())).bind λMZ=>some ((MZ.1,dc,((0:Int),(0:Int),(0:Int),([]:List UInt8),()),(0:Int),()),MZ.2.1,())) else some (((9:Int),(0:Int),((0:Int),(0:Int),(0:Int),([]:List UInt8),()),(0:Int),()),aN.2.1,())) else bif decide (aN.1=(2:Int)) then (bif decide (aN.1=(2:Int)) then (some (((2:Int),dc,fS,(0:Int),()),aN.2.1,())) else bif decide (aN.1=(4:Int)) then (bif decide (aN.1=(4:Int)) then (some (((3:Int),dc,fS,(0:Int),()),aN.2.1,())) else bif decide (aN.1=(7:Int)) then (some (((4:Int),dc,(fS.1,fS.2.1,(0:Int),([]:List UInt8),()),(0:Int),()),aN.2.1,())) else bif decide (aN.1=(8:Int)) then (some (((5:Int),dc,((0:Int),(0:Int),(0:Int),([]:List UInt8),()),(0:Int),()),aN.2.1,())) else bif decide (aN.1=(9:Int)) then ((am.ab (aN.2.1,(3:Int),())).bind λM0=>some (((6:Int),dc,((0:Int),(0:Int),(0:Int),([]:List UInt8),()),M0.1,()),M0.2.1,())) else bif decide (aN.1=(10:Int)) then ((aR.ab (aN.2.1,[(7:Int),(8:Int)],())).bind λM1=>some ((M1.1,dc,((0:Int),(0:Int),(0:Int),([]:List UInt8),()),(0:Int),()),M1.2.1,())) else some (((9:Int),(0:Int),((0:Int),(0:Int),(0:Int),([]:List UInt8),()),(0:Int),()),aN.2.1,())) else bif decide (aN.1=(5:Int)) then (bif decide (aN.1=(5:Int)) then (some (((3:Int),dc,fS,(0:Int),()),aN.2.1,())) else bif decide (aN.1=(7:Int)) then (some (((4:Int),dc,(fS.1,fS.2.1,(0:Int),([]:List UInt8),()),(0:Int),()),aN.2.1,())) else bif decide (aN.1=(8:Int)) then (some (((5:Int),dc,((0:Int),(0:Int),(0:Int),([]:List UInt8),()),(0:Int),()),aN.2.1,())) else bif decide (aN.1=(9:Int)) then ((am.ab (aN.2.1,(3:Int),())).bind λM2=>some (((6:Int),dc,((0:Int),(0:Int),(0:Int),([]:List UInt8),()),M2.1,()),M2.2.1,())) else bif decide (aN.1=(10:Int)) then ((aR.ab (aN.2.1,[(7:Int),(8:Int)],())).bind λM3=>some ((M3.1,dc,((0:Int),(0:Int),(0:Int),([]:List UInt8),()),(0:Int),()),M3.2.1,())) else some (((9:Int),(0:Int),((0:Int),(0:Int),(0:Int),([]:List UInt8),()),(0:Int),()),aN.2.1,())) else bif decide (aN.1=(6:Int)) then (some (((3:Int),dc,fS,(0:Int),()),aN.2.1,())) else bif decide (aN.1=(7:Int)) then (some (((4:Int),dc,(fS.1,fS.2.1,(0:Int),([]:List UInt8),()),(0:Int),()),aN.2.1,())) else bif decide (aN.1=(8:Int)) then (some (((5:Int),dc,((0:Int),(0:Int),(0:Int),([]:List UInt8),()),(0:Int),()),aN.2.1,())) else bif decide (aN.1=(9:Int)) then ((am.ab (aN.2.1,(3:Int),())).bind λM4=>some (((6:Int),dc,((0:Int),(0:Int),(0:Int),([]:List UInt8),()),M4.1,()),M4.2.1,())) else bif decide (aN.1=(10:Int)) then ((aR.ab (aN.2.1,[(7:Int),(8:Int)],())).bind λM5=>some ((M5.1,dc,((0:Int),(0:Int),(0:Int),([]:List UInt8),()),(0:Int),()),M5.2.1,())) else some (((9:Int),(0:Int),((0:Int),(0:Int),(0:Int),([]:List UInt8),()),(0:Int),()),aN.2.1,())) else bif decide (aN.1=(3:Int)) then (some (((2:Int),dc,fS,(0:Int),()),aN.2.1,())) else bif decide (aN.1=(4:Int)) then (bif decide (aN.1=(4:Int)) then (some (((3:Int),dc,fS,(0:Int),()),aN.2.1,())) else bif decide (aN.1=(7:Int)) then (some (((4:Int),dc,(fS.1,fS.2.1,(0:Int),([]:List UInt8),()),(0:Int),()),aN.2.1,())) else bif decide (aN.1=(8:Int)) then (some (((5:Int),dc,((0:Int),(0:Int),(0:Int),([]:List UInt8),()),(0:Int),()),aN.2.1,())) else bif decide (aN.1=(9:Int)) then ((am.ab (aN.2.1,(3:Int),())).bind λM6=>some (((6:Int),dc,((0:Int),(0:Int),(0:Int),([]:List UInt8),()),M6.1,()),M6.2.1,())) else bif decide (aN.1=(10:Int)) then ((aR.ab (aN.2.1,[(7:Int),(8:Int)],())).bind λM7=>some ((M7.1,dc,((0:Int),(0:Int),(0:Int),([]:List UInt8),()),(0:Int),()),M7.2.1,())) else some (((9:Int),(0:Int),((0:Int),(0:Int),(0:Int),([]:List UInt8),()),(0:Int),()),aN.2.1,())) else bif decide (aN.1=(5:Int)) then (bif decide (aN.1=(5:Int)) then (some (((3:Int),dc,fS,(0:Int),()),aN.2.1,())) else bif decide (aN.1=(7:Int)) then (some (((4:Int),dc,(fS.1,fS.2.1,(0:Int),([]:List UInt8),()),(0:Int),()),aN.2.1,())) else bif decide (aN.1=(8:Int)) then (some (((5:Int),dc,((0:Int),(0:Int),(0:Int),([]:List UInt8),()),(0:Int),()),aN.2.1,())) else bif decide (aN.1=(9:Int)) then ((am.ab (aN.2.1,(3:Int),())).bind λM8=>some (((6:Int),dc,((0:Int),(0:Int),(0:Int),([]:List UInt8),()),M8.1,()),M8.2.1,())) else bif decide (aN.1=(10:Int)) then ((aR.ab (aN.2.1,[(7:Int),(8:Int)],())).bind λM9=>some ((M9.1,dc,((0:Int),(0:Int),(0:Int),([]:List UInt8),()),(0:Int),()),M9.2.1,())) else some (((9:Int),(0:Int),((0:Int),(0:Int),(0:Int),([]:List UInt8),()),(0:Int),()),aN.2.1,())) else bif decide (aN.1=(6:Int)) then (some (((3:Int),dc,fS,(0:Int),()),aN.2.1,())) else bif decide (aN.1=(7:Int)) then (some (((4:Int),dc,(fS.1,fS.2.1,(0:Int),([]:List UInt8),()),(0:Int),()),aN.2.1,())) else bif decide (aN.1=(8:Int)) then (some (((5:Int),dc,((0:Int),(0:Int),(0:Int),([]:List UInt8),()),(0:Int),()),aN.2.1,())) else bif decide (aN.1=(9:Int)) then ((am.ab (aN.2.1,(3:Int),())).bind λM_=>some (((6:Int),dc,((0:Int),(0:Int),(0:Int),([]:List UInt8),()),M_.1,()),M_.2.1,())) else bif decide (aN.1=(10:Int)) then ((aR.ab (aN.2.1,[(7:Int),(8:Int)],())).bind λNa=>some ((Na.1,dc,((0:Int),(0:Int),(0:Int),([]:List UInt8),()),(0:Int),()),Na.2.1,())) else some (((9:Int),(0:Int),((0:Int),(0:Int),(0:Int),([]:List UInt8),()),(0:Int),()),aN.2.1,()):Option Out);bif decide (yN.1=(0:Int)) then (MT (yN.1,yN.2.1,yN.2.2.1,([]:List UInt8),yN.2.2.2.2)) else MT yN:Option Out);bif decide ((0:Int) < (J.2.1.length:Int)) then ((cR.ab (MS,(3:Int),())).bind λIR=>bif !IR.1 then ((am.ab (IR.2.1,(J.2.1.length:Int),())).bind λIS=>if 0<=IS.1 then ((J.2.1[IS.1.toNat]?).bind λNb=>IQ IS.2.1 (Nb.1,Nb.2.1,IP.2.2)) else none) else IQ IR.2.1 IP) else IQ MS IP:Option Out);bif decide (E3.1=(0:Int)) then ((aR.ab (E3.2.1,[(1:Int),(2:Int),(3:Int),(4:Int)],())).bind λNc=>(aR.ab (Nc.2.1,[(8:Int),(3:Int),(0:Int),(9:Int)],())).bind λNd=>MR Nd.2.1 ((0:Int),Nc.1,Nd.1,([]:List UInt8),())) else MR E3.2.1 (E3.1,MQ.1.2):Option Out);bif decide ((0:Int) < (J.2.2.1.length:Int)) then ((cR.ab (r2.2.1,(8:Int),())).bind λr3=>bif !r3.1 then ((am.ab (r3.2.1,(J.2.2.1.length:Int),())).bind λr4=>if 0<=r4.1 then ((J.2.2.1[r4.1.toNat]?).bind λx5=>IN r4.2.1 x5.1) else none) else IN r3.2.1 (al ((1:Int)+r2.1))) else IN r2.2.1 (al ((1:Int)+r2.1))
theorem ae (k:Nat) (J:Arg):@Eq (Option Out) (D.W k J) (p J):=by kernel_rfl
theorem ok:Ok prog 29 D.sig:=aw func29 aM (by kernel_rfl) (fc cR.ok (fc am.ok (fc aR.ok (fc da.ok (an _)))))
end cL
end OT
