/- The proof's parts, merged: slices.SortFunc at simple structs, by the kit s contract at whatever length  what it computes, as a contract of this framework.. No conditions but those that each states. -/
import Derived.Test.YtgnicpenjinbiaaGreatUc
import Derived.Shelf.SlSortCmp.NoneTotal
import Derived.Shelf.SlLaysE0
import Derived.Shelf.RegionOpenPlain
import Derived.WalkKit
import Derived.Deep.LoopGhost
import Derived.Deep.RegionLaw
import Derived.Lib.Walk
import Derived.Sort.WalkB12
import Derived.Lib.SliceRun
import Derived.Test.YtgnicpenjinbiaaGreatProg
import Derived.KernelRfl
set_option linter.unusedVariables false
set_option linter.unusedSimpArgs false
namespace OT
open Go Go.Sort
abbrev Byt:=List UInt8
theorem Bye {p:Prop} (h:p:=by kernel_rfl):p:=h
theorem By8 {α β γ:Type} {x:β} {p:α->γ->β} {s r:α} {a:γ} (h:s=r) (e:x=p s a):x=p r a:=h▸e
instance ait (e:Ty):Inhabited e.den:=⟨e.zero⟩
noncomputable def Cr (e:Ty) (cs:e.den×e.den×Unit->Option (Int×Unit)) (v:List e.den):Option (List e.den):=open Classical in
 if List.length v<=be then (if h:∃ cf:e.den->e.den->Int,(∀ x y,cs (x,y,())=some (cf x y,()))/\SWO (Go.Proofs.ltOf cf) then some (pdq (Go.Proofs.ltOf h.choose) v.toArray 0 v.toArray.size (Lib.bitLen v.toArray.size) true true).toList else none) else none
theorem R5 {e:Ty} {cs:e.den×e.den×Unit->Option (Int×Unit)} {cf:e.den->e.den->Int} (h1:∀ x y,cs (x,y,())=some (cf x y,())) (h2:SWO (Go.Proofs.ltOf cf)) (v:List e.den) (hl:List.length v<=be):Cr e cs v=some (pdq (Go.Proofs.ltOf cf) v.toArray 0 v.toArray.size (Lib.bitLen v.toArray.size) true true).toList:=by
 have hex:∃ cf:e.den->e.den->Int,(∀ x y,cs (x,y,())=some (cf x y,()))/\SWO (Go.Proofs.ltOf cf):=⟨cf,h1,h2⟩
 have he:hex.choose=cf:=by
  grind
 grind [Cr]
theorem WQ {e:Ty} {cs:e.den×e.den×Unit->Option (Int×Unit)} {v r:List e.den} (h:Cr e cs v=some r):∃ cf:e.den->e.den->Int,(∀ x y,cs (x,y,())=some (cf x y,()))/\SWO (Go.Proofs.ltOf cf)/\List.length v<=be/\r=(pdq (Go.Proofs.ltOf cf) v.toArray 0 v.toArray.size (Lib.bitLen v.toArray.size) true true).toList:=by
 grind [R5,Cr]
theorem R6 {α:Type} [Inhabited α] {lt:α->α->Bool} (h:SWO lt) (v:List α):(pdq lt v.toArray 0 v.toArray.size (Lib.bitLen v.toArray.size) true true).toList.Perm v/\(pdq lt v.toArray 0 v.toArray.size (Lib.bitLen v.toArray.size) true true).toList.Pairwise λx y=>lt y x=false:=by
 have hs:=pdq_sorts lt h v.toArray 0 v.toArray.size (Lib.bitLen v.toArray.size) true true (aX _) (aG _) (Or.inl rfl);generalize pdq lt v.toArray 0 v.toArray.size (Lib.bitLen v.toArray.size) true true=p at hs ⊢;obtain ⟨⟨h1,h2,h3⟩,h4⟩:=hs;refine ⟨?_,?_⟩
 ·grind [Array.extract_size]
 ·rw[bM];intro i j hi hj sb;have Cd:j < p.size:=by simpa using hj
  have:=h4 i j (aX _) sb Bys;grind
section
variable {P:Program}
theorem aa8 {w w':World} (h:Ext w w' (λ_ _=>0)):∃ q os,w'=grow (w.drewN q) os:=by
 refine ⟨w'.drawn - w.drawn,w'.heap.extract w.heap.size w'.heap.size,?_⟩
 have hh:w'.heap=w.heap++w'.heap.extract w.heap.size w'.heap.size:=by
  apply Array.ext_getElem?;intro i;by_cases hi:i < w.heap.size
  ·rw[h.obj i hi λ_=>rfl,fP hi]
  grind
 have h1:=h.os;have h2:=h.tape;have h3:=h.output;have h4:=h.drawn
 cases w with
 | mk heap tape drawn os output=>
  cases w' <;> grind [grow,World.drewN,World.mk.injEq]
theorem aa9 {α:Type} [Inhabited α] {enc:α->List Value} {k b m:Nat} {dk:Array α} {os:Array Obj} {w:World} {F0:FP} (h:yB P w F0) (hb:1<=F0 b 0):yB P (Go.Proofs.sortWorldK enc k w b 0 m dk os) λ_ _=>0:=λe=>by
 obtain ⟨⟨w0,g,hw⟩,hs,hf⟩:=h e;grind [Go.Proofs.sortWorldK,grow,Go.Sort.putRowK,Go.Sort.putRow,Go.Sort.mapBlock,Go.Sort.ahead]
theorem aa_ {e:Ty} (hs:zP e=true) (ha:isAgg e=true) {g:Nat} {cF:e.den×e.den×Unit->Option (Int×Unit)} (hg:Sound P g { ps:=[(.ro,e),(.ro,e)],rs:=[(.int .i64,ah (.int .i64))],F:=cF }) {cf:e.den->e.den->Int} (hc:∀ x y,cF (x,y,())=some (cf x y,())) (b size:Nat) (w:World) (ht:∀ m dk os,yB P (Go.Proofs.sortWorldK (ta e) e.sz w b 0 m dk os) λ_ _=>0):Go.Proofs.CmpLays P g #[] (ta e) e.sz cf b 0 size w:=by
 intro m os dk _ x y
 have ny:rx P (Go.Proofs.sortWorldK (ta e) e.sz w b 0 m dk os) (λ_ _=>False) Ru [(.ro,e),(.ro,e)] (x,y,()) [.agg (ta e x).toArray,.agg (ta e y).toArray] (λ_ _=>0):=
  ⟨_,_,λ_ _=>0,λ_ _=>0,rfl,λ_ _=>aG _,⟨ta e x,by simp[dj,ha],yx e hs x⟩,_,_,λ_ _=>0,λ_ _=>0,rfl,λ_ _=>aG _,⟨ta e y,by simp[dj,ha],yx e hs y⟩,rfl⟩
 refine (hg _ (λ_ _=>False) (λ_ _=>0) (x,y,()) _ ny (λ_ _=>aX _) (λ_ _ h=>by omega) (λ_ _ h=>by grind) (ht _ _ _) (cf x y,()) (hc x y)).mono ?_;rintro ex w' ⟨rv,rfl,fq,A',G,GR,GM,_,_,_,_,_,_,_,wV,_⟩;obtain ⟨cs,h1,h2⟩:=wV;refine ⟨?_,aa8 fq⟩
 have h2:cs=[.int .i64 (cf x y)]:=h2;rw[h1,h2];rfl
theorem adz {ρ:Go.Shelf.Ren} (L:Go.Proofs.SlLaysF0.n6 P ρ) {e:Ty} (hs:zP e=true) (ha:isAgg e=true) (hl:bn P e (.inl (ρ.t 24))=true) (h1:1<=e.sz) {g:Nat} {cF:e.den×e.den×Unit->Option (Int×Unit)}
  (hg:Ok P g { ps:=[(.ro,e),(.ro,e)],rs:=[(.int .i64,ah (.int .i64))],F:=cF }) (he:xO P (ρ.f 6) false) :
  Ok P (ρ.f 6) { ps:=[(.oS (ai (.aa e)),.aa e),(.fix g,.fn)],rs:=[],F:=λv=>(Cr e cF v.1).map λr=>(r,()) }:=by
 refine ⟨?_,he⟩
 intro w A F0 v xs ny hle Ay La N8 out qW;obtain ⟨vs,⟨fg,fv⟩,⟨⟩⟩:=v;obtain ⟨x,U_,F1,F2,rfl,hF,⟨cs,rfl,jL⟩,x2,agZ,F3,F4,rfl,Mx,⟨⟨dO,rfl,hfn⟩,ag0⟩,EI⟩:=ny;have EI:agZ=[]:=EI;subst EI;have hfg:fg=g:=ag0 rfl;subst hfg;obtain ⟨BT,rfl,fn,aiP,aiQ⟩:=hfn
 have af4:BT=#[]:=by
  obtain ⟨fn',k1,_,_,k4⟩:=hg.2;grind
 subst af4;have yk:dj .fn [.func (.func fg) #[] #[]]=.func (.func fg) #[] #[]:=rfl;have qW:(Cr e cF vs).map (λr=>(r,()))=some out:=qW
 cases acM:Cr e cF vs with
 | none=>grind
 | some r=>
 rw[acM] at qW;injection qW with qW;subst qW;obtain ⟨cf,hc,hO,oc,hr⟩:=WQ acM;have WR:=R6 hO vs;rw[<-hr] at WR;have acy:=jL;simp only[am,hole,bU,aF,aU,ai,wU,Md.own,aL] at jL;obtain ⟨xa,cap,rfl,g2,g3,g4,g5⟩:=jL;have Mm:dj (.aa e) [.slice xa (List.length vs) cap]=.slice xa (List.length vs) cap:=rfl;rw[yk,Mm]
 have Ir:∀ (w':World) (F1':FP),Ext w w' F0->(∀ b i,F1' b i<=F1 b i)->am P w' A (.aa e) (ai (.aa e)) [] r [.slice xa (List.length vs) cap] F1' ->
   ∃ rv,Ending.returned (.tuple #[])=.returned rv/\Ext w w' F0/\∃ (A':Cells) (G GR GM:FP),(∀ b i,A b i->A' b i)/\(∀ b i,A' b i->A b i\/1<=F0 b i\/w.heap.size<=b)/\(∀ b i,1<=G b i->1<=F0 b i\/w.heap.size<=b)/\(∀ b i,G b i<=1)/\(∀ b i,1<=G b i->¬ A' b i)/\(∀ b i,1<=G b i\/A' b i->b < w'.heap.size)/\(∀ b i,GR b i+GM b i<=G b i) /\
   pz P w' A' [] rv GR/\qo P w' A' [(.oS (ai (.aa e)),.aa e),(.fix fg,.fn)] (r,()) [.slice xa (List.length vs) cap,.func (.func fg) #[] #[]] GM:=λw' F1' fq hF1 hrp=>
  ⟨_,rfl,fq,A,F0,λ_ _=>0,F0,λ_ _ h=>h,λ_ _ h=>.inl h,λ_ _ h=>.inl h,hle,Ay,λb i h=>dA (La b i h) fq.size,λb i=>by grind,trivial,F1',F2,λb i=>by grind,⟨_,rfl,hrp⟩,trivial⟩
 by_cases h0:List.length vs=0
 ·have hvs:vs=[]:=bX h0
  have hrn:r=[]:=by
   have:=WR.1.length_eq;grind
  rw[h0];refine (Go.Proofs.AnyF.slices_SortFunc_none L xa cap (.func (.func fg) #[] #[]) w).mono ?_;rintro ex w' ⟨rfl,hw⟩;rw[hw];rw[h0] at Ir;refine Ir w F1 (Ext.refl _ _) (λ_ _=>aG _) ?_;grind
 ·cases xa with
  | none=>grind
  | some ad=>
   obtain ⟨q1,q2,q3,Fi,q4,q5⟩:=g5 ad rfl;obtain ⟨b,off,sp⟩:=ad;simp only at q1 q2 q3 q4 q5;subst q1;subst q2;obtain ⟨c,el,fr,c1,c2,c3,c4⟩:=q3;have hb:=(cH.1 c1).1;have oO:vs.toArray.size=List.length vs:=by simp
   have Vl:List.length vs*e.sz<=cap*e.sz:=bD _ g2;have Gc:1<=List.length vs*e.sz:=Nat.mul_le_mul (show 1<=List.length vs by omega) h1
   have uu:∀ (i:Nat) (y:e.den),vs[i]?=some y->Has w b (i*e.sz) (ta e y):=λi y hy=>by
    obtain ⟨L0,l1,l2,l3⟩:=q5 i y hy;have:=aeN e hs (am.flat e (Pc e hs) l3);grind
   have hH:Go.Sort.HoldsK (ta e) e.sz w b 0 vs.toArray:=by
    intro j hj;rw[Go.Sort.size_flatK,oO] at hj;rw[bS,Go.Sort.get_flatK _ _ _ _ (by grind)];have hi:j / e.sz < List.length vs:=by rw[eZ h1];exact hj
    have hy:=aB hi;have hm:=jH j h1
    have uj:(ta e (vs[j / e.sz]))[j % e.sz]?=some ((ta e (vs[j / e.sz]))[j % e.sz]!):=by
     have hlen:=Ro.length e (yx (P:=P) (w:=w) (A:=A) e hs (vs[j / e.sz]));grind
    have R7:=uu _ _ hy _ _ uj;have hdm:j / e.sz*e.sz+j % e.sz=j:=by grind [Nat.div_add_mod]
    rw[hdm] at R7;have qS:=Ro.one e (yx (P:=P) (w:=w) (A:=A) e hs (vs[j / e.sz])) _ (bT uj);have hcc:=wO R7 qS;refine ⟨?_,?_⟩
    ·grind
    ·simp only[World.frozen?,c1];have:=c3 j Bys;grind
   have YF:1<=F0 b 0:=by
    grind [d8]
   have WS:=Go.Proofs.AnyQ.slices_SortFunc_eq L e.sz (λw=>by rw[Id hl,ha]) (λw=>run_sizeOf hl) (ta e) (λy=>Ro.length e (yx (P:=P) (w:=w) (A:=A) e hs y)) (λy u hu=>Ro.one e (yx (P:=P) (w:=w) (A:=A) e hs y) u hu) cf hO fg #[] b 0 cap vs.toArray w
    (λargs w=>Ik hg.2 args) (aa_ hs ha hg.1 hc b _ w λm dk os=>aa9 N8 YF) hH hb (by grind [be])
   rw[oO] at WS;refine WS.mono ?_;rintro ex w' ⟨rfl,n,os,rfl⟩;rw[oO] at hr;have Ec:(pdq (Go.Proofs.ltOf cf) vs.toArray 0 (List.length vs) (Lib.bitLen (List.length vs)) true true)=r.toArray:=by rw[hr]
   rw[Ec];have vv:r.length=List.length vs:=WR.1.length_eq
   have hold:∀ b',b' < w.heap.size->b'≠b->(Go.Proofs.sortWorldK (ta e) e.sz w b 0 n r.toArray os).heap[b']?=w.heap[b']?:=λb' Df i7=>by
    grind [Go.Proofs.sortWorldK,grow,Go.Sort.putRowK,Go.Sort.putRow,Go.Sort.mapBlock,Go.Sort.ahead]
   have AC:(Go.Proofs.sortWorldK (ta e) e.sz w b 0 n r.toArray os).heap[b]?=some (.cells (Go.Sort.putCells id 0 (Go.Sort.flatK (ta e) e.sz r.toArray) c) el fr):=by
    simp only[Go.Proofs.sortWorldK,grow,Go.Sort.putRowK,Go.Sort.putRow,Go.Sort.mapBlock,Go.Sort.ahead];rw[fP (by simpa using hb),gF,aH rfl,c1];rfl
   have pP:(Go.Sort.putCells id 0 (Go.Sort.flatK (ta e) e.sz r.toArray) c).size=c.size:=by simp[Go.Sort.putCells]
   have fq:Ext w (Go.Proofs.sortWorldK (ta e) e.sz w b 0 n r.toArray os) F0:=by
    have jS:∀ i,i < cap*e.sz->1<=F0 b i:=λi hi=>by
     grind [d8]
    refine ⟨?_,λb' i Df hz u hu=>?_,λb' m hm=>?_,λb' i Df=>?_,rfl,rfl,rfl,λb' Df hz=>?_,gJ _ _⟩
    ·grind
    ·by_cases Ie:b'=b
     ·subst Ie;have hi:¬ i < cap*e.sz:=λhi=>by grind
      exfalso;have:=aa7 c1 hu;grind
     grind [CU]
    ·by_cases Ie:b'=b
     ·subst Ie;obtain ⟨c',e',f',m1,m2,m3⟩:=hm;rw[c1] at m1;injection m1 with m1;injection m1 with m1 m4 m5;subst m1;subst m4;subst m5;exact ⟨_,_,_,AC,by grind,m3⟩
     ·have Df:b' < w.heap.size:=hm.lt;grind [zK]
    ·by_cases Ie:b'=b
     ·grind [World.frozen?]
     grind [A6]
    grind
   refine Ir _ F1 fq (λ_ _=>aG _) ?_;simp only[am,hole,bU,aF,aU,ai,wU,Md.own,aL];refine ⟨some ⟨b,0,none⟩,cap,by rw[vv],by grind,g3,(λe=>by cases e),λad e2=>?_⟩
   injection e2 with e2;subst e2;refine ⟨rfl,rfl,⟨_,_,_,AC,by grind,c3,c4⟩,λ_ _ _=>0,λb' i=>?_,λi y hy=>?_⟩
   ·have h3:=q4 b' i
    have h4:bh (List.length r) (λ_ _ _=>0) b' i=0:=by
     generalize List.length r=nn
     induction nn <;> grind [bh]
    grind
   ·refine ⟨ta e y,Ro.length e (yx (P:=P) (w:=w) (A:=A) e hs y),λj u hu=>?_,?_⟩
    ·have hj:=(aO.1 hu).1;have hlen:=Ro.length e (yx (P:=P) (w:=w) (A:=A) e hs y);have hi:=(aO.1 hy).1
     have sb:i*e.sz+j < r.length*e.sz:=by
      have:=bD e.sz (show i+1<=r.length from hi);grind
     have hdiv:(i*e.sz+j) / e.sz=i:=(Go.Sort.blk_iff e.sz i _ h1).1 ⟨by omega,by omega⟩;have aiR:(i*e.sz+j) % e.sz=j:=by grind [Nat.mod_eq_sub_div_mul]
     have yM:(Go.Sort.putCells id 0 (Go.Sort.flatK (ta e) e.sz r.toArray) c)[i*e.sz+j]?=some u:=by
      have bc:i*e.sz+j < c.size:=by grind
      grind [Go.Sort.putCells,Go.Sort.size_flatK,Go.Sort.get_flatK]
     have qS:=Ro.one e (yx (P:=P) (w:=w) (A:=A) e hs y) _ (bT hu);grind [TY]
    grind [Ro.flat,Pc,yx]
end
end OT
namespace OT
open Go Go.Shelf Go.RowKit Go.Lib Go.Proofs
section
variable {P:Program} {ρ:Ren}
theorem TZ (w:World) (t e ty:TypeId) (z:Value) (ht:P.underlying t=some (.slice e)) (hv:∀ w,(zeroValue e).run P w=.ok z w) (b o n c:Nat) (hn:0 < n)
  (hc:∀ j,j < (Builtin.zeroCells z.cells n).toList.length->(w.cell? ⟨b,o+j,none⟩).isSome=true) (hf:∀ j,j < (Builtin.zeroCells z.cells n).toList.length->w.frozen? ⟨b,o+j,none⟩=false) (h1:∀ v ∈ (Builtin.zeroCells z.cells n).toList,v.oneCell'=true) :
  (Builtin.clear_ #[t] ty #[.slice (some ⟨b,o,none⟩) n c]).run P w=.ok (.tuple #[]) (w.setCells b o (Builtin.zeroCells z.cells n).toList):=by
 have dm:=run_storeCells_cells (P:=P) b o (Builtin.zeroCells z.cells n).toList 0 w (by simpa using hc) (by simpa using hf) h1;simp only[eM] at dm
 obtain ⟨m,rfl⟩:∃ m,n=m+1:=⟨n - 1,by omega⟩
 simp_all [Builtin.clear_,run_underlying]
theorem Qe (b:Nat) (vs:List Value) (o:Nat) (w:World) (h:∀ j,j < vs.length->(w.cell? ⟨b,o+j,none⟩).isSome=true) (k:Nat) (hk:(w.cell? ⟨b,k,none⟩).isSome=true):((w.setCells b o vs).cell? ⟨b,k,none⟩).isSome=true:=by
 by_cases gb:o<=k/\k < o+vs.length
 ·have:=World.cell?_setCells_in b vs o w h (k - o) Bys;grind
 grind [World.cell?_setCells_out]
set_option maxHeartbeats 4000000 in
set_option maxRecDepth 1000000 in
theorem Zn (L:SlLaysE0.n45 P ρ) (k:Nat) (inf:TypeInfo) (zv:Value) (Vm:P.info? (ρ.t 23)=some inf) (hsk:inf.size=k) (hz:∀ w,(zeroValue (ρ.t 23)).run P w=.ok zv w) (Kb:zv.cells.size=k) (Ri:∀ n,∀ v ∈ (Builtin.zeroCells zv.cells n).toList,v.oneCell'=true)
  (b off n c i j:Nat) (cs:List Value) (w:World) (vz:cs.length=n*k) (pP:∀ t v,cs[t]?=some v->w.cell? ⟨b,off+t,none⟩=some v) (hfz:∀ t,t < n*k->w.frozen? ⟨b,off+t,none⟩=false) (h1c:∀ v ∈ cs,v.oneCell'=true)
  (oc:n<=c) (hm:c<=9223372036854775807) (sb:i < j) (hj:j<=n) :
  Calls P (ρ.f 45) #[.slice (some ⟨b,off,none⟩) n c,.int .i64 i,.int .i64 j] w λe w'=>e=.returned (.slice (some ⟨b,off,none⟩) (i+(n - j)) c) /\
   w'=(w.drew.setCells b (off+i*k) (cs.drop (j*k))).setCells b (off+(i+(n - j))*k) (Builtin.zeroCells zv.cells (n - (i+(n - j)))).toList:=by
 have mixed:=L.mixed;have t0:=L.t0;have a0:=L.a0;have z0:=L.z0;have v0:=L.v0;have t3:=L.t3;have a3:=L.a3;have z3:=L.z3;have v3:=L.v3;have t4:=L.t4;have a4:=L.a4;have z4:=L.z4;have v4:=L.v4;have t22:=L.t22;have a22:=L.a22;have z22:=L.z22;have v22:=L.v22
 have z23:∀ w,(Go.sizeOf (ρ.t 23)).run P w=.ok k w:=λw=>by simp[Go.sizeOf,typeInfo,Vm,hsk]
 have hjk:j*k<=n*k:=bD _ hj
 obtain ⟨news,MI⟩:∃ news,news=cs.drop (j*k):=⟨_,rfl⟩
 have hlen:news.length=(n - j)*k:=by rw[MI,cC,vz,Nat.sub_mul]
 obtain ⟨A,hA,ag1⟩:∃ A:Addr,(if c=j then some (⟨b,off,none⟩:Addr) else some ⟨b,off+j*k,none⟩)=some A/\Hid (∀ t u,news[t]?=some u->w.drew.cell? (A.add t)=some u):=by
  by_cases h:c=j
  ·refine ⟨⟨b,off,none⟩,by simp[h],λt u hu=>?_⟩
   have h0:news.length=0:=by rw[hlen,show n - j=0 by omega,Nat.zero_mul]
   rw[List.length_eq_zero_iff.1 h0] at hu;simp at hu
  ·refine ⟨⟨b,off+j*k,none⟩,by simp[h],λt u hu=>?_⟩
   rw[MI,bP] at hu;rw[Addr.add_lit,show off+j*k+t=off+(j*k+t) by omega];exact pP _ u hu
 have s1:Hid (news.length=(n - j)*k):=hlen
 have s2:Hid (∀ u ∈ news,u.oneCell'=true):=by
  intro u hu;rw[MI] at hu;exact h1c u (bZ hu)
 have JL:∀ t,t < n*k->(w.cell? ⟨b,off+t,none⟩).isSome=true:=λt ht=>by rw[pP t _ (aB Bys)];rfl
 have aiS:i*k+(n - j)*k<=n*k:=by rw[<-dC];exact bD _ Bys
 have s3:Hid (∀ t,t < news.length->(w.drew.cell? ⟨b,off+i*k+t,none⟩).isSome=true/\w.drew.frozen? ⟨b,off+i*k+t,none⟩=false):=by
  intro t ht;rw[hlen] at ht;rw[cW];exact ⟨JL _ Bys,hfz _ Bys⟩
 obtain ⟨W1,Zo⟩:∃ W1,W1=w.drew.setCells b (off+i*k) news:=⟨_,rfl⟩
 have hZ:(Builtin.zeroCells zv.cells (n - (i+(n - j)))).toList.length=(n - (i+(n - j)))*k:=by simp[Builtin.zeroCells,Kb]
 have hnk:(i+(n - j))*k+(n - (i+(n - j)))*k=n*k:=by rw[<-dC];congr 1;omega
 have ag2:∀ ty,(Builtin.clear_ #[ρ.t 22] ty #[.slice (some ⟨b,off+(i+(n - j))*k,none⟩) (n - (i+(n - j))) (c - (i+(n - j)))]).run P W1=.ok (.tuple #[]) (W1.setCells b (off+(i+(n - j))*k) (Builtin.zeroCells zv.cells (n - (i+(n - j)))).toList):=
  λty=>TZ W1 _ _ ty zv t22 hz b (off+(i+(n - j))*k) _ _ Bys (λt ht=>by
   rw[hZ] at ht;rw[Zo,cW]
   exact Qe b _ _ _ (λt ht=>by rw[hlen] at ht;rw[cW];exact JL _ Bys) _ (JL _ Bys)) (λt ht=>by rw[hZ] at ht;rw[Zo,World.frozen?_setCells,cW];exact hfz _ Bys) (Ri _)
 have hW:Hid (W1=w.drew.setCells b (off+i*k) news):=Zo;have i7:¬ (i:Int)=(j:Int):=by omega
 have hic:i<=c:=by omega
 have hjc:j<=c:=by omega
 have hcn:¬ c=i+(n - j):=by omega
 rw[<-MI,<- Zo]
 obtain ⟨Z,hZd⟩:∃ Z,Z=(Builtin.zeroCells zv.cells (n - (i+(n - j)))).toList:=⟨_,rfl⟩
 rw[<-hZd] at ag2 ⊢;clear Zo MI hlen JL pP hfz vz h1c hZ hZd Ri Kb;obtain ⟨_,_,FG⟩:=L.f45
 go_enter FG,SlBodyN.n45_ntmps ρ
 go_wp2_with fail
 go_region_law_o (refine step_append_room rfl (.tmp 22) (.tmp 25) (ρ.t 22) rfl (ρ.t 23) inf k t22 Vm hsk b off i c (by simp[Act.eval,Act.put]) A (n - j) (c - j) news (by simp[Act.eval,Act.put]) s1.out ag1.out s2.out Bys s3.out ?_;rw[<-hW.out])
 go_wp2
 go_ret
 exact ⟨rfl,rfl⟩
set_option maxHeartbeats 4000000 in
set_option maxRecDepth 1000000 in
theorem aba (L:SlLaysE0.n45 P ρ) (b:Option Addr) (n c i:Nat) (w:World) (gb:i<=n) (oc:n<=c) (hm:c<=9223372036854775807) (hb:∀ ad,b=some ad->ad.spot=none) (L_:b=none->c=0) (k:Nat) (z23:∀ w,(Go.sizeOf (ρ.t 23)).run P w=.ok k w) :
  Calls P (ρ.f 45) #[.slice b n c,.int .i64 i,.int .i64 i] w λe w'=>e=.returned (.slice b n c)/\w'=w:=by
 have mixed:=L.mixed;have t0:=L.t0;have a0:=L.a0;have z0:=L.z0;have v0:=L.v0;have t3:=L.t3;have a3:=L.a3;have z3:=L.z3;have v3:=L.v3;have t4:=L.t4;have a4:=L.a4;have z4:=L.z4;have v4:=L.v4;have t22:=L.t22;have a22:=L.a22;have z22:=L.z22;have v22:=L.v22
 have hic:i<=c:=by omega
 obtain ⟨_,_,FG⟩:=L.f45
 cases b with
 | none=>
  have h0:=L_ rfl;subst h0;have HA:n=0:=by omega
  subst HA;have Vm:i=0:=by omega
  subst Vm
  go_enter FG,SlBodyN.n45_ntmps ρ
  go_wp2
  all_goals (go_ret;exact ⟨rfl,rfl⟩)
 | some ad=>
  obtain ⟨b,off,sp⟩:=ad;have:=hb _ rfl;simp only at this;subst this
  go_enter FG,SlBodyN.n45_ntmps ρ
  go_wp2
  all_goals (go_ret;exact ⟨rfl,rfl⟩)
theorem ag3 (w:World) {e:Ty} {i:TypeId} (hl:bn P e (.inl i)=true) (hz:e.yf=true) {inf:TypeInfo} {zv:Value} (h1:P.info? i=some inf) (h2:inf.zero=some zv):∀ n,∀ v ∈ (Builtin.zeroCells zv.cells n).toList,v.oneCell'=true:=by
 obtain ⟨L,hL⟩:=vW e hz;obtain ⟨aiT,z',i1,i2,i3,i4,i5,i6⟩:=A4 (nI hl);rw[h1] at i1;injection i1 with i1;subst i1;rw[h2] at i4;injection i4 with i4;subst i4;have hc:=i6 L hL;obtain ⟨r1,_,_⟩:=Co (P:=P) (w:=w) (A:=λ_ _=>True) e hL hl;grind [am.one,Builtin.zeroCells,Nat.mod_lt]
theorem abb {w w':World} {A:Cells} {F0:FP} {e:Ty} {me:Md} {b cap:Nat} {vs:List e.den} {news:List Value} {Hi:Nat->FP} {F1:FP}
  (hw:Ext w w' (d8 b 0 (cap*e.sz))) (oc:cap<=maxLen) (jS:jR w' b (cap*e.sz,KO e)) (hlen:List.length vs<=cap) (yn:Has w' b 0 news)
  (uj:∀ (i:Nat) (y:e.den),vs[i]?=some y->am P w A e me [] y ((news.drop (i*e.sz)).take e.sz) (Hi i))
  (hF:∀ b' i,d8 b 0 (cap*e.sz) b' i+bh (List.length vs) Hi b' i<=F1 b' i) (hle:∀ b' i,F1 b' i<=F0 b' i) (h1:∀ b i,F0 b i<=1) (Ay:∀ b i,1<=F0 b i->¬ A b i) (La:∀ b i,1<=F0 b i\/A b i->b < w.heap.size) :
  am P w' A (.aa e) (.aa true me) [] vs [.slice (some ⟨b,0,none⟩) (List.length vs) cap] F1:=by
 simp only[am,hole,bU,aF,aU,ai,wU,Md.own,aL,Md.e];refine ⟨some ⟨b,0,none⟩,cap,rfl,hlen,oc,(λe=>by cases e),λad e2=>?_⟩
 injection e2 with e2;subst e2;refine ⟨rfl,rfl,jS,Hi,hF,λi y hy=>?_⟩
 have hr:=uj i y hy;have hi:=(aO.1 hy).1;refine ⟨_,am.length _ hr,λj u hu=>?_,?_⟩
 ·rw[cG] at hu;split at hu
  ·rw[bP] at hu;have:=yn _ u hu;grind
  ·cases hu
 ·simp only[eK];refine am.mono (P:=P) (λ_ _ h=>h) (λb' k ha u hu=>hw.cell b' k (La b' k (.inr ha)) ?_ u hu) hw.y0 e hr (λ_ _=>aG _) (λb' k hp u hu=>hw.cell b' k ?_ ?_ u hu)
  ·grind
  ·exact La b' k (.inl (by grind [dw]))
  grind [dw]
def N9 (e:Ty) (v:List e.den×Int×Int×Unit):Option (List e.den×Unit):=if 0<=v.2.1/\v.2.1<=v.2.2.1/\v.2.2.1<=(v.1.length:Int) then some (v.1.take v.2.1.toNat++v.1.drop v.2.2.1.toNat,()) else none
def acN (i j:Int) (k:Nat):Bool:=decide (i<=(k:Int))&&decide ((k:Int) < j)
def R8 (i j:Int):List Path->Bool
 | []=>true
 | [.idx k::_]=>acN i j k
 | _=>false
theorem WT {i j:Int} {H:List Path} (h:R8 i j H=true):hole H=false/\(j<=i->H=[])/\∀ t:Nat,((t:Int) < i\/j<=(t:Int))->H.filterMap (mp t)=[]:=by
 unfold R8 at h;split at h
 ·exact ⟨rfl,λ_=>rfl,λ_ _=>rfl⟩
 ·rename_i k q;simp only[acN,aC,bE] at h;refine ⟨rfl,λsb=>by omega,λt ht=>?_⟩
  grind [mp]
 ·cases h
theorem Zp (L:SlLaysE0.n45 P ρ) {e:Ty} {me:Md} (hl:bn P e (.inl (ρ.t 23))=true) (h1:1<=e.sz) (Kb:e.yf=true) (he:xO P (ρ.f 45) false) :
  Ok P (ρ.f 45) { ps:=[(.pN (.aa true me),.aa e),(.ro,.int .i64),(.ro,.int .i64)],rs:=[(.aa e,.aa true me)],F:=N9 e,Hv:=λv H=>R8 v.2.1 v.2.2.1 H }:=by
 refine ⟨?_,he⟩
 intro w A F0 v xs ny hle Ay La N8 out qW;obtain ⟨vs,i,j,⟨⟩⟩:=v;obtain ⟨x,U_,F1,F2,rfl,hF,⟨H,cs,hH,rfl,jL⟩,x2,xs2,F3,F4,rfl,Mx,⟨dO,rfl,hi⟩,x3,xs3,F5,F6,rfl,hF3,⟨Y4,rfl,hj⟩,EI⟩:=ny;have EI:xs3=[]:=EI;subst EI;have jL:am P w A (.aa e) (.aa true me) H vs cs F1:=jL;have hH:R8 i j H=true:=hH;obtain ⟨hH1,hH2,HY⟩:=WT hH;have hi:dO=[.int .i64 i]:=hi;have hj:Y4=[.int .i64 j]:=hj;subst hi;subst hj;have qW:N9 e (vs,i,j,())=some out:=qW;unfold N9 at qW;split at qW;rotate_left
 ·cases qW
 rename_i hb;obtain ⟨b1,b2,b3⟩:=hb;simp only at b1 b2 b3 qW;injection qW with qW;subst qW;obtain ⟨ni,rfl⟩:=dJ b1;obtain ⟨nj,rfl⟩:=dJ (iT b1 b2);simp only[aD];have sb:ni<=nj:=by omega
 have hjn:nj<=List.length vs:=by omega
 obtain ⟨inf,zv,i1,i2,i3,i4,i5,_⟩:=A4 (nI hl);have hz:∀ w,(zeroValue (ρ.t 23)).run P w=.ok zv w:=λw=>by simp[zeroValue,typeInfo,i1,i4]
 have z23:∀ w,(Go.sizeOf (ρ.t 23)).run P w=.ok e.sz w:=λw=>by simp[Go.sizeOf,typeInfo,i1,i2]
 obtain ⟨xa,cap,sP,Fi,r1,r2,r3,r4,r5,r6,r7,r8⟩:=Ms hH1 (v:=vs) jL;obtain ⟨c1,c2,c3,c4⟩:=r8 rfl;subst r1;have K1:cap<=9223372036854775807:=by grind [maxLen]
 have hx:(dj (.aa e) [.slice xa (List.length vs) cap]::[dj (.int .i64) [.int .i64 (ni:Int)],dj (.int .i64) [.int .i64 (nj:Int)]]).toArray=#[.slice xa (List.length vs) cap,.int .i64 ni,.int .i64 nj]:=rfl;show Calls P (ρ.f 45) (dj (.aa e) [.slice xa (List.length vs) cap]::[dj (.int .i64) [.int .i64 (ni:Int)],dj (.int .i64) [.int .i64 (nj:Int)]]).toArray w _;rw[hx]
 have Ir:∀ (w':World) (rv:Value),Ext w w' F0->(∃ cs,rv=dj (.aa e) cs/\am P w' A (.aa e) (.aa true me) [] (vs.take ni++vs.drop nj) cs F1) ->
   ∃ Zi,Ending.returned rv=.returned Zi/\Ext w w' F0/\∃ (A':Cells) (G GR GM:FP),(∀ b i,A b i->A' b i)/\(∀ b i,A' b i->A b i\/1<=F0 b i\/w.heap.size<=b)/\(∀ b i,1<=G b i->1<=F0 b i\/w.heap.size<=b)/\(∀ b i,G b i<=1)/\(∀ b i,1<=G b i->¬ A' b i)/\(∀ b i,1<=G b i\/A' b i->b < w'.heap.size)/\(∀ b i,GR b i+GM b i<=G b i) /\
   pz P w' A' [⟨.aa e,.aa true me,vs.take ni++vs.drop nj⟩] Zi GR/\qo P w' A' [(.pN (.aa true me),.aa e),(.ro,.int .i64),(.ro,.int .i64)] () [dj (.aa e) [.slice xa (List.length vs) cap],dj (.int .i64) [.int .i64 (ni:Int)],dj (.int .i64) [.int .i64 (nj:Int)]] GM:=λw' rv fq hr=>
  ⟨_,rfl,fq,A,F0,F1,λ_ _=>0,λ_ _ h=>h,λ_ _ h=>.inl h,λ_ _ h=>.inl h,hle,Ay,λb i h=>dA (La b i h) fq.size,λb i=>by grind,hr,trivial⟩
 by_cases heq:ni=nj
 ·subst heq;refine (aba L xa (List.length vs) cap ni w hjn c1 K1 (λad lI=>(c4 ad lI).2.1) c3 e.sz z23).mono ?_;rintro ex w' ⟨rfl,rfl⟩;refine Ir _ _ (Ext.refl _ _) ⟨_,(ep _ _ rfl).symm,?_⟩;grind [List.take_append_drop]
 ·cases xa with
  | none=>grind
  | some ad=>
   obtain ⟨q1,q2,q3,q4⟩:=c4 ad rfl;obtain ⟨_,d5⟩:=r3 ad rfl;obtain ⟨b,off,sp⟩:=ad;simp only at q1 q2 q3 q4 d5;subst q1;subst q2;have aiU:List.length vs*e.sz<=cap*e.sz:=bD _ c1
   have uu:∀ t,t < cap*e.sz->(w.cell? ⟨b,t,none⟩).isSome=true:=λt ht=>by
    obtain ⟨c,e',fr,w1,w2,w3⟩:=q3;grind [World.cell?]
   have WS:=Zn L e.sz inf zv i1 i2 hz i5 (ag3 w hl Kb i1 i4) b 0 (List.length vs) cap ni nj sP w r4 (λt u hu=>wO (d5 t u hu) (r5 u (bT hu))) (λt ht=>by rw[bS];exact q3.frozen (by grind)) r5 c1 K1 Bys hjn;refine WS.mono ?_;rintro ex w' ⟨rfl,hw⟩;simp only[bS] at hw;have AC:List.length (vs.take ni++vs.drop nj)=ni+(List.length vs - nj):=by simp;omega
   have m1:ni*e.sz+(List.length vs - nj)*e.sz=(ni+(List.length vs - nj))*e.sz:=by rw[dC]
   have m2:(ni+(List.length vs - nj))*e.sz<=List.length vs*e.sz:=bD _ Bys;have m3:(sP.drop (nj*e.sz)).length=(List.length vs - nj)*e.sz:=by grind [Nat.sub_mul]
   have hZ:(Builtin.zeroCells zv.cells (List.length vs - (ni+(List.length vs - nj)))).toList.length=(List.length vs - (ni+(List.length vs - nj)))*e.sz:=by simp[Builtin.zeroCells,i5]
   have m4:(ni+(List.length vs - nj))*e.sz+(List.length vs - (ni+(List.length vs - nj)))*e.sz=List.length vs*e.sz:=by rw[<-dC];congr 1;omega
   have x1:=qU (b:=b) (o:=ni*e.sz) (sP.drop (nj*e.sz)) w.drew (ni*e.sz);have x2:=qU (b:=b) (o:=(ni+(List.length vs - nj))*e.sz) (Builtin.zeroCells zv.cells (List.length vs - (ni+(List.length vs - nj)))).toList (w.drew.setCells b (ni*e.sz) (sP.drop (nj*e.sz))) ((ni+(List.length vs - nj))*e.sz)
   have By:∀ b' t,d8 b 0 (cap*e.sz) b' t=0->d8 b (ni*e.sz) (sP.drop (nj*e.sz)).length b' t=0:=λb' t h0=>by
    simp only[d8] at h0 ⊢;split at h0
    ·cases h0
    grind
   have yk:∀ b' t,d8 b 0 (cap*e.sz) b' t=0->d8 b ((ni+(List.length vs - nj))*e.sz) (Builtin.zeroCells zv.cells (List.length vs - (ni+(List.length vs - nj)))).toList.length b' t=0:=λb' t h0=>by
    simp only[d8] at h0 ⊢;split at h0
    ·cases h0
    grind
   have fq:Ext w w' (d8 b 0 (cap*e.sz)):=by
    rw[hw];exact (((KW w).mono (λ_ _ _=>rfl)).trans (x1.mono By) (λ_ _ _ h=>h)).trans (x2.mono yk) (λ_ _ _ h=>h)
   refine Ir w' _ (fq.mono λb' t h0=>by grind) ⟨[.slice (some ⟨b,0,none⟩) (ni+(List.length vs - nj)) cap],(ep _ _ rfl).symm,?_⟩;rw[<-AC];refine abb (news:=sP.take (ni*e.sz)++sP.drop (nj*e.sz)) (Hi:=λt=>if t < ni then Fi t else Fi (nj+(t - ni))) (F0:=F0) fq c2 (fq.y0 _ _ q3) (by grind) ?_ ?_ (λb' t=>?_) (λb' t=>by grind) hle Ay La
   ·intro t u hu;rw[bS];have zd:(sP.take (ni*e.sz)).length=ni*e.sz:=by rw[dG,r4];omega
    rw[hw]
    have aaK:t < (ni+(List.length vs - nj))*e.sz:=by
     grind
    refine x2.cell b t ?_ ?_ u ?_
    ·have:=x1.size;have hb:=q3.lt;exact dA hb x1.size
    ·grind [d8]
    ·by_cases ht:t < ni*e.sz
     ·rw[cT Bys,cG,aH ht] at hu;refine x1.cell b t q3.lt ?_ u ?_
      ·grind [d8]
      ·have:=d5 t u hu;rw[bS] at this;exact this
     ·rw[eX Bys,zd] at hu;have:=zG (w:=w.drew) (b:=b) (o:=ni*e.sz) (L:=sP.drop (nj*e.sz)) (λk hk=>by rw[m3] at hk;exact uu _ Bys) (λu hu=>r5 u (bZ hu)) _ u hu;rw[show ni*e.sz+(t - ni*e.sz)=t by omega] at this;exact this
   ·have zd:(sP.take (ni*e.sz)).length=(vs.take ni).length*e.sz:=by grind [Nat.mul_le_mul_right]
    have hr:=KX (P:=P) (w:=w) (A:=A) (e:=e) (me:=me) (v:=vs.take ni) (y:=vs.drop nj) (Fi:=Fi) (Gi:=λt=>Fi (nj+t)) zd (λt z hz=>by
      rw[cG] at hz;split at hz
      ·rename_i ht;have:=r6 t z hz;rw[HY t (.inl Bys)] at this;have h6:t*e.sz+e.sz<=ni*e.sz:=by rw[<-eP];exact bD _ Bys
       rw[fE,fF,jB Bys];exact this
      ·cases hz) (λt z hz=>by
      rw[bP] at hz;have:=r6 (nj+t) z hz;rw[HY (nj+t) (.inr Bys)] at this;rw[dF,<- dC]
      exact this)
    grind
   ·rw[AC];have s1:=Rp ni (List.length vs - nj) Fi (λt=>Fi (nj+t)) b' t;have s2:=xi nj (List.length vs - nj) Fi b' t;have s3:=OM (List.length vs) Fi 0 ni Bys b' t;have s4:=xi ni (nj - ni) Fi b' t;rw[show ni+(nj - ni)=nj by omega] at s4;rw[show nj+(List.length vs - nj)=List.length vs by omega] at s2;grind
end
end OT
set_option maxRecDepth 100000
namespace OT
open Go Go.Proofs.Tryz
abbrev Row:Type:=(Int×Int×Int×(List UInt8)×Unit)
abbrev ay:Ty:=(bq [i64,i64,i64,.str])
abbrev Op:Type:=(Int×Int×Row×Int×Unit)
abbrev l7:Ty:=(bq [i64,i64,ay,i64])
abbrev Change:Type:=(Bool×Row×Bool×Row×Unit)
abbrev au:Ty:=(bq [.bool,ay,.bool,ay])
abbrev Key:Type:=(Int×Int×Unit)
abbrev bk:Ty:=(bq [i64,i64])
abbrev Tx:Type:=(Int×(List Change)×(List Int)×(List Key)×Unit)
abbrev bm:Ty:=(bq [i64,(.aa au),(.aa i64),(.aa bk)])
abbrev Cs:Type:=(Int×(List Row)×Unit)
abbrev yy:Ty:=(bq [i64,(.aa ay)])
abbrev Plain:Type:=((List Row)×(List Tx)×Int×Unit)
abbrev kE:Ty:=(bq [(.aa ay),(.aa bm),i64])
abbrev Log:Type:=((List UInt8)×(List UInt8)×Unit)
abbrev ma:Ty:=(bq [(.aa u8),(.aa u8)])
abbrev cv:Type:=(Int×(List UInt8)×Unit)
abbrev qX:Ty:=(bq [i64,(.aa u8)])
abbrev bz:Type:=(Int×Int×Int×(List cv)×Unit)
abbrev jW:Ty:=(bq [i64,i64,i64,(.aa qX)])
abbrev uw:Type:=(Int×Int×Int×Int×Row×Unit)
abbrev tw:Ty:=(bq [i64,i64,i64,i64,ay])
abbrev Seen:Type:=(Row×Int×Int×Bool×Int×Int×Unit)
abbrev ij:Ty:=(bq [ay,i64,i64,.bool,i64,i64])
abbrev aw:Type:=(Bool×(List (List UInt8))×Log×(List Tx)×Int×Unit)
abbrev e_:Ty:=(bq [.bool,(.aa (.aa u8)),ma,(.aa bm),i64])
abbrev b_:Type:=(Int×Bool×Change×Unit)
abbrev fb:Ty:=(bq [i64,.bool,au])
abbrev Is:Type:=(Int×(List Tx)×Unit)
abbrev Gy:Ty:=(bq [i64,(.aa bm)])
abbrev kf:Type:=((List (List UInt8))×(List cv)×Unit)
abbrev ft:Ty:=(bq [(.aa (.aa u8)),(.aa qX)])
abbrev ek:Type:=(Int×(List cv)×(List (List UInt8))×Unit)
abbrev et:Ty:=(bq [i64,(.aa qX),(.aa (.aa u8))])
abbrev zQ:Type:=(Int×Int×(List UInt8)×Unit)
abbrev mJ:Ty:=(bq [i64,i64,(.aa u8)])
abbrev pc:Type:=(Int×Int×aw×Unit)
abbrev lJ:Ty:=(bq [i64,i64,e_])
abbrev fi:Type:=(Int×(List Int)×(List Int)×aw×Unit)
abbrev qp:Ty:=(bq [i64,(.aa i64),(.aa i64),e_])
abbrev fl:Type:=((List UInt8)×Int×Unit)
abbrev kZ:Ty:=(bq [(.aa u8),i64])
abbrev pe:Type:=(Int×Int×Plain×Unit)
abbrev k_:Ty:=(bq [i64,i64,kE])
abbrev iu:Type:=(Int×(List Int)×(List Int)×Plain×Unit)
abbrev qY:Ty:=(bq [i64,(.aa i64),(.aa i64),kE])
abbrev bd:Type:=(Int×Int×uw×Unit)
abbrev ls:Ty:=(bq [i64,i64,tw])
abbrev aeO:Type:=(Int×Int×bz×Unit)
abbrev ad_:Ty:=(bq [i64,i64,jW])
abbrev Buffer:Type:=(Int×(List Change)×Unit)
abbrev adA:Ty:=(bq [i64,(.aa au)])
abbrev WU:Type:=((List (List UInt8))×(List Buffer)×Unit)
abbrev R9:Ty:=(bq [(.aa (.aa u8)),(.aa adA)])
abbrev afM:Type:=(Int×Bool×Bool×Int×(List Change)×WU×Unit)
abbrev aeP:Ty:=(bq [i64,.bool,.bool,i64,(.aa au),R9])
abbrev Pd:Type:=(WU×Int×WU×Int×Unit)
abbrev MJ:Ty:=(bq [R9,i64,R9,i64])
abbrev aeQ:Type:=(Int×Int×(List Change)×Unit)
abbrev acO:Ty:=(bq [i64,i64,(.aa au)])
abbrev acP:Type:=(Int×Bool×aeQ×Pd×Unit)
abbrev abc:Ty:=(bq [i64,.bool,acO,MJ])
abbrev af5:Type:=(Int×(List aeQ)×Pd×Unit)
abbrev afN:Ty:=(bq [i64,(.aa acO),MJ])
abbrev aea:Type:=(Int×Int×(List bz)×Unit)
abbrev adB:Ty:=(bq [i64,i64,(.aa jW)])
abbrev qF:Type:=cv
abbrev aiz:Ty:=qX
abbrev ca:Type:=kf
abbrev aiq:Ty:=ft
noncomputable def ba:TL:=[(2,i64),(22,(.aa u8)),(41,ay),(30,(.aa bm)),(112,bm),(27,(.aa (.aa u8))),(5,u8),(45,(.aa ay)),(4,.bool),(89,au),(3,i64),(109,(.aa au)),(43,l7),(26,(.aa i64)),(29,ma),(32,e_),(9,.str),(178,bk),(110,(.aa bk)),(148,jW),(47,kE),(91,fb),(190,tw),(83,et),(146,(.aa qX)),(56,k_),(162,qX),(24,(.aa l7)),(37,lJ),(192,ls),(387,mJ),(81,(.aa qX)),(200,ij),(345,ft),(379,ft),(239,qX),(115,(.aa ij)),(170,(.map bk .bool)),(186,(.aa ls)),(34,qp),(49,qY),(73,yy),(76,(.aa jW)),(86,(.aa .str)),(139,Gy),(207,kZ),(266,(.arr 64 .bool)),(267,(.int .u64)),(268,(.map (.arr 2 i64) ay)),(269,(.arr 2 i64)),(271,(.map (.arr 2 i64) .bool))]
theorem ap:(WP prog ba&&Qs prog ba)=true:=by kernel_rfl
noncomputable section
noncomputable abbrev Byy:Md:=.pair .leaf (.pair (.aa false (.pair .leaf (.pair (.pair .leaf (.pair .leaf (.pair .leaf (.pair .leaf .leaf)))) (.pair .leaf (.pair (.pair .leaf (.pair .leaf (.pair .leaf (.pair .leaf .leaf)))) .leaf))))) (.pair (.aa false .leaf) (.pair (.aa false (.pair .leaf (.pair .leaf .leaf))) .leaf)))
noncomputable abbrev Byb:Md:=.pair (ah .bool) (.pair (ai (.aa (.aa u8))) (.pair (ah ma) (.pair (.aa true (.pair (ah i64) (.pair (ah (.aa au)) (ai (bq [(.aa i64),(.aa bk)]))))) (ah (bq [i64])))))
noncomputable abbrev Byc:Md:=.aa false (.pair .leaf (.pair .leaf (.pair .leaf (.pair .leaf .leaf))))
noncomputable abbrev Byd:Md:=.pair .leaf (.pair (.aa false (.aa false .leaf)) (.pair (.pair (.aa false .leaf) (.pair (.aa false .leaf) .leaf)) (.pair (.aa false Byy) (.pair .leaf .leaf))))
noncomputable abbrev Btt:Md:=.pair (ah i64) (.pair (ah (.aa au)) (ai (bq [(.aa i64),(.aa bk)])))
noncomputable abbrev Bte:Md:=.pair Byc (.pair (.aa false Byy) (.pair .leaf .leaf))
noncomputable abbrev Bts:Md:=.pair (ah (.aa ay)) (.pair (.aa true (ah bm)) (ah (bq [i64])))
noncomputable abbrev Bt8:Md:=.pair .leaf (.pair (.aa true .leaf) (.pair (.aa true .leaf) (.pair Byd .leaf)))
noncomputable abbrev Bty:Md:=.pair .leaf (.pair (.aa true .leaf) (.pair (.aa true .leaf) (.pair Bte .leaf)))
noncomputable abbrev Btb:Md:=.pair (ah i64) (.pair (ai (.aa i64)) (.pair (ai (.aa i64)) (ah (bq [e_]))))
noncomputable abbrev Btc:Md:=.pair (ah i64) (.pair (ai (.aa i64)) (.pair (ai (.aa i64)) (ah (bq [kE]))))
variable (k:Nat)
namespace xS
abbrev A:=Byt×Unit
abbrev O:=Bool×Unit
noncomputable def D:FD:={ fn:=f7,tl:=ba,ps:=[(.ro,(.aa u8))],rs:=[(.bool,(ah .bool))] }
def ab (a:A):Option O:=@lift O λk=>D.W k a
def p (a1:A):Option O:=some (decide (1048576 < (a1.1.length:Int)),())
theorem af (a1:A):@Eq (Option O) (D.W k a1) (p a1):=Bye
theorem ok:Ok prog 7 D.sig:=al func7 ap Bye (aj _)
end xS
namespace kS
abbrev A:=Byt×Int×Int×Unit
abbrev O:=Int×Unit
noncomputable def D:FD:={ fn:=f35,tl:=ba,ps:=[(.ro,(.aa u8)),(.ro,i64),(.ro,i64)],rs:=[(i64,(ah i64))],od:=[(6,[0,1,2,3,4,5,6,7,8,9,10,11,12])] }
def ab (a:A):Option O:=@lift O λk=>D.W k a
def p (a1:A):Option O:=cond (decide (a1.2.2.1<=1)) (some (0,()))<|cond (decide ((a1.1.length:Int)=0)) (if a1.2.2.1=0 then none else some ((ae (a1.2.1*7)).tmod a1.2.2.1,()))<|if (a1.1.length:Int)=0 then none else if 0<=a1.2.1.tmod (a1.1.length:Int) then ((a1.1[(a1.2.1.tmod (a1.1.length:Int)).toNat]?).bind λx2=>if (a1.1.length:Int)=0 then none else let j5:=λ(p4:Int)=>(if a1.2.2.1=0 then none else some (p4.tmod a1.2.2.1,()):Option O);cond (decide (200 < a1.2.2.1)) (if (a1.1.length:Int)=0 then none else if 0<=(ae (a1.2.1+1)).tmod (a1.1.length:Int) then ((a1.1[((ae (a1.2.1+(1:Int))).tmod (a1.1.length:Int)).toNat]?).bind λx3=>j5 (ae ((ae ((ae ((ae (x2.toNat:Int))+(ae ((ae (a1.2.1.tdiv (a1.1.length:Int)))*3))))*251))+(ae (x3.toNat:Int))))) else none)<|j5 (ae ((ae (x2.toNat:Int))+(ae ((ae (a1.2.1.tdiv (a1.1.length:Int)))*3))))) else none
theorem af (a1:A):@Eq (Option O) (D.W k a1) (p a1):=Bye
theorem ok:Ok prog 35 D.sig:=al func35 ap Bye (aj _)
end kS
namespace lR
abbrev A:=Byt×Int×Unit
abbrev O:=(List Op)×Unit
abbrev P:=Option O
noncomputable def D:FD:={ fn:=f8,tl:=ba,ps:=[(.ro,(.aa u8)),(.ro,i64)],rs:=[((.aa l7),(ai (.aa l7)))],gl:=[(35,kS.D.sig)],lv:=[(3,[0,1,5,6])],lx:=[(0,[5])] }
def ab (a:A):P:=@lift O λk=>D.W k a
variable (a1:A)
def T0 (U:(List Op)×Int):St:={ n:=122,sl:=[(0,.val (.aa u8) a1.1),(1,.val i64 a1.2.1),(5,.own (.aa l7) (ai (.aa l7)) [] U.1),(6,.val i64 U.2)],vr:=[],az:=[] }
def b0 (self:((List Op)×Int)->P) (e0:(List Op)->P) (a1:A) (U:(List Op)×Int):P:=cond (decide (U.2 < a1.2.1)) ((kS.ab (a1.1,U.2,3,())).bind λci=>(kS.ab (a1.1,ae (U.2+20),2,())).bind λbr=>(kS.ab (a1.1,ae (U.2+40),4,())).bind λfu=>(kS.ab (a1.1,ae (U.2+60),9,())).bind λfw=>(kS.ab (a1.1,ae (U.2+80),3,())).bind λmK=>if 0<=mK.1/\mK.1 < ([([]:Byt),([97,98,99]:Byt),([97,98,99,100,101,102,103,104]:Byt)].length:Int) then (([([]:Byt),([97,98,99]:Byt),([97,98,99,100,101,102,103,104]:Byt)][mK.1.toNat]?).bind λpR=>(kS.ab (a1.1,ae (U.2+100),12,())).bind λge=>cond (decide (ge.1=0)) (cond (decide (ge.1=0)) (if U.1.length+[((2:Int),ae ((2:Int)+ci.1),(ae ((1:Int)+br.1),ae ((1:Int)+fu.1),fw.1,pR,()),(0:Int),())].length<=be then (let ag4:=U.1++[((2:Int),ae ((2:Int)+ci.1),(ae ((1:Int)+br.1),ae ((1:Int)+fu.1),fw.1,pR,()),(0:Int),())];self (ag4,ae (U.2+1))) else none)<|cond (decide (ge.1=3)) (cond (decide (ge.1=3)) (if U.1.length+[((3:Int),ae ((2:Int)+ci.1),(ae ((1:Int)+br.1),ae ((1:Int)+fu.1),fw.1,pR,()),(0:Int),())].length<=be then (let R_:=U.1++[((3:Int),ae ((2:Int)+ci.1),(ae ((1:Int)+br.1),ae ((1:Int)+fu.1),fw.1,pR,()),(0:Int),())];self (R_,ae (U.2+1))) else none)<|cond (decide (ge.1=6)) (if U.1.length+[((4:Int),ae ((2:Int)+ci.1),(ae ((1:Int)+br.1),ae ((1:Int)+fu.1),(0:Int),([]:Byt),()),(0:Int),())].length<=be then (let ag5:=U.1++[((4:Int),ae ((2:Int)+ci.1),(ae ((1:Int)+br.1),ae ((1:Int)+fu.1),(0:Int),([]:Byt),()),(0:Int),())];self (ag5,ae (U.2+1))) else none)<|cond (decide (ge.1=7)) (if U.1.length+[((5:Int),ae ((2:Int)+ci.1),((0:Int),(0:Int),(0:Int),([]:Byt),()),(0:Int),())].length<=be then (let abd:=U.1++[((5:Int),ae ((2:Int)+ci.1),((0:Int),(0:Int),(0:Int),([]:Byt),()),(0:Int),())];self (abd,ae (U.2+1))) else none)<|cond (decide (ge.1=8)) ((kS.ab (a1.1,ae (U.2+120),2,())).bind λzR=>if U.1.length+[((6:Int),ae ((2:Int)+ci.1),((0:Int),(0:Int),(0:Int),([]:Byt),()),zR.1,())].length<=be then (let abe:=U.1++[((6:Int),ae ((2:Int)+ci.1),((0:Int),(0:Int),(0:Int),([]:Byt),()),zR.1,())];self (abe,ae (U.2+1))) else none)<|cond (decide (ge.1=9)) (if U.1.length+[((7:Int),ae ((2:Int)+ci.1),((0:Int),(0:Int),(0:Int),([]:Byt),()),(0:Int),())].length<=be then (let ag6:=U.1++[((7:Int),ae ((2:Int)+ci.1),((0:Int),(0:Int),(0:Int),([]:Byt),()),(0:Int),())];self (ag6,ae (U.2+1))) else none)<|cond (decide (ge.1=10)) (if U.1.length+[((8:Int),ae ((2:Int)+ci.1),((0:Int),(0:Int),(0:Int),([]:Byt),()),(0:Int),())].length<=be then (let abf:=U.1++[((8:Int),ae ((2:Int)+ci.1),((0:Int),(0:Int),(0:Int),([]:Byt),()),(0:Int),())];self (abf,ae (U.2+1))) else none)<|if U.1.length+[((1:Int),(0:Int),((0:Int),(0:Int),(0:Int),([]:Byt),()),(0:Int),())].length<=be then (let ag7:=U.1++[((1:Int),(0:Int),((0:Int),(0:Int),(0:Int),([]:Byt),()),(0:Int),())];self (ag7,ae (U.2+1))) else none)<|cond (decide (ge.1=4)) (cond (decide (ge.1=4)) (if U.1.length+[((3:Int),ae ((2:Int)+ci.1),(ae ((1:Int)+br.1),ae ((1:Int)+fu.1),fw.1,pR,()),(0:Int),())].length<=be then (let abg:=U.1++[((3:Int),ae ((2:Int)+ci.1),(ae ((1:Int)+br.1),ae ((1:Int)+fu.1),fw.1,pR,()),(0:Int),())];self (abg,ae (U.2+1))) else none)<|cond (decide (ge.1=6)) (if U.1.length+[((4:Int),ae ((2:Int)+ci.1),(ae ((1:Int)+br.1),ae ((1:Int)+fu.1),(0:Int),([]:Byt),()),(0:Int),())].length<=be then (let ag8:=U.1++[((4:Int),ae ((2:Int)+ci.1),(ae ((1:Int)+br.1),ae ((1:Int)+fu.1),(0:Int),([]:Byt),()),(0:Int),())];self (ag8,ae (U.2+1))) else none)<|cond (decide (ge.1=7)) (if U.1.length+[((5:Int),ae ((2:Int)+ci.1),((0:Int),(0:Int),(0:Int),([]:Byt),()),(0:Int),())].length<=be then (let Gz:=U.1++[((5:Int),ae ((2:Int)+ci.1),((0:Int),(0:Int),(0:Int),([]:Byt),()),(0:Int),())];self (Gz,ae (U.2+1))) else none)<|cond (decide (ge.1=8)) ((kS.ab (a1.1,ae (U.2+120),2,())).bind λWV=>if U.1.length+[((6:Int),ae ((2:Int)+ci.1),((0:Int),(0:Int),(0:Int),([]:Byt),()),WV.1,())].length<=be then (let Sa:=U.1++[((6:Int),ae ((2:Int)+ci.1),((0:Int),(0:Int),(0:Int),([]:Byt),()),WV.1,())];self (Sa,ae (U.2+1))) else none)<|cond (decide (ge.1=9)) (if U.1.length+[((7:Int),ae ((2:Int)+ci.1),((0:Int),(0:Int),(0:Int),([]:Byt),()),(0:Int),())].length<=be then (let ag9:=U.1++[((7:Int),ae ((2:Int)+ci.1),((0:Int),(0:Int),(0:Int),([]:Byt),()),(0:Int),())];self (ag9,ae (U.2+1))) else none)<|cond (decide (ge.1=10)) (if U.1.length+[((8:Int),ae ((2:Int)+ci.1),((0:Int),(0:Int),(0:Int),([]:Byt),()),(0:Int),())].length<=be then (let ag_:=U.1++[((8:Int),ae ((2:Int)+ci.1),((0:Int),(0:Int),(0:Int),([]:Byt),()),(0:Int),())];self (ag_,ae (U.2+1))) else none)<|if U.1.length+[((1:Int),(0:Int),((0:Int),(0:Int),(0:Int),([]:Byt),()),(0:Int),())].length<=be then (let aha:=U.1++[((1:Int),(0:Int),((0:Int),(0:Int),(0:Int),([]:Byt),()),(0:Int),())];self (aha,ae (U.2+1))) else none)<|cond (decide (ge.1=5)) (if U.1.length+[((3:Int),ae ((2:Int)+ci.1),(ae ((1:Int)+br.1),ae ((1:Int)+fu.1),fw.1,pR,()),(0:Int),())].length<=be then (let ahb:=U.1++[((3:Int),ae ((2:Int)+ci.1),(ae ((1:Int)+br.1),ae ((1:Int)+fu.1),fw.1,pR,()),(0:Int),())];self (ahb,ae (U.2+1))) else none)<|cond (decide (ge.1=6)) (if U.1.length+[((4:Int),ae ((2:Int)+ci.1),(ae ((1:Int)+br.1),ae ((1:Int)+fu.1),(0:Int),([]:Byt),()),(0:Int),())].length<=be then (let ahc:=U.1++[((4:Int),ae ((2:Int)+ci.1),(ae ((1:Int)+br.1),ae ((1:Int)+fu.1),(0:Int),([]:Byt),()),(0:Int),())];self (ahc,ae (U.2+1))) else none)<|cond (decide (ge.1=7)) (if U.1.length+[((5:Int),ae ((2:Int)+ci.1),((0:Int),(0:Int),(0:Int),([]:Byt),()),(0:Int),())].length<=be then (let ahd:=U.1++[((5:Int),ae ((2:Int)+ci.1),((0:Int),(0:Int),(0:Int),([]:Byt),()),(0:Int),())];self (ahd,ae (U.2+1))) else none)<|cond (decide (ge.1=8)) ((kS.ab (a1.1,ae (U.2+120),2,())).bind λaeR=>if U.1.length+[((6:Int),ae ((2:Int)+ci.1),((0:Int),(0:Int),(0:Int),([]:Byt),()),aeR.1,())].length<=be then (let ahe:=U.1++[((6:Int),ae ((2:Int)+ci.1),((0:Int),(0:Int),(0:Int),([]:Byt),()),aeR.1,())];self (ahe,ae (U.2+1))) else none)<|cond (decide (ge.1=9)) (if U.1.length+[((7:Int),ae ((2:Int)+ci.1),((0:Int),(0:Int),(0:Int),([]:Byt),()),(0:Int),())].length<=be then (let ahf:=U.1++[((7:Int),ae ((2:Int)+ci.1),((0:Int),(0:Int),(0:Int),([]:Byt),()),(0:Int),())];self (ahf,ae (U.2+1))) else none)<|cond (decide (ge.1=10)) (if U.1.length+[((8:Int),ae ((2:Int)+ci.1),((0:Int),(0:Int),(0:Int),([]:Byt),()),(0:Int),())].length<=be then (let ahg:=U.1++[((8:Int),ae ((2:Int)+ci.1),((0:Int),(0:Int),(0:Int),([]:Byt),()),(0:Int),())];self (ahg,ae (U.2+1))) else none)<|if U.1.length+[((1:Int),(0:Int),((0:Int),(0:Int),(0:Int),([]:Byt),()),(0:Int),())].length<=be then (let ahh:=U.1++[((1:Int),(0:Int),((0:Int),(0:Int),(0:Int),([]:Byt),()),(0:Int),())];self (ahh,ae (U.2+1))) else none)<|cond (decide (ge.1=1)) (cond (decide (ge.1=1)) (if U.1.length+[((2:Int),ae ((2:Int)+ci.1),(ae ((1:Int)+br.1),ae ((1:Int)+fu.1),fw.1,pR,()),(0:Int),())].length<=be then (let ahi:=U.1++[((2:Int),ae ((2:Int)+ci.1),(ae ((1:Int)+br.1),ae ((1:Int)+fu.1),fw.1,pR,()),(0:Int),())];self (ahi,ae (U.2+1))) else none)<|cond (decide (ge.1=3)) (cond (decide (ge.1=3)) (if U.1.length+[((3:Int),ae ((2:Int)+ci.1),(ae ((1:Int)+br.1),ae ((1:Int)+fu.1),fw.1,pR,()),(0:Int),())].length<=be then (let ahj:=U.1++[((3:Int),ae ((2:Int)+ci.1),(ae ((1:Int)+br.1),ae ((1:Int)+fu.1),fw.1,pR,()),(0:Int),())];self (ahj,ae (U.2+1))) else none)<|cond (decide (ge.1=6)) (if U.1.length+[((4:Int),ae ((2:Int)+ci.1),(ae ((1:Int)+br.1),ae ((1:Int)+fu.1),(0:Int),([]:Byt),()),(0:Int),())].length<=be then (let ahk:=U.1++[((4:Int),ae ((2:Int)+ci.1),(ae ((1:Int)+br.1),ae ((1:Int)+fu.1),(0:Int),([]:Byt),()),(0:Int),())];self (ahk,ae (U.2+1))) else none)<|cond (decide (ge.1=7)) (if U.1.length+[((5:Int),ae ((2:Int)+ci.1),((0:Int),(0:Int),(0:Int),([]:Byt),()),(0:Int),())].length<=be then (let ahl:=U.1++[((5:Int),ae ((2:Int)+ci.1),((0:Int),(0:Int),(0:Int),([]:Byt),()),(0:Int),())];self (ahl,ae (U.2+1))) else none)<|cond (decide (ge.1=8)) ((kS.ab (a1.1,ae (U.2+120),2,())).bind λaeS=>if U.1.length+[((6:Int),ae ((2:Int)+ci.1),((0:Int),(0:Int),(0:Int),([]:Byt),()),aeS.1,())].length<=be then (let ahm:=U.1++[((6:Int),ae ((2:Int)+ci.1),((0:Int),(0:Int),(0:Int),([]:Byt),()),aeS.1,())];self (ahm,ae (U.2+1))) else none)<|cond (decide (ge.1=9)) (if U.1.length+[((7:Int),ae ((2:Int)+ci.1),((0:Int),(0:Int),(0:Int),([]:Byt),()),(0:Int),())].length<=be then (let ahn:=U.1++[((7:Int),ae ((2:Int)+ci.1),((0:Int),(0:Int),(0:Int),([]:Byt),()),(0:Int),())];self (ahn,ae (U.2+1))) else none)<|cond (decide (ge.1=10)) (if U.1.length+[((8:Int),ae ((2:Int)+ci.1),((0:Int),(0:Int),(0:Int),([]:Byt),()),(0:Int),())].length<=be then (let aho:=U.1++[((8:Int),ae ((2:Int)+ci.1),((0:Int),(0:Int),(0:Int),([]:Byt),()),(0:Int),())];self (aho,ae (U.2+1))) else none)<|if U.1.length+[((1:Int),(0:Int),((0:Int),(0:Int),(0:Int),([]:Byt),()),(0:Int),())].length<=be then (let ahp:=U.1++[((1:Int),(0:Int),((0:Int),(0:Int),(0:Int),([]:Byt),()),(0:Int),())];self (ahp,ae (U.2+1))) else none)<|cond (decide (ge.1=4)) (cond (decide (ge.1=4)) (if U.1.length+[((3:Int),ae ((2:Int)+ci.1),(ae ((1:Int)+br.1),ae ((1:Int)+fu.1),fw.1,pR,()),(0:Int),())].length<=be then (let ahq:=U.1++[((3:Int),ae ((2:Int)+ci.1),(ae ((1:Int)+br.1),ae ((1:Int)+fu.1),fw.1,pR,()),(0:Int),())];self (ahq,ae (U.2+1))) else none)<|cond (decide (ge.1=6)) (if U.1.length+[((4:Int),ae ((2:Int)+ci.1),(ae ((1:Int)+br.1),ae ((1:Int)+fu.1),(0:Int),([]:Byt),()),(0:Int),())].length<=be then (let ahr:=U.1++[((4:Int),ae ((2:Int)+ci.1),(ae ((1:Int)+br.1),ae ((1:Int)+fu.1),(0:Int),([]:Byt),()),(0:Int),())];self (ahr,ae (U.2+1))) else none)<|cond (decide (ge.1=7)) (if U.1.length+[((5:Int),ae ((2:Int)+ci.1),((0:Int),(0:Int),(0:Int),([]:Byt),()),(0:Int),())].length<=be then (let ahs:=U.1++[((5:Int),ae ((2:Int)+ci.1),((0:Int),(0:Int),(0:Int),([]:Byt),()),(0:Int),())];self (ahs,ae (U.2+1))) else none)<|cond (decide (ge.1=8)) ((kS.ab (a1.1,ae (U.2+120),2,())).bind λaeT=>if U.1.length+[((6:Int),ae ((2:Int)+ci.1),((0:Int),(0:Int),(0:Int),([]:Byt),()),aeT.1,())].length<=be then (let aht:=U.1++[((6:Int),ae ((2:Int)+ci.1),((0:Int),(0:Int),(0:Int),([]:Byt),()),aeT.1,())];self (aht,ae (U.2+1))) else none)<|cond (decide (ge.1=9)) (if U.1.length+[((7:Int),ae ((2:Int)+ci.1),((0:Int),(0:Int),(0:Int),([]:Byt),()),(0:Int),())].length<=be then (let ahu:=U.1++[((7:Int),ae ((2:Int)+ci.1),((0:Int),(0:Int),(0:Int),([]:Byt),()),(0:Int),())];self (ahu,ae (U.2+1))) else none)<|cond (decide (ge.1=10)) (if U.1.length+[((8:Int),ae ((2:Int)+ci.1),((0:Int),(0:Int),(0:Int),([]:Byt),()),(0:Int),())].length<=be then (let ahv:=U.1++[((8:Int),ae ((2:Int)+ci.1),((0:Int),(0:Int),(0:Int),([]:Byt),()),(0:Int),())];self (ahv,ae (U.2+1))) else none)<|if U.1.length+[((1:Int),(0:Int),((0:Int),(0:Int),(0:Int),([]:Byt),()),(0:Int),())].length<=be then (let ahw:=U.1++[((1:Int),(0:Int),((0:Int),(0:Int),(0:Int),([]:Byt),()),(0:Int),())];self (ahw,ae (U.2+1))) else none)<|cond (decide (ge.1=5)) (if U.1.length+[((3:Int),ae ((2:Int)+ci.1),(ae ((1:Int)+br.1),ae ((1:Int)+fu.1),fw.1,pR,()),(0:Int),())].length<=be then (let ahx:=U.1++[((3:Int),ae ((2:Int)+ci.1),(ae ((1:Int)+br.1),ae ((1:Int)+fu.1),fw.1,pR,()),(0:Int),())];self (ahx,ae (U.2+1))) else none)<|cond (decide (ge.1=6)) (if U.1.length+[((4:Int),ae ((2:Int)+ci.1),(ae ((1:Int)+br.1),ae ((1:Int)+fu.1),(0:Int),([]:Byt),()),(0:Int),())].length<=be then (let ahy:=U.1++[((4:Int),ae ((2:Int)+ci.1),(ae ((1:Int)+br.1),ae ((1:Int)+fu.1),(0:Int),([]:Byt),()),(0:Int),())];self (ahy,ae (U.2+1))) else none)<|cond (decide (ge.1=7)) (if U.1.length+[((5:Int),ae ((2:Int)+ci.1),((0:Int),(0:Int),(0:Int),([]:Byt),()),(0:Int),())].length<=be then (let ahz:=U.1++[((5:Int),ae ((2:Int)+ci.1),((0:Int),(0:Int),(0:Int),([]:Byt),()),(0:Int),())];self (ahz,ae (U.2+1))) else none)<|cond (decide (ge.1=8)) ((kS.ab (a1.1,ae (U.2+120),2,())).bind λaeU=>if U.1.length+[((6:Int),ae ((2:Int)+ci.1),((0:Int),(0:Int),(0:Int),([]:Byt),()),aeU.1,())].length<=be then (let ahA:=U.1++[((6:Int),ae ((2:Int)+ci.1),((0:Int),(0:Int),(0:Int),([]:Byt),()),aeU.1,())];self (ahA,ae (U.2+1))) else none)<|cond (decide (ge.1=9)) (if U.1.length+[((7:Int),ae ((2:Int)+ci.1),((0:Int),(0:Int),(0:Int),([]:Byt),()),(0:Int),())].length<=be then (let ahB:=U.1++[((7:Int),ae ((2:Int)+ci.1),((0:Int),(0:Int),(0:Int),([]:Byt),()),(0:Int),())];self (ahB,ae (U.2+1))) else none)<|cond (decide (ge.1=10)) (if U.1.length+[((8:Int),ae ((2:Int)+ci.1),((0:Int),(0:Int),(0:Int),([]:Byt),()),(0:Int),())].length<=be then (let ahC:=U.1++[((8:Int),ae ((2:Int)+ci.1),((0:Int),(0:Int),(0:Int),([]:Byt),()),(0:Int),())];self (ahC,ae (U.2+1))) else none)<|if U.1.length+[((1:Int),(0:Int),((0:Int),(0:Int),(0:Int),([]:Byt),()),(0:Int),())].length<=be then (let ahD:=U.1++[((1:Int),(0:Int),((0:Int),(0:Int),(0:Int),([]:Byt),()),(0:Int),())];self (ahD,ae (U.2+1))) else none)<|cond (decide (ge.1=2)) (if U.1.length+[((2:Int),ae ((2:Int)+ci.1),(ae ((1:Int)+br.1),ae ((1:Int)+fu.1),fw.1,pR,()),(0:Int),())].length<=be then (let ahE:=U.1++[((2:Int),ae ((2:Int)+ci.1),(ae ((1:Int)+br.1),ae ((1:Int)+fu.1),fw.1,pR,()),(0:Int),())];self (ahE,ae (U.2+1))) else none)<|cond (decide (ge.1=3)) (cond (decide (ge.1=3)) (if U.1.length+[((3:Int),ae ((2:Int)+ci.1),(ae ((1:Int)+br.1),ae ((1:Int)+fu.1),fw.1,pR,()),(0:Int),())].length<=be then (let ahF:=U.1++[((3:Int),ae ((2:Int)+ci.1),(ae ((1:Int)+br.1),ae ((1:Int)+fu.1),fw.1,pR,()),(0:Int),())];self (ahF,ae (U.2+1))) else none)<|cond (decide (ge.1=6)) (if U.1.length+[((4:Int),ae ((2:Int)+ci.1),(ae ((1:Int)+br.1),ae ((1:Int)+fu.1),(0:Int),([]:Byt),()),(0:Int),())].length<=be then (let ahG:=U.1++[((4:Int),ae ((2:Int)+ci.1),(ae ((1:Int)+br.1),ae ((1:Int)+fu.1),(0:Int),([]:Byt),()),(0:Int),())];self (ahG,ae (U.2+1))) else none)<|cond (decide (ge.1=7)) (if U.1.length+[((5:Int),ae ((2:Int)+ci.1),((0:Int),(0:Int),(0:Int),([]:Byt),()),(0:Int),())].length<=be then (let ahH:=U.1++[((5:Int),ae ((2:Int)+ci.1),((0:Int),(0:Int),(0:Int),([]:Byt),()),(0:Int),())];self (ahH,ae (U.2+1))) else none)<|cond (decide (ge.1=8)) ((kS.ab (a1.1,ae (U.2+120),2,())).bind λaeV=>if U.1.length+[((6:Int),ae ((2:Int)+ci.1),((0:Int),(0:Int),(0:Int),([]:Byt),()),aeV.1,())].length<=be then (let ahI:=U.1++[((6:Int),ae ((2:Int)+ci.1),((0:Int),(0:Int),(0:Int),([]:Byt),()),aeV.1,())];self (ahI,ae (U.2+1))) else none)<|cond (decide (ge.1=9)) (if U.1.length+[((7:Int),ae ((2:Int)+ci.1),((0:Int),(0:Int),(0:Int),([]:Byt),()),(0:Int),())].length<=be then (let ahJ:=U.1++[((7:Int),ae ((2:Int)+ci.1),((0:Int),(0:Int),(0:Int),([]:Byt),()),(0:Int),())];self (ahJ,ae (U.2+1))) else none)<|cond (decide (ge.1=10)) (if U.1.length+[((8:Int),ae ((2:Int)+ci.1),((0:Int),(0:Int),(0:Int),([]:Byt),()),(0:Int),())].length<=be then (let ahK:=U.1++[((8:Int),ae ((2:Int)+ci.1),((0:Int),(0:Int),(0:Int),([]:Byt),()),(0:Int),())];self (ahK,ae (U.2+1))) else none)<|if U.1.length+[((1:Int),(0:Int),((0:Int),(0:Int),(0:Int),([]:Byt),()),(0:Int),())].length<=be then (let ahL:=U.1++[((1:Int),(0:Int),((0:Int),(0:Int),(0:Int),([]:Byt),()),(0:Int),())];self (ahL,ae (U.2+1))) else none)<|cond (decide (ge.1=4)) (cond (decide (ge.1=4)) (if U.1.length+[((3:Int),ae ((2:Int)+ci.1),(ae ((1:Int)+br.1),ae ((1:Int)+fu.1),fw.1,pR,()),(0:Int),())].length<=be then (let ahM:=U.1++[((3:Int),ae ((2:Int)+ci.1),(ae ((1:Int)+br.1),ae ((1:Int)+fu.1),fw.1,pR,()),(0:Int),())];self (ahM,ae (U.2+1))) else none)<|cond (decide (ge.1=6)) (if U.1.length+[((4:Int),ae ((2:Int)+ci.1),(ae ((1:Int)+br.1),ae ((1:Int)+fu.1),(0:Int),([]:Byt),()),(0:Int),())].length<=be then (let ahN:=U.1++[((4:Int),ae ((2:Int)+ci.1),(ae ((1:Int)+br.1),ae ((1:Int)+fu.1),(0:Int),([]:Byt),()),(0:Int),())];self (ahN,ae (U.2+1))) else none)<|cond (decide (ge.1=7)) (if U.1.length+[((5:Int),ae ((2:Int)+ci.1),((0:Int),(0:Int),(0:Int),([]:Byt),()),(0:Int),())].length<=be then (let ahO:=U.1++[((5:Int),ae ((2:Int)+ci.1),((0:Int),(0:Int),(0:Int),([]:Byt),()),(0:Int),())];self (ahO,ae (U.2+1))) else none)<|cond (decide (ge.1=8)) ((kS.ab (a1.1,ae (U.2+120),2,())).bind λaeW=>if U.1.length+[((6:Int),ae ((2:Int)+ci.1),((0:Int),(0:Int),(0:Int),([]:Byt),()),aeW.1,())].length<=be then (let ahP:=U.1++[((6:Int),ae ((2:Int)+ci.1),((0:Int),(0:Int),(0:Int),([]:Byt),()),aeW.1,())];self (ahP,ae (U.2+1))) else none)<|cond (decide (ge.1=9)) (if U.1.length+[((7:Int),ae ((2:Int)+ci.1),((0:Int),(0:Int),(0:Int),([]:Byt),()),(0:Int),())].length<=be then (let ahQ:=U.1++[((7:Int),ae ((2:Int)+ci.1),((0:Int),(0:Int),(0:Int),([]:Byt),()),(0:Int),())];self (ahQ,ae (U.2+1))) else none)<|cond (decide (ge.1=10)) (if U.1.length+[((8:Int),ae ((2:Int)+ci.1),((0:Int),(0:Int),(0:Int),([]:Byt),()),(0:Int),())].length<=be then (let ahR:=U.1++[((8:Int),ae ((2:Int)+ci.1),((0:Int),(0:Int),(0:Int),([]:Byt),()),(0:Int),())];self (ahR,ae (U.2+1))) else none)<|if U.1.length+[((1:Int),(0:Int),((0:Int),(0:Int),(0:Int),([]:Byt),()),(0:Int),())].length<=be then (let ahS:=U.1++[((1:Int),(0:Int),((0:Int),(0:Int),(0:Int),([]:Byt),()),(0:Int),())];self (ahS,ae (U.2+1))) else none)<|cond (decide (ge.1=5)) (if U.1.length+[((3:Int),ae ((2:Int)+ci.1),(ae ((1:Int)+br.1),ae ((1:Int)+fu.1),fw.1,pR,()),(0:Int),())].length<=be then (let ahT:=U.1++[((3:Int),ae ((2:Int)+ci.1),(ae ((1:Int)+br.1),ae ((1:Int)+fu.1),fw.1,pR,()),(0:Int),())];self (ahT,ae (U.2+1))) else none)<|cond (decide (ge.1=6)) (if U.1.length+[((4:Int),ae ((2:Int)+ci.1),(ae ((1:Int)+br.1),ae ((1:Int)+fu.1),(0:Int),([]:Byt),()),(0:Int),())].length<=be then (let ahU:=U.1++[((4:Int),ae ((2:Int)+ci.1),(ae ((1:Int)+br.1),ae ((1:Int)+fu.1),(0:Int),([]:Byt),()),(0:Int),())];self (ahU,ae (U.2+1))) else none)<|cond (decide (ge.1=7)) (if U.1.length+[((5:Int),ae ((2:Int)+ci.1),((0:Int),(0:Int),(0:Int),([]:Byt),()),(0:Int),())].length<=be then (let ahV:=U.1++[((5:Int),ae ((2:Int)+ci.1),((0:Int),(0:Int),(0:Int),([]:Byt),()),(0:Int),())];self (ahV,ae (U.2+1))) else none)<|cond (decide (ge.1=8)) ((kS.ab (a1.1,ae (U.2+120),2,())).bind λaeX=>if U.1.length+[((6:Int),ae ((2:Int)+ci.1),((0:Int),(0:Int),(0:Int),([]:Byt),()),aeX.1,())].length<=be then (let ahW:=U.1++[((6:Int),ae ((2:Int)+ci.1),((0:Int),(0:Int),(0:Int),([]:Byt),()),aeX.1,())];self (ahW,ae (U.2+1))) else none)<|cond (decide (ge.1=9)) (if U.1.length+[((7:Int),ae ((2:Int)+ci.1),((0:Int),(0:Int),(0:Int),([]:Byt),()),(0:Int),())].length<=be then (let ahX:=U.1++[((7:Int),ae ((2:Int)+ci.1),((0:Int),(0:Int),(0:Int),([]:Byt),()),(0:Int),())];self (ahX,ae (U.2+1))) else none)<|cond (decide (ge.1=10)) (if U.1.length+[((8:Int),ae ((2:Int)+ci.1),((0:Int),(0:Int),(0:Int),([]:Byt),()),(0:Int),())].length<=be then (let ahY:=U.1++[((8:Int),ae ((2:Int)+ci.1),((0:Int),(0:Int),(0:Int),([]:Byt),()),(0:Int),())];self (ahY,ae (U.2+1))) else none)<|if U.1.length+[((1:Int),(0:Int),((0:Int),(0:Int),(0:Int),([]:Byt),()),(0:Int),())].length<=be then (let ahZ:=U.1++[((1:Int),(0:Int),((0:Int),(0:Int),(0:Int),([]:Byt),()),(0:Int),())];self (ahZ,ae (U.2+1))) else none) else none)<|e0 U.1
def q0 (a1:A) (ah0:(List Op)):P:=some (ah0,())
def r0:((List Op)×Int)->P:=ao (λw v=>b0 w (q0 a1) a1 v) k
theorem av:@Eq (((List Op)×Int)->P) (λU=>D.L k [1,1,0,1,0,0] [0,1,5,6] [] (ak 0 (ax (D.N k [1,1,1]) D.K0)) (T0 a1 U)) (r0 k a1):=
 funext λU=>aq _ _ _ (T0 a1) _ (λrec v=>Bye) k U
def p (l0:((List Op)×Int)->P) (a1:A):P:=l0 ([((1:Int),(0:Int),((0:Int),(0:Int),(0:Int),([]:Byt),()),(0:Int),()),((2:Int),(1:Int),((0:Int),(1:Int),(8:Int),([]:Byt),()),(0:Int),()),((2:Int),(1:Int),((0:Int),(2:Int),(5:Int),([]:Byt),()),(0:Int),()),((7:Int),(1:Int),((0:Int),(0:Int),(0:Int),([]:Byt),()),(0:Int),()),((1:Int),(0:Int),((0:Int),(0:Int),(0:Int),([]:Byt),()),(0:Int),()),((1:Int),(0:Int),((0:Int),(0:Int),(0:Int),([]:Byt),()),(0:Int),())],0)
theorem af:@Eq P (D.W k a1) (p (r0 k a1) a1):=By8 (av k a1) Bye
theorem ok:Ok prog 8 D.sig:=al func8 ap Bye (fc kS.ok (aj _))
end lR
namespace ee
abbrev A:=Int×Int×Int×Unit
abbrev O:=Bool×Unit
noncomputable def D:FD:={ fn:=f36,tl:=ba,ps:=[(.ro,i64),(.ro,i64),(.ro,i64)],rs:=[(.bool,(ah .bool))] }
def ab (a:A):Option O:=@lift O λk=>D.W k a
def p (a1:A):Option O:=cond (decide (a1.2.1<=a1.1)) (some (decide (a1.1<=a1.2.2.1),()))<|some (false,())
theorem af (a1:A):@Eq (Option O) (D.W k a1) (p a1):=Bye
theorem ok:Ok prog 36 D.sig:=al func36 ap Bye (aj _)
end ee
namespace d9
abbrev A:=Row×Unit
abbrev O:=Int×Unit
abbrev P:=Option O
noncomputable def D:FD:={ fn:=f148,tl:=ba,ps:=[(.ro,ay)],rs:=[(i64,(ah i64))],gl:=[(36,ee.D.sig)],lv:=[(6,[1,26,27])],lx:=[(0,[])] }
def ab (a:A):P:=@lift O λk=>D.W k a
variable (a1:A)
def T0 (jX:Int):St:={ n:=43,sl:=[(1,.box ay (ah ay) [] a1.1),(26,.val i64 (a1.1.2.2.2.1.length:Int)),(27,.val i64 jX)],vr:=[],az:=[] }
def b0 (self:Int->P) (e0:(Unit)->P) (a1:A) (jX:Int):P:=cond (decide (jX < (a1.1.2.2.2.1.length:Int))) (if 0<=jX then ((a1.1.2.2.2.1[jX.toNat]?).bind λzS=>cond (decide ((zS.toNat:Int) < 97)) (some (5,()))<|if 0<=jX then ((a1.1.2.2.2.1[jX.toNat]?).bind λWW=>cond (decide (122 < (WW.toNat:Int))) (some (5,()))<|self (ae (jX+1))) else none) else none)<|e0 ()
def q0 (a1:A) (BY:(Unit)):P:=some (0,())
def r0:(Int)->P:=ao (λw v=>b0 w (q0 a1) a1 v) k
theorem av:@Eq ((Int)->P) (λjX=>D.L k [1,1,1,0,1,0,0] [1,26,27] [] (ak 0 (ax (D.N k [1,1,1,1]) D.K0)) (T0 a1 jX)) (r0 k a1):=
 funext λjX=>aq _ _ _ (T0 a1) _ (λrec v=>Bye) k jX
def p (l0:(Int)->P) (a1:A):P:=(ee.ab (a1.1.1,0,3,())).bind λr2=>cond (!r2.1) (some (3,()))<|(ee.ab (a1.1.2.1,1,99,())).bind λr3=>cond (!r3.1) (some (3,()))<|(ee.ab (a1.1.2.2.1,0,999,())).bind λr4=>cond (!r4.1) (some (3,()))<|cond (decide (8 < (a1.1.2.2.2.1.length:Int))) (some (5,()))<|l0 0
theorem af:@Eq P (D.W k a1) (p (r0 k a1) a1):=By8 (av k a1) Bye
theorem ok:Ok prog 148 D.sig:=al func148 ap Bye (fc ee.ok (aj _))
end d9
namespace lC
abbrev A:=Row×Row×Unit
abbrev O:=Bool×Unit
noncomputable def D:FD:={ fn:=f149,tl:=ba,ps:=[(.ro,ay),(.ro,ay)],rs:=[(.bool,(ah .bool))] }
def ab (a:A):Option O:=@lift O λk=>D.W k a
def p (a1:A):Option O:=cond (decide (a1.1.1 < a1.2.1.1)) (some (true,()))<|cond (decide (a1.1.1=a1.2.1.1)) (some (decide (a1.1.2.1 < a1.2.1.2.1),()))<|some (false,())
theorem af (a1:A):@Eq (Option O) (D.W k a1) (p a1):=Bye
theorem ok:Ok prog 149 D.sig:=al func149 ap Bye (aj _)
end lC
namespace gd
abbrev A:=(List Row)×Unit
abbrev O:=Int×Unit
abbrev P:=Option O
noncomputable def D:FD:={ fn:=f81,tl:=ba,ps:=[(.ro,(.aa ay))],rs:=[(i64,(ah i64))],gl:=[(148,d9.D.sig),(149,lC.D.sig)],lv:=[(4,[0,9,10,11])],lx:=[(0,[])],od:=[(9,[0,1,2,3,4,5,6,7,8,9,10,11])] }
def ab (a:A):P:=@lift O λk=>D.W k a
variable (a1:A)
def T0 (U:Int):St:={ n:=34,sl:=[(0,.val (.aa ay) a1.1),(9,.val (.aa ay) a1.1),(10,.val i64 (a1.1.length:Int)),(11,.val i64 U)],vr:=[],az:=[] }
def b0 (self:Int->P) (e0:(Unit)->P) (a1:A) (U:Int):P:=cond (decide (U < (a1.1.length:Int))) (if 0<=U then ((a1.1[U.toNat]?).bind λbg=>(d9.ab (bg,())).bind λbr=>cond (!decide (br.1=0)) (some (br.1,()))<|cond (decide (0 < U)) (if 0<=ae (U - 1) then ((a1.1[(ae (U - (1:Int))).toNat]?).bind λiz=>(lC.ab (iz,bg,())).bind λfw=>cond (!fw.1) (some (1,()))<|self (ae (U+1))) else none)<|self (ae (U+1))) else none)<|e0 ()
def q0 (a1:A) (oM:(Unit)):P:=some (0,())
def r0:(Int)->P:=ao (λw v=>b0 w (q0 a1) a1 v) k
theorem av:@Eq ((Int)->P) (λU=>D.L k [1,1,0,1,0,0] [0,9,10,11] [] (ak 0 (ax (D.N k [1,1,1]) D.K0)) (T0 a1 U)) (r0 k a1):=
 funext λU=>aq _ _ _ (T0 a1) _ (λrec v=>Bye) k U
def p (l0:(Int)->P) (a1:A):P:=cond (decide (60 < (a1.1.length:Int))) (some (2,()))<|l0 0
theorem af:@Eq P (D.W k a1) (p (r0 k a1) a1):=By8 (av k a1) Bye
theorem ok:Ok prog 81 D.sig:=al func81 ap Bye (fc d9.ok (fc lC.ok (aj _)))
end gd
namespace kg
abbrev A:=(List Tx)×Unit
abbrev O:=Int×Unit
abbrev P:=Option O
noncomputable def D:FD:={ fn:=f142,tl:=ba,ps:=[(.ro,(.aa bm))],rs:=[(i64,(ah i64))],lv:=[(3,[3,6,7,8])],lx:=[(0,[3])] }
def ab (a:A):P:=@lift O λk=>D.W k a
variable (a1:A)
def T0 (U:Int×Int):St:={ n:=19,sl:=[(3,.val i64 U.1),(6,.val (.aa bm) a1.1),(7,.val i64 (a1.1.length:Int)),(8,.val i64 U.2)],vr:=[],az:=[] }
def b0 (self:(Int×Int)->P) (e0:Int->P) (a1:A) (U:Int×Int):P:=cond (decide (U.2 < (a1.1.length:Int))) (if 0<=U.2 then ((a1.1[U.2.toNat]?).bind λbg=>self (ae (U.1+(bg.2.1.length:Int)),ae (U.2+1))) else none)<|e0 U.1
def q0 (a1:A) (qf:Int):P:=some (qf,())
def r0:(Int×Int)->P:=ao (λw v=>b0 w (q0 a1) a1 v) k
theorem av:@Eq ((Int×Int)->P) (λU=>D.L k [1,1,0,1,0,0] [3,6,7,8] [] (ak 0 (ax (D.N k [1,1,1]) D.K0)) (T0 a1 U)) (r0 k a1):=
 funext λU=>aq _ _ _ (T0 a1) _ (λrec v=>Bye) k U
def p (l0:(Int×Int)->P) (a1:A):P:=l0 (0,0)
theorem af:@Eq P (D.W k a1) (p (r0 k a1) a1):=By8 (av k a1) Bye
theorem ok:Ok prog 142 D.sig:=al func142 ap Bye (aj _)
end kg
namespace pJ
abbrev A:=Int×Unit
abbrev O:=Bool×Unit
noncomputable def D:FD:={ fn:=f150,tl:=ba,ps:=[(.ro,i64)],rs:=[(.bool,(ah .bool))],gl:=[(36,ee.D.sig)] }
def ab (a:A):Option O:=@lift O λk=>D.W k a
def p (a1:A):Option O:=(ee.ab (a1.1,1,99,())).bind λr2=>some (r2.1,())
theorem af (a1:A):@Eq (Option O) (D.W k a1) (p a1):=Bye
theorem ok:Ok prog 150 D.sig:=al func150 ap Bye (fc ee.ok (aj _))
end pJ
namespace nS
abbrev A:=Row×Row×Unit
abbrev O:=Int×Unit
noncomputable def D:FD:={ fn:=f156,tl:=ba,ps:=[(.ro,ay),(.ro,ay)],rs:=[(i64,(ah i64))],gl:=[(149,lC.D.sig)] }
def ab (a:A):Option O:=@lift O λk=>D.W k a
def p (a1:A):Option O:=(lC.ab (a1.1,a1.2.1,())).bind λr2=>cond r2.1 (some ((-1),()))<|(lC.ab (a1.2.1,a1.1,())).bind λr3=>cond r3.1 (some (1,()))<|some (0,())
theorem af (a1:A):@Eq (Option O) (D.W k a1) (p a1):=Bye
theorem ok:Ok prog 156 D.sig:=al func156 ap Bye (fc lC.ok (aj _))
end nS
namespace jq
abbrev A:=Change×Unit
abbrev O:=Int×Unit
noncomputable def D:FD:={ fn:=f211,tl:=ba,ps:=[(.ro,au)],rs:=[(i64,(ah i64))],gl:=[(148,d9.D.sig),(156,nS.D.sig)] }
def ab (a:A):Option O:=@lift O λk=>D.W k a
def p (a1:A):Option O:=let j7:Option O:=cond a1.1.1 ((d9.ab (a1.1.2.1,())).bind λr8=>cond (!decide (r8.1=0)) (some (r8.1,()))<|cond a1.1.2.2.1 ((d9.ab (a1.1.2.2.2.1,())).bind λqI=>some (qI.1,()))<|some (0,()))<|cond a1.1.2.2.1 ((d9.ab (a1.1.2.2.2.1,())).bind λnJ=>some (nJ.1,()))<|some (0,());cond (!a1.1.1) (cond (!a1.1.2.2.1) (some (1,()))<|cond a1.1.1 (cond a1.1.2.2.1 ((nS.ab (a1.1.2.1,a1.1.2.2.2.1,())).bind λr2=>cond (!decide (r2.1=0)) (some (1,()))<|j7)<|j7)<|j7)<|cond a1.1.1 (cond a1.1.2.2.1 ((nS.ab (a1.1.2.1,a1.1.2.2.2.1,())).bind λr3=>cond (!decide (r3.1=0)) (some (1,()))<|j7)<|j7)<|j7
theorem af (a1:A):@Eq (Option O) (D.W k a1) (p a1):=Bye
theorem ok:Ok prog 211 D.sig:=al func211 ap Bye (fc d9.ok (fc nS.ok (aj _)))
end jq
namespace mL
abbrev A:=Change×Unit
abbrev O:=Int×Unit
noncomputable def D:FD:={ fn:=f139,tl:=ba,ps:=[(.ro,au)],rs:=[(i64,(ah i64))],gl:=[(211,jq.D.sig)] }
def ab (a:A):Option O:=@lift O λk=>D.W k a
def p (a1:A):Option O:=(jq.ab (a1.1,())).bind λr2=>cond (!decide (r2.1=0)) (some (r2.1,()))<|cond a1.1.1 (cond a1.1.2.2.1 (cond (Ty.eq ay a1.1.2.1 a1.1.2.2.2.1) (some (1,()))<|some (0,()))<|some (0,()))<|some (0,())
theorem af (a1:A):@Eq (Option O) (D.W k a1) (p a1):=Bye
theorem ok:Ok prog 139 D.sig:=al func139 ap Bye (fc jq.ok (aj _))
end mL
namespace du
abbrev A:=Change×Unit
abbrev O:=Row×Unit
noncomputable def D:FD:={ fn:=f215,tl:=ba,ps:=[(.ro,au)],rs:=[(ay,(ah ay))] }
def ab (a:A):Option O:=@lift O λk=>D.W k a
def p (a1:A):Option O:=cond a1.1.2.2.1 (some (a1.1.2.2.2.1,()))<|some (a1.1.2.1,())
theorem af (a1:A):@Eq (Option O) (D.W k a1) (p a1):=Bye
theorem ok:Ok prog 215 D.sig:=al func215 ap Bye (aj _)
end du
namespace jr
abbrev A:=Change×Unit
abbrev O:=Key×Unit
noncomputable def D:FD:={ fn:=f141,tl:=ba,ps:=[(.ro,au)],rs:=[(bk,(ah bk))],gl:=[(215,du.D.sig)],od:=[(1,[0,3,1,2,4,5,6,7])] }
def ab (a:A):Option O:=@lift O λk=>D.W k a
def p (a1:A):Option O:=(du.ab (a1.1,())).bind λr2=>(du.ab (a1.1,())).bind λr3=>some ((r2.1.1,r3.1.2.1,()),())
theorem af (a1:A):@Eq (Option O) (D.W k a1) (p a1):=Bye
theorem ok:Ok prog 141 D.sig:=al func141 ap Bye (fc du.ok (aj _))
end jr
namespace lK
abbrev A:=(List Key)×Key×Unit
abbrev O:=Int×Unit
abbrev P:=Option O
noncomputable def D:FD:={ fn:=f267,tl:=ba,ps:=[(.ro,(.aa bk)),(.ro,bk)],rs:=[(i64,(ah i64))],lv:=[(2,[0,3,7,8])],lx:=[(0,[])],od:=[(4,[0,1,2,3,4,5])] }
def ab (a:A):P:=@lift O λk=>D.W k a
variable (a1:A)
def T0 (U:Int):St:={ n:=19,sl:=[(0,.val (.aa bk) a1.1),(3,.box bk (ah bk) [] a1.2.1),(7,.val i64 (a1.1.length:Int)),(8,.val i64 U)],vr:=[],az:=[] }
def b0 (self:Int->P) (e0:(Unit)->P) (a1:A) (U:Int):P:=cond (decide (U < (a1.1.length:Int))) (if 0<=U then ((a1.1[U.toNat]?).bind λbg=>cond (Ty.eq bk a1.2.1 bg) (some (U,()))<|self (ae (U+1))) else none)<|e0 ()
def q0 (a1:A) (qf:(Unit)):P:=some ((-1),())
def r0:(Int)->P:=ao (λw v=>b0 w (q0 a1) a1 v) k
theorem av:@Eq ((Int)->P) (λU=>D.L k [1,0,1,0,0] [0,3,7,8] [] (ak 0 (ax (D.N k [1,1]) D.K0)) (T0 a1 U)) (r0 k a1):=
 funext λU=>aq _ _ _ (T0 a1) _ (λrec v=>Bye) k U
def p (l0:(Int)->P) (a1:A):P:=l0 0
theorem af:@Eq P (D.W k a1) (p (r0 k a1) a1):=By8 (av k a1) Bye
theorem ok:Ok prog 267 D.sig:=al func267 ap Bye (aj _)
end lK
namespace gv
abbrev A:=(List Key)×Key×Unit
abbrev O:=Bool×Unit
noncomputable def D:FD:={ fn:=f214,tl:=ba,ps:=[(.ro,(.aa bk)),(.ro,bk)],rs:=[(.bool,(ah .bool))],gl:=[(267,lK.D.sig)] }
def ab (a:A):Option O:=@lift O λk=>D.W k a
def p (a1:A):Option O:=(lK.ab (a1.1,a1.2.1,())).bind λr2=>some (decide (0<=r2.1),())
theorem af (a1:A):@Eq (Option O) (D.W k a1) (p a1):=Bye
theorem ok:Ok prog 214 D.sig:=al func214 ap Bye (fc lK.ok (aj _))
end gv
namespace v_
abbrev A:=Int×Int×Unit
abbrev O:=Bool×Unit
noncomputable def D:FD:={ fn:=f216,tl:=ba,ps:=[(.ro,i64),(.ro,i64)],rs:=[(.bool,(ah .bool))],gl:=[(36,ee.D.sig)] }
def ab (a:A):Option O:=@lift O λk=>D.W k a
def p (a1:A):Option O:=(ee.ab (a1.1,0,3,())).bind λr2=>cond r2.1 ((ee.ab (a1.2.1,1,99,())).bind λr3=>some (r3.1,()))<|some (false,())
theorem af (a1:A):@Eq (Option O) (D.W k a1) (p a1):=Bye
theorem ok:Ok prog 216 D.sig:=al func216 ap Bye (fc ee.ok (aj _))
end v_
namespace eu
abbrev A:=Tx×Unit
abbrev O:=Int×Unit
abbrev P:=Option O
noncomputable def D:FD:={ fn:=f151,tl:=ba,ps:=[(.ro,bm)],rs:=[(i64,(ah i64))],gl:=[(36,ee.D.sig),(139,mL.D.sig),(141,jr.D.sig),(214,gv.D.sig),(216,v_.D.sig)],lv:=[(2,[1,12,13,14]),(14,[1,6,41,42,43]),(21,[1,57,58,59])],lx:=[(0,[1]),(2,[1]),(4,[])],od:=[(7,[0,1,2,3,4,5]),(25,[0,1,2,3,4,5])] }
def ab (a:A):P:=@lift O λk=>D.W k a
def T0 (a1:A) (U:Int):St:={ n:=77,sl:=[(1,.box bm (ah bm) [] a1.1),(12,.val (.aa au) a1.1.2.1),(13,.val i64 (a1.1.2.1.length:Int)),(14,.val i64 U)],vr:=[],az:=[] }
def S0 (rec:RT O) (a1:A):(Int)->P:=λU=>rec (T0 a1 U)
def dq (K:KT O) (a1:A):(Unit)->P:=λz=>K (.exit 0) ({ n:=77,sl:=[(1,.box bm (ah bm) [] a1.1)],vr:=[],az:=[] })
def b0 (self:Int->P) (e0:(Unit)->P) (a1:A) (U:Int):P:=cond (decide (U < (a1.1.2.1.length:Int))) (if 0<=U then ((a1.1.2.1[U.toNat]?).bind λbg=>(mL.ab (bg,())).bind λbr=>cond (!decide (br.1=0)) (some (br.1,()))<|(jr.ab (bg,())).bind λfu=>(gv.ab (a1.1.2.2.2.1,fu.1,())).bind λfw=>cond (!fw.1) (some (8,()))<|self (ae (U+1))) else none)<|e0 ()
theorem nT (rec:RT O) (K:KT O) (a1:A) (U:Int):D.N k [1,0,1,0,0] (T0 a1 U) (kU rec (iv [1,12,13,14] []) K)=b0 (S0 rec a1) (dq K a1) a1 U:=Bye
def T1 (a1:A) (gx:Int×Int):St:={ n:=77,sl:=[(1,.box bm (ah bm) [] a1.1),(6,.val i64 gx.1),(41,.val (.aa i64) a1.1.2.2.1),(42,.val i64 (a1.1.2.2.1.length:Int)),(43,.val i64 gx.2)],vr:=[],az:=[] }
def S1 (rec:RT O) (a1:A):(Int×Int)->P:=λgx=>rec (T1 a1 gx)
def oE (K:KT O) (a1:A):(Unit)->P:=λz=>K (.exit 2) ({ n:=77,sl:=[(1,.box bm (ah bm) [] a1.1)],vr:=[],az:=[] })
def b1 (self:(Int×Int)->P) (e2:(Unit)->P) (a1:A) (gx:Int×Int):P:=cond (decide (gx.2 < (a1.1.2.2.1.length:Int))) (if 0<=gx.2 then ((a1.1.2.2.1[gx.2.toNat]?).bind λA7=>(ee.ab (A7,gx.1,(a1.1.2.1.length:Int),())).bind λCt=>cond (!Ct.1) (some (3,()))<|self (A7,ae (gx.2+1))) else none)<|e2 ()
theorem zT (rec:RT O) (K:KT O) (a1:A) (gx:Int×Int):D.N k [1,1,1,1,0,1,0,0] (T1 a1 gx) (kU rec (iv [1,6,41,42,43] []) K)=b1 (S1 rec a1) (oE K a1) a1 gx:=Bye
def T2 (a1:A) (oR:Int):St:={ n:=77,sl:=[(1,.box bm (ah bm) [] a1.1),(57,.val (.aa bk) a1.1.2.2.2.1),(58,.val i64 (a1.1.2.2.2.1.length:Int)),(59,.val i64 oR)],vr:=[],az:=[] }
def b2 (self:Int->P) (e4:(Unit)->P) (a1:A) (oR:Int):P:=cond (decide (oR < (a1.1.2.2.2.1.length:Int))) (if 0<=oR then ((a1.1.2.2.2.1[oR.toNat]?).bind λWX=>(v_.ab (WX.1,WX.2.1,())).bind λaf6=>cond (!af6.1) (some (3,()))<|if 0<=oR/\oR<=(a1.1.2.2.2.1.length:Int) then ((gv.ab ((a1.1.2.2.2.1.take oR.toNat).drop 0,WX,())).bind λaf7=>cond af7.1 (some (6,()))<|self (ae (oR+1))) else none) else none)<|e4 ()
def q2 (a1:A) (JN:(Unit)):P:=some (0,())
def s2 (a1:A):(Int)->P:=λoR=>D.L k [1,1,1,1,1,0,1,0,0] [1,57,58,59] [] (ak 4 (ax (D.N k [1,1,1,1,1,1]) D.K0)) (T2 a1 oR)
def r2 (a1:A):(Int)->P:=ao (λw v=>b2 w (q2 a1) a1 v) k
theorem xT (a1:A):s2 k a1=r2 k a1:=
 funext λoR=>aq _ _ _ (T2 a1) _ (λrec v=>Bye) k oR
def q1 (l2:(Int)->P) (a1:A) (GA:(Unit)):P:=l2 0
def Q1 (a1:A) (GA:(Unit)):P:=q1 (r2 k a1) a1 GA
theorem tc (a1:A) (GA:(Unit)):oE (ak 2 (ax (D.N k [1,1,1,1,1]) D.K0)) a1 GA=Q1 k a1 GA:=
 aV (b:=q1 (s2 k a1) a1 GA) Bye (by rw[xT];rfl)
def s1 (a1:A):(Int×Int)->P:=λgx=>D.L k [1,1,1,1,0,1,0,0] [1,6,41,42,43] [] (ak 2 (ax (D.N k [1,1,1,1,1]) D.K0)) (T1 a1 gx)
def r1 (a1:A):(Int×Int)->P:=ao (λw v=>b1 w (Q1 k a1) a1 v) k
theorem nU (a1:A):s1 k a1=r1 k a1:=by
 funext gx;have h2:oE (ak 2 (ax (D.N k [1,1,1,1,1]) D.K0)) a1=Q1 k a1:=funext λz=>tc k a1 z;refine (aq _ _ _ (T1 a1) (λself v=>b1 self (oE (ak 2 (ax (D.N k [1,1,1,1,1]) D.K0)) a1) a1 v) (λrec v=>zT k rec (ak 2 (ax (D.N k [1,1,1,1,1]) D.K0)) a1 v) k gx).trans ?_;rw[h2];rfl
def q0 (l1:(Int×Int)->P) (a1:A) (oM:(Unit)):P:=cond (decide (8 < (a1.1.2.2.1.length:Int))) (some (2,()))<|cond (decide (12 < (a1.1.2.2.2.1.length:Int))) (some (2,()))<|l1 (0,0)
def Q0 (a1:A) (oM:(Unit)):P:=q0 (r1 k a1) a1 oM
theorem wa (a1:A) (oM:(Unit)):dq (ak 0 (ax (D.N k [1,1]) D.K0)) a1 oM=Q0 k a1 oM:=
 aV (b:=q0 (s1 k a1) a1 oM) Bye (by rw[nU];rfl)
def s0 (a1:A):(Int)->P:=λU=>D.L k [1,0,1,0,0] [1,12,13,14] [] (ak 0 (ax (D.N k [1,1]) D.K0)) (T0 a1 U)
def r0 (a1:A):(Int)->P:=ao (λw v=>b0 w (Q0 k a1) a1 v) k
theorem av (a1:A):s0 k a1=r0 k a1:=by
 funext U;have h0:dq (ak 0 (ax (D.N k [1,1]) D.K0)) a1=Q0 k a1:=funext λz=>wa k a1 z;refine (aq _ _ _ (T0 a1) (λself v=>b0 self (dq (ak 0 (ax (D.N k [1,1]) D.K0)) a1) a1 v) (λrec v=>nT k rec (ak 0 (ax (D.N k [1,1]) D.K0)) a1 v) k U).trans ?_;rw[h0];rfl
def p (l0:(Int)->P) (a1:A):P:=l0 0
theorem af (a1:A):@Eq P (D.W k a1) (p (r0 k a1) a1):=
 aV (b:=p (s0 k a1) a1) Bye (by rw[av])
theorem ok:Ok prog 151 D.sig:=al func151 ap Bye (fc ee.ok (fc mL.ok (fc jr.ok (fc gv.ok (fc v_.ok (aj _))))))
end eu
namespace ct
abbrev A:=(List Tx)×Unit
abbrev O:=Int×Unit
abbrev P:=Option O
noncomputable def D:FD:={ fn:=f82,tl:=ba,ps:=[(.ro,(.aa bm))],rs:=[(i64,(ah i64))],gl:=[(142,kg.D.sig),(150,pJ.D.sig),(151,eu.D.sig)],lv:=[(4,[0,14,15,16]),(16,[0,6,45,46,47]),(19,[0,6,45,46,47,52,53,54])],lx:=[(0,[0]),(2,[0]),(4,[0,6,45,46,47])],od:=[(8,[0,1,2,3,4,5,6,7,8,9,10,11,12])] }
def ab (a:A):P:=@lift O λk=>D.W k a
def T0 (a1:A) (U:Int):St:={ n:=68,sl:=[(0,.val (.aa bm) a1.1),(14,.val (.aa bm) a1.1),(15,.val i64 (a1.1.length:Int)),(16,.val i64 U)],vr:=[],az:=[] }
def S0 (rec:RT O) (a1:A):(Int)->P:=λU=>rec (T0 a1 U)
def dq (K:KT O) (a1:A):(Unit)->P:=λz=>K (.exit 0) ({ n:=68,sl:=[(0,.val (.aa bm) a1.1)],vr:=[],az:=[] })
def b0 (self:Int->P) (e0:(Unit)->P) (a1:A) (U:Int):P:=cond (decide (U < (a1.1.length:Int))) (if 0<=U then ((a1.1[U.toNat]?).bind λbg=>(pJ.ab (bg.1,())).bind λbr=>cond (!br.1) (some (3,()))<|cond (decide (0 < U)) (if 0<=ae (U - 1) then ((a1.1[(ae (U - (1:Int))).toNat]?).bind λiz=>cond (decide (bg.1<=iz.1)) (some (1,()))<|(eu.ab (bg,())).bind λmK=>cond (!decide (mK.1=0)) (some (mK.1,()))<|self (ae (U+1))) else none)<|(eu.ab (bg,())).bind λuR=>cond (!decide (uR.1=0)) (some (uR.1,()))<|self (ae (U+1))) else none)<|e0 ()
theorem nT (rec:RT O) (K:KT O) (a1:A) (U:Int):D.N k [1,1,0,1,0,0] (T0 a1 U) (kU rec (iv [0,14,15,16] []) K)=b0 (S0 rec a1) (dq K a1) a1 U:=Bye
def T1 (a1:A) (jt:(List Tx)×(List (Key×Bool))×(List Tx)×Int×Int):St:={ n:=68,sl:=[(0,.val (.aa bm) jt.1),(6,.own (.map bk .bool) (ai (.map bk .bool)) [] jt.2.1),(45,.val (.aa bm) jt.2.2.1),(46,.val i64 jt.2.2.2.1),(47,.val i64 jt.2.2.2.2)],vr:=[],az:=[] }
def S1 (rec:RT O) (a1:A):((List Tx)×(List (Key×Bool))×(List Tx)×Int×Int)->P:=λjt=>rec (T1 a1 jt)
def oE (K:KT O) (a1:A):(List Tx)->P:=λz=>K (.exit 2) ({ n:=68,sl:=[(0,.val (.aa bm) z)],vr:=[],az:=[] })
def T2 (a1:A) (i_:List Tx) (qZ:List Tx) (q9:Int) (q_:Int) (rf:List Key) (zU:Int) (oR:(List (Key×Bool))×Int):St:={ n:=68,sl:=[(0,.val (.aa bm) i_),(6,.own (.map bk .bool) (ai (.map bk .bool)) [] oR.1),(45,.val (.aa bm) qZ),(46,.val i64 q9),(47,.val i64 q_),(52,.val (.aa bk) rf),(53,.val i64 zU),(54,.val i64 oR.2)],vr:=[],az:=[] }
def b2 (self:((List (Key×Bool))×Int)->P) (e4:(List (Key×Bool))->P) (a1:A) (i_:List Tx) (qZ:List Tx) (q9:Int) (q_:Int) (rf:List Key) (zU:Int) (oR:(List (Key×Bool))×Int):P:=cond (decide (oR.2 < zU)) (if 0<=oR.2 then ((rf[oR.2.toNat]?).bind λWY=>cond (DZ (lm bk oR.1 WY) false) (some (7,()))<|self (oU bk oR.1 WY true,ae (oR.2+1))) else none)<|e4 oR.1
def q1 (self:((List Tx)×(List (Key×Bool))×(List Tx)×Int×Int)->P) (e2:(List Tx)->P) (a1:A) (i_:List Tx) (qZ:List Tx) (q9:Int) (q_:Int) (rf:List Key) (zU:Int) (WZ:(List (Key×Bool))):P:=self (i_,WZ,qZ,q9,ae (q_+1))
def s2 (rec:RT O) (K:KT O) (a1:A):(List Tx)->(List Tx)->Int->Int->(List Key)->Int->((List (Key×Bool))×Int)->P:=λi_ qZ q9 q_ rf zU=>λoR=>D.L k [1,1,1,1,0,1,0,0,1,1,0,0,1,1,0,0] [0,6,45,46,47,52,53,54] [] (ak 4 (ak 3 (ax (D.N k [1,1,1,1,0,1,0,0,1,1,1]) (kU rec (iv [0,6,45,46,47] []) K)))) (T2 a1 i_ qZ q9 q_ rf zU oR)
def r2 (self:((List Tx)×(List (Key×Bool))×(List Tx)×Int×Int)->P) (e2:(List Tx)->P) (a1:A):(List Tx)->(List Tx)->Int->Int->(List Key)->Int->((List (Key×Bool))×Int)->P:=λi_ qZ q9 q_ rf zU=>ao (λw v=>b2 w (q1 self e2 a1 i_ qZ q9 q_ rf zU) a1 i_ qZ q9 q_ rf zU v) k
theorem xT (rec:RT O) (K:KT O) (a1:A):s2 k rec K a1=r2 k (S1 rec a1) (oE K a1) a1:=
 funext λi_=>funext λqZ=>funext λq9=>funext λq_=>funext λrf=>funext λzU=>funext λoR=>aq _ _ _ (T2 a1 i_ qZ q9 q_ rf zU) _ (λrec v=>Bye) k oR
def b1 (self:((List Tx)×(List (Key×Bool))×(List Tx)×Int×Int)->P) (e2:(List Tx)->P) (l2:(List Tx)->(List Tx)->Int->Int->(List Key)->Int->((List (Key×Bool))×Int)->P) (a1:A) (jt:(List Tx)×(List (Key×Bool))×(List Tx)×Int×Int):P:=cond (decide (jt.2.2.2.2 < jt.2.2.2.1)) (if 0<=jt.2.2.2.2 then ((jt.2.2.1[jt.2.2.2.2.toNat]?).bind λw_=>l2 jt.1 jt.2.2.1 jt.2.2.2.1 jt.2.2.2.2 w_.2.2.2.1 (w_.2.2.2.1.length:Int) (jt.2.1,0)) else none)<|e2 jt.1
def B1 (self:((List Tx)×(List (Key×Bool))×(List Tx)×Int×Int)->P) (e2:(List Tx)->P) (a1:A) (jt:(List Tx)×(List (Key×Bool))×(List Tx)×Int×Int):P:=b1 self e2 (r2 k self e2 a1) a1 jt
theorem zT (rec:RT O) (K:KT O) (a1:A) (jt:(List Tx)×(List (Key×Bool))×(List Tx)×Int×Int):D.N k [1,1,1,1,0,1,0,0] (T1 a1 jt) (kU rec (iv [0,6,45,46,47] []) K)=B1 k (S1 rec a1) (oE K a1) a1 jt:=
 aV (b:=b1 (S1 rec a1) (oE K a1) (s2 k rec K a1) a1 jt) Bye (by rw[xT];rfl)
def q2 (a1:A) (yD:(List Tx)):P:=(kg.ab (yD,())).bind λaf8=>cond (decide (12 < af8.1)) (some (2,()))<|some (0,())
theorem Cu (a1:A) (yD:(List Tx)):oE (ak 2 (ax (D.N k [1,1,1,1,1]) D.K0)) a1 yD=q2 a1 yD:=Bye
def s1 (a1:A):((List Tx)×(List (Key×Bool))×(List Tx)×Int×Int)->P:=λjt=>D.L k [1,1,1,1,0,1,0,0] [0,6,45,46,47] [] (ak 2 (ax (D.N k [1,1,1,1,1]) D.K0)) (T1 a1 jt)
def r1 (a1:A):((List Tx)×(List (Key×Bool))×(List Tx)×Int×Int)->P:=ao (λw v=>B1 k w (q2 a1) a1 v) k
theorem nU (a1:A):s1 k a1=r1 k a1:=by
 funext jt;have h2:oE (ak 2 (ax (D.N k [1,1,1,1,1]) D.K0)) a1=q2 a1:=funext λz=>Cu k a1 z;refine (aq _ _ _ (T1 a1) (λself v=>B1 k self (oE (ak 2 (ax (D.N k [1,1,1,1,1]) D.K0)) a1) a1 v) (λrec v=>zT k rec (ak 2 (ax (D.N k [1,1,1,1,1]) D.K0)) a1 v) k jt).trans ?_;rw[h2];rfl
def q0 (l1:((List Tx)×(List (Key×Bool))×(List Tx)×Int×Int)->P) (a1:A) (xv:(Unit)):P:=l1 (a1.1,([]:List (Key×Bool)),a1.1,(a1.1.length:Int),0)
def Q0 (a1:A) (xv:(Unit)):P:=q0 (r1 k a1) a1 xv
theorem wa (a1:A) (xv:(Unit)):dq (ak 0 (ax (D.N k [1,1,1]) D.K0)) a1 xv=Q0 k a1 xv:=
 aV (b:=q0 (s1 k a1) a1 xv) Bye (by rw[nU];rfl)
def s0 (a1:A):(Int)->P:=λU=>D.L k [1,1,0,1,0,0] [0,14,15,16] [] (ak 0 (ax (D.N k [1,1,1]) D.K0)) (T0 a1 U)
def r0 (a1:A):(Int)->P:=ao (λw v=>b0 w (Q0 k a1) a1 v) k
theorem av (a1:A):s0 k a1=r0 k a1:=by
 funext U;have h0:dq (ak 0 (ax (D.N k [1,1,1]) D.K0)) a1=Q0 k a1:=funext λz=>wa k a1 z;refine (aq _ _ _ (T0 a1) (λself v=>b0 self (dq (ak 0 (ax (D.N k [1,1,1]) D.K0)) a1) a1 v) (λrec v=>nT k rec (ak 0 (ax (D.N k [1,1,1]) D.K0)) a1 v) k U).trans ?_;rw[h0];rfl
def p (l0:(Int)->P) (a1:A):P:=cond (decide (4 < (a1.1.length:Int))) (some (2,()))<|l0 0
theorem af (a1:A):@Eq P (D.W k a1) (p (r0 k a1) a1):=
 aV (b:=p (s0 k a1) a1) Bye (by rw[av])
theorem ok:Ok prog 82 D.sig:=al func82 ap Bye (fc kg.ok (fc pJ.ok (fc eu.ok (aj _))))
end ct
namespace dx
abbrev A:=(List Row)×(List Tx)×Unit
abbrev O:=(List (Key×Bool))×Unit
abbrev P:=Option O
noncomputable def D:FD:={ fn:=f100,tl:=ba,ps:=[(.ro,(.aa ay)),(.ro,(.aa bm))],rs:=[((.map bk .bool),(ai (.map bk .bool)))],lv:=[(3,[1,5,13,14,15]),(8,[5,26,27,28]),(11,[5,26,27,28,33,34,35])],lx:=[(0,[1,5]),(2,[5]),(4,[5,26,27,28])] }
def ab (a:A):P:=@lift O λk=>D.W k a
def T0 (a1:A) (U:(List (Key×Bool))×Int):St:={ n:=44,sl:=[(1,.val (.aa bm) a1.2.1),(5,.own (.map bk .bool) (ai (.map bk .bool)) [] U.1),(13,.val (.aa ay) a1.1),(14,.val i64 (a1.1.length:Int)),(15,.val i64 U.2)],vr:=[],az:=[] }
def S0 (rec:RT O) (a1:A):((List (Key×Bool))×Int)->P:=λU=>rec (T0 a1 U)
def dq (K:KT O) (a1:A):(List (Key×Bool))->P:=λz=>K (.exit 0) ({ n:=44,sl:=[(1,.val (.aa bm) a1.2.1),(5,.own (.map bk .bool) (ai (.map bk .bool)) [] z)],vr:=[],az:=[] })
def b0 (self:((List (Key×Bool))×Int)->P) (e0:(List (Key×Bool))->P) (a1:A) (U:(List (Key×Bool))×Int):P:=cond (decide (U.2 < (a1.1.length:Int))) (if 0<=U.2 then ((a1.1[U.2.toNat]?).bind λbg=>let It:=oU bk U.1 (bg.1,bg.2.1,()) true;self (It,ae (U.2+1))) else none)<|e0 U.1
theorem nT (rec:RT O) (K:KT O) (a1:A) (U:(List (Key×Bool))×Int):D.N k [1,1,0,1,0,0] (T0 a1 U) (kU rec (iv [1,5,13,14,15] []) K)=b0 (S0 rec a1) (dq K a1) a1 U:=Bye
def T1 (a1:A) (fx:(List (Key×Bool))×(List Tx)×Int×Int):St:={ n:=44,sl:=[(5,.own (.map bk .bool) (ai (.map bk .bool)) [] fx.1),(26,.val (.aa bm) fx.2.1),(27,.val i64 fx.2.2.1),(28,.val i64 fx.2.2.2)],vr:=[],az:=[] }
def S1 (rec:RT O) (a1:A):((List (Key×Bool))×(List Tx)×Int×Int)->P:=λfx=>rec (T1 a1 fx)
def oE (K:KT O) (a1:A):(List (Key×Bool))->P:=λz=>K (.exit 2) ({ n:=44,sl:=[(5,.own (.map bk .bool) (ai (.map bk .bool)) [] z)],vr:=[],az:=[] })
def T2 (a1:A) (zV:List Tx) (zW:Int) (zX:Int) (lS:List Key) (i_:Int) (xU:(List (Key×Bool))×Int):St:={ n:=44,sl:=[(5,.own (.map bk .bool) (ai (.map bk .bool)) [] xU.1),(26,.val (.aa bm) zV),(27,.val i64 zW),(28,.val i64 zX),(33,.val (.aa bk) lS),(34,.val i64 i_),(35,.val i64 xU.2)],vr:=[],az:=[] }
def b2 (self:((List (Key×Bool))×Int)->P) (e4:(List (Key×Bool))->P) (a1:A) (zV:List Tx) (zW:Int) (zX:Int) (lS:List Key) (i_:Int) (xU:(List (Key×Bool))×Int):P:=cond (decide (xU.2 < i_)) (if 0<=xU.2 then ((lS[xU.2.toNat]?).bind λW0=>self (oU bk xU.1 W0 true,ae (xU.2+1))) else none)<|e4 xU.1
def q1 (self:((List (Key×Bool))×(List Tx)×Int×Int)->P) (e2:(List (Key×Bool))->P) (a1:A) (zV:List Tx) (zW:Int) (zX:Int) (lS:List Key) (i_:Int) (af9:(List (Key×Bool))):P:=self (af9,zV,zW,ae (zX+1))
def s2 (rec:RT O) (K:KT O) (a1:A):(List Tx)->Int->Int->(List Key)->Int->((List (Key×Bool))×Int)->P:=λzV zW zX lS i_=>λxU=>D.L k [1,1,1,0,1,0,0,1,1,0,0,1,1,0,0] [5,26,27,28,33,34,35] [] (ak 4 (ak 3 (ax (D.N k [1,1,1,0,1,0,0,1,1,1]) (kU rec (iv [5,26,27,28] []) K)))) (T2 a1 zV zW zX lS i_ xU)
def r2 (self:((List (Key×Bool))×(List Tx)×Int×Int)->P) (e2:(List (Key×Bool))->P) (a1:A):(List Tx)->Int->Int->(List Key)->Int->((List (Key×Bool))×Int)->P:=λzV zW zX lS i_=>ao (λw v=>b2 w (q1 self e2 a1 zV zW zX lS i_) a1 zV zW zX lS i_ v) k
theorem xT (rec:RT O) (K:KT O) (a1:A):s2 k rec K a1=r2 k (S1 rec a1) (oE K a1) a1:=
 funext λzV=>funext λzW=>funext λzX=>funext λlS=>funext λi_=>funext λxU=>aq _ _ _ (T2 a1 zV zW zX lS i_) _ (λrec v=>Bye) k xU
def b1 (self:((List (Key×Bool))×(List Tx)×Int×Int)->P) (e2:(List (Key×Bool))->P) (l2:(List Tx)->Int->Int->(List Key)->Int->((List (Key×Bool))×Int)->P) (a1:A) (fx:(List (Key×Bool))×(List Tx)×Int×Int):P:=cond (decide (fx.2.2.2 < fx.2.2.1)) (if 0<=fx.2.2.2 then ((fx.2.1[fx.2.2.2.toNat]?).bind λGB=>l2 fx.2.1 fx.2.2.1 fx.2.2.2 GB.2.2.2.1 (GB.2.2.2.1.length:Int) (fx.1,0)) else none)<|e2 fx.1
def B1 (self:((List (Key×Bool))×(List Tx)×Int×Int)->P) (e2:(List (Key×Bool))->P) (a1:A) (fx:(List (Key×Bool))×(List Tx)×Int×Int):P:=b1 self e2 (r2 k self e2 a1) a1 fx
theorem zT (rec:RT O) (K:KT O) (a1:A) (fx:(List (Key×Bool))×(List Tx)×Int×Int):D.N k [1,1,1,0,1,0,0] (T1 a1 fx) (kU rec (iv [5,26,27,28] []) K)=B1 k (S1 rec a1) (oE K a1) a1 fx:=
 aV (b:=b1 (S1 rec a1) (oE K a1) (s2 k rec K a1) a1 fx) Bye (by rw[xT];rfl)
def q2 (a1:A) (JN:(List (Key×Bool))):P:=some (JN,())
theorem Cu (a1:A) (JN:(List (Key×Bool))):oE (ak 2 (ax (D.N k [1,1,1,1]) D.K0)) a1 JN=q2 a1 JN:=Bye
def s1 (a1:A):((List (Key×Bool))×(List Tx)×Int×Int)->P:=λfx=>D.L k [1,1,1,0,1,0,0] [5,26,27,28] [] (ak 2 (ax (D.N k [1,1,1,1]) D.K0)) (T1 a1 fx)
def r1 (a1:A):((List (Key×Bool))×(List Tx)×Int×Int)->P:=ao (λw v=>B1 k w (q2 a1) a1 v) k
theorem nU (a1:A):s1 k a1=r1 k a1:=by
 funext fx;have h2:oE (ak 2 (ax (D.N k [1,1,1,1]) D.K0)) a1=q2 a1:=funext λz=>Cu k a1 z;refine (aq _ _ _ (T1 a1) (λself v=>B1 k self (oE (ak 2 (ax (D.N k [1,1,1,1]) D.K0)) a1) a1 v) (λrec v=>zT k rec (ak 2 (ax (D.N k [1,1,1,1]) D.K0)) a1 v) k fx).trans ?_;rw[h2];rfl
def q0 (l1:((List (Key×Bool))×(List Tx)×Int×Int)->P) (a1:A) (fm:(List (Key×Bool))):P:=l1 (fm,a1.2.1,(a1.2.1.length:Int),0)
def Q0 (a1:A) (fm:(List (Key×Bool))):P:=q0 (r1 k a1) a1 fm
theorem wa (a1:A) (fm:(List (Key×Bool))):dq (ak 0 (ax (D.N k [1,1,1]) D.K0)) a1 fm=Q0 k a1 fm:=
 aV (b:=q0 (s1 k a1) a1 fm) Bye (by rw[nU];rfl)
def s0 (a1:A):((List (Key×Bool))×Int)->P:=λU=>D.L k [1,1,0,1,0,0] [1,5,13,14,15] [] (ak 0 (ax (D.N k [1,1,1]) D.K0)) (T0 a1 U)
def r0 (a1:A):((List (Key×Bool))×Int)->P:=ao (λw v=>b0 w (Q0 k a1) a1 v) k
theorem av (a1:A):s0 k a1=r0 k a1:=by
 funext U;have h0:dq (ak 0 (ax (D.N k [1,1,1]) D.K0)) a1=Q0 k a1:=funext λz=>wa k a1 z;refine (aq _ _ _ (T0 a1) (λself v=>b0 self (dq (ak 0 (ax (D.N k [1,1,1]) D.K0)) a1) a1 v) (λrec v=>nT k rec (ak 0 (ax (D.N k [1,1,1]) D.K0)) a1 v) k U).trans ?_;rw[h0];rfl
def p (l0:((List (Key×Bool))×Int)->P) (a1:A):P:=l0 (([]:List (Key×Bool)),0)
theorem af (a1:A):@Eq P (D.W k a1) (p (r0 k a1) a1):=
 aV (b:=p (s0 k a1) a1) Bye (by rw[av])
theorem ok:Ok prog 100 D.sig:=al func100 ap Bye (aj _)
end dx
namespace ju
abbrev A:=(List Row)×Unit
abbrev O:=(List Row)×Unit
noncomputable def D:FD:={ fn:=f137,tl:=ba,ps:=[(.ro,(.aa ay))],rs:=[((.aa ay),(ai (.aa ay)))] }
def ab (a:A):Option O:=@lift O λk=>D.W k a
def p (a1:A):Option O:=CQ a1.1 (some (([]:List Row),())) (if ([]:List Row).length+a1.1.length<=be then (some (([]:List Row)++a1.1,())) else none)
theorem af (a1:A):@Eq (Option O) (D.W k a1) (p a1):=Bye
theorem ok:Ok prog 137 D.sig:=al func137 ap Bye (aj _)
end ju
namespace bY
abbrev A:=(List Row)×Row×(Nat×Int)×Unit
abbrev O:=Int×Bool×Unit
abbrev P:=Option O
noncomputable def D:FD:={ fn:=f155,tl:=ba,ps:=[(.ro,(.aa ay)),(.ro,ay),(.fix 156,.fn)],rs:=[(i64,(ah i64)),(.bool,(ah .bool))],gl:=[(156,nS.D.sig)],lv:=[(3,[0,2,4,8,9,10])],lx:=[(0,[0,2,4,8,9])],od:=[(5,[0,1,2,3,4,5,6,7]),(8,[0,1,2,3,4,5,6,7,8,9,10,11,12,13,14,15])] }
def ab (a:A):P:=@lift O λk=>D.W k a
variable (a1:A)
def T0 (U:Int×Int):St:={ n:=49,sl:=[(0,.val (.aa ay) a1.1),(2,.val .fn ((156,a1.2.2.1.2):Nat×Int)),(4,.box ay (ah ay) [] a1.2.1),(8,.val i64 (a1.1.length:Int)),(9,.val i64 U.1),(10,.val i64 U.2)],vr:=[],az:=[] }
def b0 (self:(Int×Int)->P) (e0:Int->P) (a1:A) (U:Int×Int):P:=cond (decide (U.1 < U.2)) (if 0<=ae ((IntKind.wrap .u64 (ae (U.1+U.2))).fdiv (2 ^ 1)) then ((a1.1[(ae ((IntKind.wrap .u64 (ae (U.1+U.2))).fdiv (2 ^ 1))).toNat]?).bind λbg=>(nS.ab (bg,a1.2.1,())).bind λbr=>cond (decide (br.1 < 0)) (self (ae ((ae ((IntKind.wrap .u64 (ae (U.1+U.2))).fdiv (2 ^ 1)))+1),U.2))<|self (U.1,ae ((IntKind.wrap .u64 (ae (U.1+U.2))).fdiv (2 ^ 1)))) else none)<|e0 U.1
def q0 (fm:Int):P:=cond (decide (fm < (a1.1.length:Int))) (if 0<=fm then ((a1.1[fm.toNat]?).bind λzS=>(nS.ab (zS,a1.2.1,())).bind λmK=>some (fm,decide (mK.1=0),())) else none)<|some (fm,false,())
def r0:(Int×Int)->P:=ao (λw v=>b0 w (q0 a1) a1 v) k
theorem av:@Eq ((Int×Int)->P) (λU=>D.L k [1,1,1,0,0,0] [0,2,4,8,9,10] [] (ak 0 (ax (D.N k [1,1,1,1]) D.K0)) (T0 a1 U)) (r0 k a1):=
 funext λU=>aq _ _ _ (T0 a1) _ (λrec v=>Bye) k U
def p (l0:(Int×Int)->P) (a1:A):P:=l0 (0,(a1.1.length:Int))
theorem af:@Eq P (D.W k a1) (p (r0 k a1) a1):=By8 (av k a1) Bye
theorem ok:Ok prog 155 D.sig:=al func155 ap Bye (fc nS.ok (aj _))
end bY
namespace ln
abbrev A:=Change×(List Row)×Unit
abbrev O:=Bool×Unit
noncomputable def D:FD:={ fn:=f212,tl:=ba,ps:=[(.ro,au),(.ro,(.aa ay))],rs:=[(.bool,(ah .bool))],gl:=[(155,bY.D.sig),(215,du.D.sig)],od:=[(2,[0,1,2,3,4,5,6,7,8,9,10,11,12,13,14,15,16,17])] }
def ab (a:A):Option O:=@lift O λk=>D.W k a
def p (a1:A):Option O:=(du.ab (a1.1,())).bind λr2=>(bY.ab (a1.2.1,r2.1,((156,0):Nat×Int),())).bind λr3=>cond (r3.2.1 == a1.1.1) (cond (!r3.2.1) (some (true,()))<|if 0<=r3.1 then ((a1.2.1[r3.1.toNat]?).bind λx4=>some ((Ty.eq ay x4 a1.1.2.1),())) else none)<|some (false,())
theorem af (a1:A):@Eq (Option O) (D.W k a1) (p a1):=Bye
theorem ok:Ok prog 212 D.sig:=al func212 ap Bye (fc bY.ok (fc du.ok (aj _)))
end ln
namespace sv
abbrev A:=(List Row)×Change×Unit
abbrev O:=(List Row)×Unit
abbrev P:=Option O
noncomputable def D:FD:={ fn:=f213,tl:=ba,ps:=[(.ro,(.aa ay)),(.ro,au)],rs:=[((.aa ay),(ai (.aa ay)))],gl:=[(155,bY.D.sig),(215,du.D.sig)] }
def ab (a:A):P:=@lift O λk=>D.W k a
def p (a1:A):P:=(du.ab (a1.2.1,())).bind λr2=>(bY.ab (a1.1,r2.1,((156,0):Nat×Int),())).bind λr3=>if 0<=r3.1/\r3.1<=(a1.1.length:Int) then (if ([]:List Row).length+((a1.1.take r3.1.toNat).drop 0).length<=be then (let y4:=([]:List Row)++((a1.1.take r3.1.toNat).drop 0);let j8:=λ(p7:List Row)=>(let Zq:=λ(p10:Int)=>(if 0<=p10/\p10<=(a1.1.length:Int) then (if p7.length+((a1.1.take a1.1.length).drop p10.toNat).length<=be then (let y12:=p7++((a1.1.take a1.1.length).drop p10.toNat);some (y12,())) else none) else none:P);cond r3.2.1 (Zq (ae (r3.1+1)))<|Zq r3.1:P);cond a1.2.1.2.2.1 (if y4.length+[a1.2.1.2.2.2.1].length<=be then (j8 (y4++[a1.2.1.2.2.2.1])) else none)<|j8 y4) else none) else none
theorem af (a1:A):@Eq P (D.W k a1) (p a1):=Bye
theorem ok:Ok prog 213 D.sig:=al func213 ap Bye (fc bY.ok (fc du.ok (aj _)))
end sv
namespace gj
abbrev A:=(List Row)×(List Change)×Unit
abbrev O:=Cs×Unit
abbrev P:=Option O
noncomputable def D:FD:={ fn:=f138,tl:=ba,ps:=[(.ro,(.aa ay)),(.ro,(.aa au))],rs:=[(yy,(ai yy))],gl:=[(81,gd.D.sig),(137,ju.D.sig),(211,jq.D.sig),(212,ln.D.sig),(213,sv.D.sig)],lv:=[(6,[4,6,18,19,20])],lx:=[(0,[4,6])] }
def ab (a:A):P:=@lift O λk=>D.W k a
variable (a1:A)
def T0 (c_:(List Row)×Int):St:={ n:=45,sl:=[(4,.box yy (ai yy) [] ((0:Int),([]:List Row),())),(6,.own (.aa ay) (ai (.aa ay)) [] c_.1),(18,.val (.aa au) a1.2.1),(19,.val i64 (a1.2.1.length:Int)),(20,.val i64 c_.2)],vr:=[],az:=[] }
def b0 (self:((List Row)×Int)->P) (e0:(List Row)->P) (a1:A) (c_:(List Row)×Int):P:=cond (decide (c_.2 < (a1.2.1.length:Int))) (if 0<=c_.2 then ((a1.2.1[c_.2.toNat]?).bind λiz=>(jq.ab (iz,())).bind λfw=>cond (!decide (fw.1=0)) (some ((fw.1,([]:List Row),()),()))<|(ln.ab (iz,c_.1,())).bind λmK=>cond (!mK.1) (some ((8,([]:List Row),()),()))<|(sv.ab (c_.1,iz,())).bind λuR=>self (uR.1,ae (c_.2+1))) else none)<|e0 c_.1
def q0 (a1:A) (xv:(List Row)):P:=cond (decide (60 < (xv.length:Int))) (some ((2,([]:List Row),()),()))<|some ((0,xv,()),())
def r0:((List Row)×Int)->P:=ao (λw v=>b0 w (q0 a1) a1 v) k
theorem av:@Eq (((List Row)×Int)->P) (λc_=>D.L k [1,1,1,0,1,0,0] [4,6,18,19,20] [] (ak 0 (ax (D.N k [1,1,1,1]) D.K0)) (T0 a1 c_)) (r0 k a1):=
 funext λc_=>aq _ _ _ (T0 a1) _ (λrec v=>Bye) k c_
def p (l0:((List Row)×Int)->P) (a1:A):P:=(gd.ab (a1.1,())).bind λr2=>cond (!decide (r2.1=0)) (some ((r2.1,([]:List Row),()),()))<|(ju.ab (a1.1,())).bind λr3=>l0 (r3.1,0)
theorem af:@Eq P (D.W k a1) (p (r0 k a1) a1):=By8 (av k a1) Bye
theorem ok:Ok prog 138 D.sig:=al func138 ap Bye (fc gd.ok (fc ju.ok (fc jq.ok (fc ln.ok (fc sv.ok (aj _))))))
end gj
namespace lL
abbrev A:=(List Change)×Unit
abbrev O:=(List Change)×Unit
abbrev P:=Option O
noncomputable def D:FD:={ fn:=f144,tl:=ba,ps:=[(.ro,(.aa au))],rs:=[((.aa au),(ai (.aa au)))],lv:=[(3,[0,3,4])],lx:=[(0,[3])] }
def ab (a:A):P:=@lift O λk=>D.W k a
variable (a1:A)
def T0 (U:(List Change)×Int):St:={ n:=30,sl:=[(0,.val (.aa au) a1.1),(3,.own (.aa au) (ai (.aa au)) [] U.1),(4,.val i64 U.2)],vr:=[],az:=[] }
def b0 (self:((List Change)×Int)->P) (e0:(List Change)->P) (a1:A) (U:(List Change)×Int):P:=cond (decide (0<=U.2)) (if 0<=U.2 then ((a1.1[U.2.toNat]?).bind λbg=>if U.1.length+[(bg.2.2.1,bg.2.2.2.1,bg.1,bg.2.1,())].length<=be then (let It:=U.1++[(bg.2.2.1,bg.2.2.2.1,bg.1,bg.2.1,())];self (It,ae (U.2 - 1))) else none) else none)<|e0 U.1
def q0 (a1:A) (fm:(List Change)):P:=some (fm,())
def r0:((List Change)×Int)->P:=ao (λw v=>b0 w (q0 a1) a1 v) k
theorem av:@Eq (((List Change)×Int)->P) (λU=>D.L k [1,1,0,1,0,0] [0,3,4] [] (ak 0 (ax (D.N k [1,1,1]) D.K0)) (T0 a1 U)) (r0 k a1):=
 funext λU=>aq _ _ _ (T0 a1) _ (λrec v=>Bye) k U
def p (l0:((List Change)×Int)->P) (a1:A):P:=l0 (([]:List Change),ae ((a1.1.length:Int) - 1))
theorem af:@Eq P (D.W k a1) (p (r0 k a1) a1):=By8 (av k a1) Bye
theorem ok:Ok prog 144 D.sig:=al func144 ap Bye (aj _)
end lL
namespace lu
abbrev A:=(List Row)×(List Tx)×Unit
abbrev O:=(List Row)×Int×Unit
abbrev P:=Option O
noncomputable def D:FD:={ fn:=f101,tl:=ba,ps:=[(.ro,(.aa ay)),(.ro,(.aa bm))],rs:=[((.aa ay),(ai (.aa ay))),(i64,(ah i64))],gl:=[(137,ju.D.sig),(138,gj.D.sig),(144,lL.D.sig)],lv:=[(2,[0,9,10,11])],lx:=[(0,[0])],lf:=[(2,[(0,Byc)])],od:=[(6,[0,1,2,3])] }
def ab (a:A):P:=@lift O λk=>D.W k a
variable (a1:A)
def T0 (U:(List Row)×Int):St:={ n:=30,sl:=[(0,.val (.aa ay) U.1),(9,.val (.aa bm) a1.2.1),(10,.val i64 (a1.2.1.length:Int)),(11,.val i64 U.2)],vr:=[],az:=[] }
def b0 (self:((List Row)×Int)->P) (e0:(List Row)->P) (a1:A) (U:(List Row)×Int):P:=cond (decide (U.2 < (a1.2.1.length:Int))) (if 0<=U.2 then ((a1.2.1[U.2.toNat]?).bind λbg=>(lL.ab (bg.2.1,())).bind λbr=>(gj.ab (U.1,br.1,())).bind λfu=>cond (!decide (fu.1.1=0)) (some (([]:List Row),fu.1.1,()))<|self (fu.1.2.1,ae (U.2+1))) else none)<|e0 U.1
def q0 (a1:A) (BZ:(List Row)):P:=(ju.ab (BZ,())).bind λmK=>some (mK.1,0,())
def r0:((List Row)×Int)->P:=ao (λw v=>b0 w (q0 a1) a1 v) k
theorem av:@Eq (((List Row)×Int)->P) (λU=>D.L k [1,0,1,0,0] [0,9,10,11] [(0,Byc)] (ak 0 (ax (D.N k [1,1]) D.K0)) (T0 a1 U)) (r0 k a1):=
 funext λU=>aq _ _ _ (T0 a1) _ (λrec v=>Bye) k U
def p (l0:((List Row)×Int)->P) (a1:A):P:=l0 (a1.1,0)
theorem af:@Eq P (D.W k a1) (p (r0 k a1) a1):=By8 (av k a1) Bye
theorem ok:Ok prog 101 D.sig:=al func101 ap Bye (fc ju.ok (fc gj.ok (fc lL.ok (aj _))))
end lu
namespace mw
abbrev A:=Plain×Unit
abbrev O:=Int×Unit
noncomputable def D:FD:={ fn:=f47,tl:=ba,ps:=[(.ro,kE)],rs:=[(i64,(ah i64))],gl:=[(36,ee.D.sig),(81,gd.D.sig),(82,ct.D.sig),(100,dx.D.sig),(101,lu.D.sig)],od:=[(7,[0,1,2,3,4,5,6,7,8,9,10,11,12,13,14,15,16,17,18,19,20,21,22,23])],ar:=[(7,[1,6,11,13,18,20])],bx:=[(7,[1])] }
def ab (a:A):Option O:=@lift O λk=>D.W k a
def p (a1:A):Option O:=(gd.ab (a1.1.1,())).bind λr2=>cond (!decide (r2.1=0)) (some (r2.1,()))<|(ct.ab (a1.1.2.1,())).bind λr3=>cond (!decide (r3.1=0)) (some (r3.1,()))<|let j8:Option O:=(dx.ab (a1.1.1,a1.1.2.1,())).bind λr9=>cond (decide (12 < (r9.1.length:Int))) (some (2,()))<|(lu.ab (a1.1.1,a1.1.2.1,())).bind λqI=>cond (!decide (qI.2.1=0)) (some (8,()))<|some (0,());(ee.ab (a1.1.2.2.1,1,100,())).bind λr4=>cond (!r4.1) (some (3,()))<|cond (decide (0 < (a1.1.2.1.length:Int))) (if 0<=ae ((a1.1.2.1.length:Int) - 1) then ((a1.1.2.1[(ae ((a1.1.2.1.length:Int) - (1:Int))).toNat]?).bind λx5=>cond (decide (a1.1.2.2.1<=x5.1)) (some (3,()))<|j8) else none)<|j8
theorem af (a1:A):@Eq (Option O) (D.W k a1) (p a1):=Bye
theorem ok:Ok prog 47 D.sig:=al func47 ap Bye (fc ee.ok (fc gd.ok (fc ct.ok (fc dx.ok (fc lu.ok (aj _))))))
end mw
namespace j_
abbrev A:=Log×Unit
abbrev O:=Int×Unit
noncomputable def D:FD:={ fn:=f39,tl:=ba,ps:=[(.ro,ma)],rs:=[(i64,(ah i64))] }
def ab (a:A):Option O:=@lift O λk=>D.W k a
def p (a1:A):Option O:=some (ae ((a1.1.1.length:Int)+(a1.1.2.1.length:Int)),())
theorem af (a1:A):@Eq (Option O) (D.W k a1) (p a1):=Bye
theorem ok:Ok prog 39 D.sig:=al func39 ap Bye (aj _)
end j_
namespace cj
abbrev A:=Byt×Unit
abbrev O:=Byt×Unit
noncomputable def D:FD:={ fn:=f91,tl:=ba,ps:=[(.ro,(.aa u8))],rs:=[((.aa u8),(ai (.aa u8)))] }
def ab (a:A):Option O:=@lift O λk=>D.W k a
def p (a1:A):Option O:=if ([]:Byt).length+a1.1.length<=be then (some (([]:Byt)++a1.1,())) else none
theorem af (a1:A):@Eq (Option O) (D.W k a1) (p a1):=Bye
theorem ok:Ok prog 91 D.sig:=al func91 ap Bye (aj _)
end cj
namespace rg
abbrev A:=Int×Unit
abbrev O:=Bool×Unit
noncomputable def D:FD:={ fn:=f197,tl:=ba,ps:=[(.ro,i64)],rs:=[(.bool,(ah .bool))] }
def ab (a:A):Option O:=@lift O λk=>D.W k a
def p (a1:A):Option O:=cond (decide (a1.1=2)) (some (true,()))<|cond (decide (a1.1=3)) (some (true,()))<|some (decide (a1.1=4),())
theorem af (a1:A):@Eq (Option O) (D.W k a1) (p a1):=Bye
theorem ok:Ok prog 197 D.sig:=al func197 ap Bye (aj _)
end rg
namespace lw
abbrev A:=(List cv)×Unit
abbrev O:=Int×Unit
abbrev P:=Option O
noncomputable def D:FD:={ fn:=f198,tl:=ba,ps:=[(.ro,(.aa qX))],rs:=[(i64,(ah i64))],gl:=[(36,ee.D.sig)],lv:=[(5,[3,10,11,12])],lx:=[(0,[])] }
def ab (a:A):P:=@lift O λk=>D.W k a
variable (a1:A)
def T0 (U:Int×Int):St:={ n:=45,sl:=[(3,.val i64 U.1),(10,.val (.aa qX) a1.1),(11,.val i64 (a1.1.length:Int)),(12,.val i64 U.2)],vr:=[],az:=[] }
def b0 (self:(Int×Int)->P) (e0:(Unit)->P) (a1:A) (U:Int×Int):P:=cond (decide (U.2 < (a1.1.length:Int))) (if 0<=U.2 then ((a1.1[U.2.toNat]?).bind λbg=>(ee.ab (bg.1,0,63,())).bind λbr=>cond (!br.1) (some (3,()))<|(ee.ab ((bg.2.1.length:Int),1,64,())).bind λfu=>cond (!fu.1) (some (3,()))<|cond (decide (64 < ae (bg.1+(bg.2.1.length:Int)))) (some (3,()))<|cond (decide (bg.1 < U.1)) (some (1,()))<|self (ae ((ae (bg.1+(bg.2.1.length:Int)))+1),ae (U.2+1))) else none)<|e0 ()
def q0 (a1:A) (BZ:(Unit)):P:=some (0,())
def r0:(Int×Int)->P:=ao (λw v=>b0 w (q0 a1) a1 v) k
theorem av:@Eq ((Int×Int)->P) (λU=>D.L k [1,1,1,0,1,0,0] [3,10,11,12] [] (ak 0 (ax (D.N k [1,1,1,1]) D.K0)) (T0 a1 U)) (r0 k a1):=
 funext λU=>aq _ _ _ (T0 a1) _ (λrec v=>Bye) k U
def p (l0:(Int×Int)->P) (a1:A):P:=cond (decide (64 < (a1.1.length:Int))) (some (2,()))<|l0 (0,0)
theorem af:@Eq P (D.W k a1) (p (r0 k a1) a1):=By8 (av k a1) Bye
theorem ok:Ok prog 198 D.sig:=al func198 ap Bye (fc ee.ok (aj _))
end lw
namespace lM
abbrev A:=bz×Unit
abbrev O:=Int×Unit
abbrev P:=Option O
noncomputable def D:FD:={ fn:=f124,tl:=ba,ps:=[(.ro,jW)],rs:=[(i64,(ah i64))],gl:=[(36,ee.D.sig),(150,pJ.D.sig),(197,rg.D.sig),(198,lw.D.sig)] }
def ab (a:A):P:=@lift O λk=>D.W k a
def p (a1:A):P:=let j15:P:=let j23:P:=(lw.ab (a1.1.2.2.2.1,())).bind λEg=>cond (!decide (Eg.1=0)) (some (Eg.1,()))<|(rg.ab (a1.1.1,())).bind λZr=>cond Zr.1 (cond (decide ((a1.1.2.2.2.1.length:Int)=0)) (some (1,()))<|cond (decide (a1.1.1=4)) (cond (!decide ((a1.1.2.2.2.1.length:Int)=1)) (some (1,()))<|(a1.1.2.2.2.1[0]?).bind λx26=>cond (!decide ((x26.2.1.length:Int)=64)) (some (1,()))<|some (0,()))<|some (0,()))<|cond (decide (a1.1.1=4)) (cond (!decide ((a1.1.2.2.2.1.length:Int)=1)) (some (1,()))<|(a1.1.2.2.2.1[0]?).bind λx27=>cond (!decide ((x27.2.1.length:Int)=64)) (some (1,()))<|some (0,()))<|some (0,());cond (!decide (a1.1.1=4)) ((pJ.ab (a1.1.2.1,())).bind λFo=>cond (!Fo.1) (some (3,()))<|(ee.ab (a1.1.2.2.1,0,11,())).bind λEh=>cond (!Eh.1) (some (3,()))<|j23)<|(ee.ab (a1.1.2.2.1,0,11,())).bind λEi=>cond (!Ei.1) (some (3,()))<|j23;(ee.ab (a1.1.1,1,6,())).bind λr2=>cond (!r2.1) (some (1,()))<|(rg.ab (a1.1.1,())).bind λr3=>cond (!r3.1) (cond (!decide (a1.1.2.2.1=0)) (some (1,()))<|cond (decide (0 < (a1.1.2.2.2.1.length:Int))) (some (1,()))<|cond (decide (a1.1.1=4)) (cond (!decide (a1.1.2.1=0)) (some (1,()))<|j15)<|j15)<|cond (decide (a1.1.1=4)) (cond (!decide (a1.1.2.1=0)) (some (1,()))<|j15)<|j15
theorem af (a1:A):@Eq P (D.W k a1) (p a1):=Bye
theorem ok:Ok prog 124 D.sig:=al func124 ap Bye (fc ee.ok (fc pJ.ok (fc rg.ok (fc lw.ok (aj _)))))
end lM
namespace fk
abbrev A:=Byt×Byt×Unit
abbrev O:=Bool×Unit
abbrev P:=Option O
noncomputable def D:FD:={ fn:=f127,tl:=ba,ps:=[(.ro,(.aa u8)),(.ro,(.aa u8))],rs:=[(.bool,(ah .bool))],lv:=[(4,[0,1,12,13])],lx:=[(0,[])],od:=[(6,[0,1,2,3,4,5,6,7,8])] }
def ab (a:A):P:=@lift O λk=>D.W k a
variable (a1:A)
def T0 (U:Int):St:={ n:=26,sl:=[(0,.val (.aa u8) a1.1),(1,.val (.aa u8) a1.2.1),(12,.val i64 (a1.1.length:Int)),(13,.val i64 U)],vr:=[],az:=[] }
def b0 (self:Int->P) (e0:(Unit)->P) (a1:A) (U:Int):P:=cond (decide (U < (a1.1.length:Int))) (if 0<=U then ((a1.1[U.toNat]?).bind λbg=>if 0<=U then ((a1.2.1[U.toNat]?).bind λpA=>cond (!decide ((bg.toNat:Int)=(pA.toNat:Int))) (some (false,()))<|self (ae (U+1))) else none) else none)<|e0 ()
abbrev B0 (_:Nat):=b0
def q0 (a1:A) (fm:(Unit)):P:=some (true,())
abbrev Q0 (_:Nat):=q0
def r0:(Int)->P:=ao (λw v=>B0 k w (Q0 k a1) a1 v) k
theorem av:@Eq ((Int)->P) (λU=>D.L k [1,1,0,1,0,0] [0,1,12,13] [] (ak 0 (ax (D.N k [1,1,1]) D.K0)) (T0 a1 U)) (r0 k a1):=
 funext λU=>aq _ _ _ (T0 a1) _ (λrec v=>Bye) k U
def p (l0:(Int)->P) (a1:A):P:=cond (!decide ((a1.1.length:Int)=(a1.2.1.length:Int))) (some (false,()))<|l0 0
theorem af:@Eq P (D.W k a1) (p (r0 k a1) a1):=By8 (av k a1) Bye
theorem ok:Ok prog 127 D.sig:=al func127 ap Bye (aj _)
end fk
namespace ir
abbrev A:=bz×Unit
abbrev O:=Byt×Unit
abbrev P:=Option O
noncomputable def D:FD:={ fn:=f219,tl:=ba,ps:=[(.ro,jW)],rs:=[((.aa u8),(ai (.aa u8)))],lv:=[(3,[3,24,25,26]),(11,[3,6,51,52,53])],lx:=[(0,[3]),(2,[3,6])] }
def ab (a:A):P:=@lift O λk=>D.W k a
def T0 (a1:A) (U:Byt×Int):St:={ n:=72,sl:=[(3,.own (.aa u8) (ai (.aa u8)) [] U.1),(24,.val (.aa qX) a1.1.2.2.2.1),(25,.val i64 (a1.1.2.2.2.1.length:Int)),(26,.val i64 U.2)],vr:=[],az:=[] }
def S0 (rec:RT O) (a1:A):(Byt×Int)->P:=λU=>rec (T0 a1 U)
def dq (K:KT O) (a1:A):Byt->P:=λz=>K (.exit 0) ({ n:=72,sl:=[(3,.own (.aa u8) (ai (.aa u8)) [] z)],vr:=[],az:=[] })
def b0 (self:(Byt×Int)->P) (e0:Byt->P) (a1:A) (U:Byt×Int):P:=cond (decide (U.2 < (a1.1.2.2.2.1.length:Int))) (if 0<=U.2 then ((a1.1.2.2.2.1[U.2.toNat]?).bind λbg=>if U.1.length+[UInt8.ofInt bg.1,UInt8.ofInt (bg.2.1.length:Int)].length<=be then (let It:=U.1++[UInt8.ofInt bg.1,UInt8.ofInt (bg.2.1.length:Int)];if It.length+bg.2.1.length<=be then (self (It++bg.2.1,ae (U.2+1))) else none) else none) else none)<|e0 U.1
theorem nT (rec:RT O) (K:KT O) (a1:A) (U:Byt×Int):D.N k [1,1,0,1,0,0] (T0 a1 U) (kU rec (iv [3,24,25,26] []) K)=b0 (S0 rec a1) (dq K a1) a1 U:=Bye
def T1 (a1:A) (da:Byt) (fy:Int) (gx:Int×Int):St:={ n:=72,sl:=[(3,.own (.aa u8) (ai (.aa u8)) [] da),(6,.val i64 gx.1),(51,.ref 3 [] [0,0]),(52,.val i64 fy),(53,.val i64 gx.2)],vr:=[],az:=[] }
def b1 (self:(Int×Int)->P) (e2:Int->P) (a1:A) (da:Byt) (fy:Int) (gx:Int×Int):P:=cond (decide (gx.2 < fy)) (if 0<=gx.2/\gx.2 < (da.length:Int) then ((da[gx.2.toNat]?).bind λw_=>self ((ae ((ae (gx.1*31))+(ae (w_.toNat:Int)))).tmod 65521,ae (gx.2+1))) else none)<|e2 gx.1
def q1 (a1:A) (da:Byt) (fy:Int) (wb:Int):P:=if da.length+[UInt8.ofInt (wb.fdiv (2 ^ 8)),UInt8.ofInt wb].length<=be then (let W2:=da++[UInt8.ofInt (wb.fdiv (2 ^ 8)),UInt8.ofInt wb];some (W2,())) else none
def s1 (a1:A):Byt->Int->(Int×Int)->P:=λda fy=>λgx=>D.L k [1,1,1,1,1,0,1,0,0] [3,6,51,52,53] [] (ak 2 (ax (D.N k [1,1,1,1,1,1]) D.K0)) (T1 a1 da fy gx)
def r1 (a1:A):Byt->Int->(Int×Int)->P:=λda fy=>ao (λw v=>b1 w (q1 a1 da fy) a1 da fy v) k
theorem nU (a1:A):s1 k a1=r1 k a1:=
 funext λda=>funext λfy=>funext λgx=>aq _ _ _ (T1 a1 da fy) _ (λrec v=>Bye) k gx
def q0 (l1:Byt->Int->(Int×Int)->P) (a1:A) (fm:Byt):P:=if 0<=(0:Int)/\0 < (fm.length:Int) then ((fm[0]?).bind λzS=>let EP:=fm.set 0 (UInt8.ofInt (ae ((fm.length:Int)+2)));l1 EP (EP.length:Int) (1,0)) else none
def Q0 (a1:A) (fm:Byt):P:=q0 (r1 k a1) a1 fm
theorem wa (a1:A) (fm:Byt):dq (ak 0 (ax (D.N k [1,1,1]) D.K0)) a1 fm=Q0 k a1 fm:=
 aV (b:=q0 (s1 k a1) a1 fm) Bye (by rw[nU];rfl)
def s0 (a1:A):(Byt×Int)->P:=λU=>D.L k [1,1,0,1,0,0] [3,24,25,26] [] (ak 0 (ax (D.N k [1,1,1]) D.K0)) (T0 a1 U)
def r0 (a1:A):(Byt×Int)->P:=ao (λw v=>b0 w (Q0 k a1) a1 v) k
theorem av (a1:A):s0 k a1=r0 k a1:=by
 funext U;have h0:dq (ak 0 (ax (D.N k [1,1,1]) D.K0)) a1=Q0 k a1:=funext λz=>wa k a1 z;refine (aq _ _ _ (T0 a1) (λself v=>b0 self (dq (ak 0 (ax (D.N k [1,1,1]) D.K0)) a1) a1 v) (λrec v=>nT k rec (ak 0 (ax (D.N k [1,1,1]) D.K0)) a1 v) k U).trans ?_;rw[h0];rfl
def p (l0:(Byt×Int)->P) (a1:A):P:=l0 ([(0:UInt8),UInt8.ofInt a1.1.1,UInt8.ofInt a1.1.2.1,UInt8.ofInt a1.1.2.2.1,UInt8.ofInt (a1.1.2.2.2.1.length:Int)],0)
theorem af (a1:A):@Eq P (D.W k a1) (p (r0 k a1) a1):=
 aV (b:=p (s0 k a1) a1) Bye (by rw[av])
theorem ok:Ok prog 219 D.sig:=al func219 ap Bye (aj _)
end ir
namespace nK
abbrev A:=Byt×Unit
abbrev O:=bz×Int×Unit
abbrev P:=Option O
noncomputable def D:FD:={ fn:=f193,tl:=ba,ps:=[(.ro,(.aa u8))],rs:=[(jW,(ai jW)),(i64,(ah i64))],gl:=[(91,cj.D.sig),(124,lM.D.sig),(127,fk.D.sig),(219,ir.D.sig)],lv:=[(7,[2,4,5,6,7,52,53])],lx:=[(0,[2,4,5,6,7])],od:=[(4,[0,1,2,3,4,5,6,7,8,9,10,11,12,13,14]),(11,[0,1,2,3,4,5,6,7,8,9,10,11,12,13,14,15,16,17,18,19,20])] }
def ab (a:A):P:=@lift O λk=>D.W k a
variable (a1:A)
def T0 (a1:A) (xw:Byt) (AE:Int) (Dq:Int) (ku:bz×Int×Int):St:={ n:=123,sl:=[(2,.box jW (ai jW) [] ((0:Int),(0:Int),(0:Int),([]:List cv),())),(4,.val (.aa u8) xw),(5,.box jW (ai jW) [] ku.1),(6,.val i64 ku.2.1),(7,.val i64 AE),(52,.val i64 Dq),(53,.val i64 ku.2.2)],vr:=[],az:=[] }
def b0 (self:(bz×Int×Int)->P) (e0:(bz×Int)->P) (a1:A) (xw:Byt) (AE:Int) (Dq:Int) (ku:bz×Int×Int):P:=cond (decide (ku.2.2 < Dq)) (cond (decide (AE < ae (ku.2.1+2))) (some ((0,0,0,([]:List cv),()),0,()))<|if 0<=ae (ku.2.1+1) then ((xw[(ae (ku.2.1+(1:Int))).toNat]?).bind λW3=>cond (decide (AE < ae ((ae (ku.2.1+2))+(ae (W3.toNat:Int))))) (some ((0,0,0,([]:List cv),()),0,()))<|if 0<=ae (ku.2.1+1) then ((xw[(ae (ku.2.1+(1:Int))).toNat]?).bind λLb=>if 0<=ku.2.1 then ((xw[ku.2.1.toNat]?).bind λSb=>if 0<=ae (ku.2.1+2)/\ae (ku.2.1+2)<=ae ((ae (ku.2.1+2))+(ae (Lb.toNat:Int)))/\ae ((ae (ku.2.1+2))+(ae (Lb.toNat:Int)))<=(xw.length:Int) then ((cj.ab ((xw.take (ae ((ae (ku.2.1+2))+(ae (Lb.toNat:Int)))).toNat).drop (ae (ku.2.1+2)).toNat,())).bind λN_=>if ku.1.2.2.2.1.length+[(ae (Sb.toNat:Int),N_.1,())].length<=be then (let abf:=ku.1.2.2.2.1++[(ae (Sb.toNat:Int),N_.1,())];self ((ku.1.1,ku.1.2.1,ku.1.2.2.1,abf,ku.1.2.2.2.2),ae (ku.2.1+(ae (2+(ae (Lb.toNat:Int))))),ae (ku.2.2+1))) else none) else none) else none) else none) else none)<|e0 (ku.1,ku.2.1)
abbrev B0 (_:Nat):=b0
def q0 (a1:A) (xw:Byt) (AE:Int) (Dq:Int) (W4:(bz×Int)):P:=cond (!decide (W4.2=AE)) (some ((0,0,0,([]:List cv),()),0,()))<|(lM.ab (W4.1,())).bind λyp=>cond (!decide (yp.1=0)) (some ((0,0,0,([]:List cv),()),0,()))<|(ir.ab (W4.1,())).bind λabh=>(fk.ab (abh.1,xw,())).bind λSc=>cond (!Sc.1) (some ((0,0,0,([]:List cv),()),0,()))<|some (W4.1,(xw.length:Int),())
abbrev Q0 (_:Nat):=q0
def r0:Byt->Int->Int->(bz×Int×Int)->P:=λxw AE Dq=>ao (λw v=>B0 k w (Q0 k a1 xw AE Dq) a1 xw AE Dq v) k
theorem av:@Eq (Byt->Int->Int->(bz×Int×Int)->P) (λxw AE Dq=>λku=>D.L k [1,1,1,1,1,0,1,0,0] [2,4,5,6,7,52,53] [] (ak 0 (ax (D.N k [1,1,1,1,1,1]) D.K0)) (T0 a1 xw AE Dq ku)) (r0 k a1):=
 funext λxw=>funext λAE=>funext λDq=>funext λku=>aq _ _ _ (T0 a1 xw AE Dq) _ (λrec v=>Bye) k ku
def p (l0:Byt->Int->Int->(bz×Int×Int)->P) (a1:A):P:=cond (decide ((a1.1.length:Int) < 7)) (some ((0,0,0,([]:List cv),()),0,()))<|(a1.1[0]?).bind λx2=>cond (decide ((a1.1.length:Int) < ae (x2.toNat:Int))) (some ((0,0,0,([]:List cv),()),0,()))<|(a1.1[0]?).bind λx3=>cond (decide ((x3.toNat:Int) < 7)) (some ((0,0,0,([]:List cv),()),0,()))<|(a1.1[0]?).bind λx4=>if 0<=(x4.toNat:Int)/\(x4.toNat:Int)<=(a1.1.length:Int) then ((((a1.1.take (x4.toNat:Int).toNat).drop 0)[1]?).bind λx5=>(((a1.1.take (x4.toNat:Int).toNat).drop 0)[2]?).bind λx6=>(((a1.1.take (x4.toNat:Int).toNat).drop 0)[3]?).bind λx7=>(((a1.1.take (x4.toNat:Int).toNat).drop 0)[4]?).bind λx8=>l0 ((a1.1.take (x4.toNat:Int).toNat).drop 0) (ae ((((a1.1.take (x4.toNat:Int).toNat).drop 0).length:Int) - 2)) (ae (x8.toNat:Int)) ((ae (x5.toNat:Int),ae (x6.toNat:Int),ae (x7.toNat:Int),([]:List cv),()),5,0)) else none
theorem af:@Eq P (D.W k a1) (p (r0 k a1) a1):=By8 (av k a1) Bye
theorem ok:Ok prog 193 D.sig:=al func193 ap Bye (fc cj.ok (fc lM.ok (fc fk.ok (fc ir.ok (aj _)))))
end nK
namespace nm
abbrev A:=Byt×Unit
abbrev O:=(List bz)×Int×Unit
abbrev P:=Option O
noncomputable def D:FD:={ fn:=f117,tl:=ba,ps:=[(.ro,(.aa u8))],rs:=[((.aa jW),(ai (.aa jW))),(i64,(ah i64))],gl:=[(193,nK.D.sig)],lv:=[(3,[0,4,5])] }
def ab (a:A):P:=@lift O λk=>D.W k a
variable (a1:A)
def T0 (U:(List bz)×Int):St:={ n:=26,sl:=[(0,.val (.aa u8) a1.1),(4,.own (.aa jW) (ai (.aa jW)) [] U.1),(5,.val i64 U.2)],vr:=[],az:=[] }
def b0 (self:((List bz)×Int)->P) (a1:A) (U:(List bz)×Int):P:=if 0<=U.2/\U.2<=(a1.1.length:Int) then ((nK.ab ((a1.1.take a1.1.length).drop U.2.toNat,())).bind λci=>cond (decide (ci.2.1=0)) (some (U.1,U.2,()))<|if U.1.length+[ci.1].length<=be then (self (U.1++[ci.1],ae (U.2+ci.2.1))) else none) else none
abbrev B0 (_:Nat):=b0
def r0:((List bz)×Int)->P:=ao (λw v=>B0 k w a1 v) k
theorem av:@Eq (((List bz)×Int)->P) (λU=>D.L k [1,1,1,0,0] [0,4,5] [] (ak 0 D.K0) (T0 a1 U)) (r0 k a1):=
 funext λU=>aq _ _ _ (T0 a1) _ (λrec v=>Bye) k U
def p (l0:((List bz)×Int)->P) (a1:A):P:=l0 (([]:List bz),0)
theorem af:@Eq P (D.W k a1) (p (r0 k a1) a1):=By8 (av k a1) Bye
theorem ok:Ok prog 117 D.sig:=al func117 ap Bye (fc nK.ok (aj _))
end nm
namespace mf
abbrev A:=Log×Unit
abbrev O:=Int×Unit
abbrev P:=Option O
noncomputable def D:FD:={ fn:=f55,tl:=ba,ps:=[(.ro,ma)],rs:=[(i64,(ah i64))],gl:=[(39,j_.D.sig),(117,nm.D.sig)],lv:=[(4,[14,15,16])],lx:=[(0,[])] }
def ab (a:A):P:=@lift O λk=>D.W k a
variable (a1:A)
def T0 (bv:Int):St:={ n:=30,sl:=[(14,.own (.aa (.aa u8)) (.aa true (ah (.aa u8))) [] [a1.1.1,a1.1.2.1]),(15,.val i64 ([a1.1.1,a1.1.2.1].length:Int)),(16,.val i64 bv)],vr:=[],az:=[] }
def b0 (self:Int->P) (e0:(Unit)->P) (a1:A) (bv:Int):P:=cond (decide (bv < ([a1.1.1,a1.1.2.1].length:Int))) (if 0<=bv/\bv < ([a1.1.1,a1.1.2.1].length:Int) then (([a1.1.1,a1.1.2.1][bv.toNat]?).bind λpA=>(nm.ab (pA,())).bind λfu=>cond (!decide (fu.2.1=(pA.length:Int))) (some (5,()))<|self (ae (bv+1))) else none)<|e0 ()
def q0 (a1:A) (BZ:(Unit)):P:=some (0,())
def r0:(Int)->P:=ao (λw v=>b0 w (q0 a1) a1 v) k
theorem av:@Eq ((Int)->P) (λbv=>D.L k [1,1,0,1,0,0] [14,15,16] [] (ak 0 (ax (D.N k [1,1,1]) D.K0)) (T0 a1 bv)) (r0 k a1):=
 funext λbv=>aq _ _ _ (T0 a1) _ (λrec v=>Bye) k bv
def p (l0:(Int)->P) (a1:A):P:=(j_.ab (a1.1,())).bind λr2=>cond (decide (16000 < r2.1)) (some (2,()))<|l0 0
theorem af:@Eq P (D.W k a1) (p (r0 k a1) a1):=By8 (av k a1) Bye
theorem ok:Ok prog 55 D.sig:=al func55 ap Bye (fc j_.ok (fc nm.ok (aj _)))
end mf
namespace fj
abbrev A:=Byt×Unit
abbrev O:=Int×Unit
noncomputable def D:FD:={ fn:=f119,tl:=ba,ps:=[(.ro,(.aa u8))],rs:=[(i64,(ah i64))] }
def ab (a:A):Option O:=@lift O λk=>D.W k a
def p (a1:A):Option O:=(a1.1[0]?).bind λx2=>some (ae (x2.toNat:Int),())
theorem af (a1:A):@Eq (Option O) (D.W k a1) (p a1):=Bye
theorem ok:Ok prog 119 D.sig:=al func119 ap Bye (aj _)
end fj
namespace mZ
abbrev A:=Byt×Int×Unit
abbrev O:=Int×Int×Unit
noncomputable def D:FD:={ fn:=f194,tl:=ba,ps:=[(.ro,(.aa u8)),(.ro,i64)],rs:=[(i64,(ah i64)),(i64,(ah i64))],od:=[(1,[0,1,2,3,4,5,6,7,8,9,10,11,12,13,14,15])] }
def ab (a:A):Option O:=@lift O λk=>D.W k a
def p (a1:A):Option O:=if 0<=ae (2+(ae (2*a1.2.1))) then ((a1.1[(ae ((2:Int)+(ae ((2:Int)*a1.2.1)))).toNat]?).bind λx2=>if 0<=ae (3+(ae (2*a1.2.1))) then ((a1.1[(ae ((3:Int)+(ae ((2:Int)*a1.2.1)))).toNat]?).bind λx3=>some (ae (x2.toNat:Int),ae (x3.toNat:Int),())) else none) else none
theorem af (a1:A):@Eq (Option O) (D.W k a1) (p a1):=Bye
theorem ok:Ok prog 194 D.sig:=al func194 ap Bye (aj _)
end mZ
namespace bi
abbrev A:=Byt×Unit
abbrev O:=Int×Unit
abbrev P:=Option O
noncomputable def D:FD:={ fn:=f118,tl:=ba,ps:=[(.ro,(.aa u8))],rs:=[(i64,(ah i64))],gl:=[(119,fj.D.sig),(194,mZ.D.sig)],lv:=[(7,[0,3,4,35,36]),(15,[0,3,8,66,67]),(19,[0,3,8,10,11,12,66,67])],lx:=[(0,[0,3]),(2,[0,3]),(4,[0,3,8,66,67])],od:=[(3,[0,2,3,4,5,1,6,7])] }
def ab (a:A):P:=@lift O λk=>D.W k a
def T0 (a1:A) (ez:Int) (iF:Int) (c_:Int):St:={ n:=101,sl:=[(0,.val (.aa u8) a1.1),(3,.val i64 ez),(4,.val i64 iF),(35,.val i64 ez),(36,.val i64 c_)],vr:=[],az:=[] }
def S0 (rec:RT O) (a1:A) (ez:Int) (iF:Int):(Int)->P:=λc_=>rec (T0 a1 ez iF c_)
def dq (K:KT O) (a1:A) (ez:Int) (iF:Int):(Unit)->P:=λz=>K (.exit 0) ({ n:=101,sl:=[(0,.val (.aa u8) a1.1),(3,.val i64 ez)],vr:=[],az:=[] })
def b0 (self:Int->P) (e0:(Unit)->P) (a1:A) (ez:Int) (iF:Int) (c_:Int):P:=cond (decide (c_ < ez)) ((mZ.ab (a1.1,c_,())).bind λmK=>cond (!((decide (mK.1=0)) == (decide (mK.2.1=0)))) (some (3,()))<|cond (!decide (mK.1=0)) (cond (decide (mK.1 < iF)) (some (3,()))<|cond (decide (64 < ae (mK.1+mK.2.1))) (some (3,()))<|self (ae (c_+1)))<|cond (decide (64 < ae (mK.1+mK.2.1))) (some (3,()))<|self (ae (c_+1)))<|e0 ()
theorem nT (rec:RT O) (K:KT O) (a1:A) (ez:Int) (iF:Int) (c_:Int):D.N k [1,1,1,1,0,1,0,0] (T0 a1 ez iF c_) (kU rec (iv [0,3,4,35,36] []) K)=b0 (S0 rec a1 ez iF) (dq K a1 ez iF) a1 ez iF c_:=Bye
def T1 (a1:A) (oI:Byt×Int×(List Bool)×Int×Int):St:={ n:=101,sl:=[(0,.val (.aa u8) oI.1),(3,.val i64 oI.2.1),(8,.box (.arr 64 .bool) (ah (.arr 64 .bool)) [] oI.2.2.1),(66,.val i64 oI.2.2.2.1),(67,.val i64 oI.2.2.2.2)],vr:=[],az:=[] }
def S1 (rec:RT O) (a1:A):(Byt×Int×(List Bool)×Int×Int)->P:=λoI=>rec (T1 a1 oI)
def oE (K:KT O) (a1:A):(Byt×Int)->P:=λz=>K (.exit 2) ({ n:=101,sl:=[(0,.val (.aa u8) z.1),(3,.val i64 z.2)],vr:=[],az:=[] })
def T2 (a1:A) (lS:Byt) (i_:Int) (qZ:Int) (q9:Int) (q_:Int) (rf:Int) (nc:(List Bool)×Int):St:={ n:=101,sl:=[(0,.val (.aa u8) lS),(3,.val i64 i_),(8,.box (.arr 64 .bool) (ah (.arr 64 .bool)) [] nc.1),(10,.val i64 qZ),(11,.val i64 q9),(12,.val i64 nc.2),(66,.val i64 q_),(67,.val i64 rf)],vr:=[],az:=[] }
def b2 (self:((List Bool)×Int)->P) (e4:(List Bool)->P) (a1:A) (lS:Byt) (i_:Int) (qZ:Int) (q9:Int) (q_:Int) (rf:Int) (nc:(List Bool)×Int):P:=cond (decide (nc.2 < ae (qZ+q9))) (if 0<=nc.2/\nc.2 < (nc.1.length:Int) then ((nc.1[nc.2.toNat]?).bind λaf_=>cond af_ (some (8,()))<|if 0<=nc.2/\nc.2 < (nc.1.length:Int) then ((nc.1[nc.2.toNat]?).bind λWY=>self (nc.1.set nc.2.toNat true,ae (nc.2+1))) else none) else none)<|e4 nc.1
def q1 (self:(Byt×Int×(List Bool)×Int×Int)->P) (e2:(Byt×Int)->P) (a1:A) (lS:Byt) (i_:Int) (qZ:Int) (q9:Int) (q_:Int) (rf:Int) (WZ:(List Bool)):P:=self (lS,i_,WZ,q_,ae (rf+1))
def s2 (rec:RT O) (K:KT O) (a1:A):Byt->Int->Int->Int->Int->Int->((List Bool)×Int)->P:=λlS i_ qZ q9 q_ rf=>λnc=>D.L k [1,1,1,1,1,1,0,1,0,0,1,1,0,0,1,1,1,0,0] [0,3,8,10,11,12,66,67] [] (ak 4 (ak 3 (ax (D.N k [1,1,1,1,1,1,0,1,0,0,1,1,1]) (kU rec (iv [0,3,8,66,67] []) K)))) (T2 a1 lS i_ qZ q9 q_ rf nc)
def r2 (self:(Byt×Int×(List Bool)×Int×Int)->P) (e2:(Byt×Int)->P) (a1:A):Byt->Int->Int->Int->Int->Int->((List Bool)×Int)->P:=λlS i_ qZ q9 q_ rf=>ao (λw v=>b2 w (q1 self e2 a1 lS i_ qZ q9 q_ rf) a1 lS i_ qZ q9 q_ rf v) k
theorem xT (rec:RT O) (K:KT O) (a1:A):s2 k rec K a1=r2 k (S1 rec a1) (oE K a1) a1:=
 funext λlS=>funext λi_=>funext λqZ=>funext λq9=>funext λq_=>funext λrf=>funext λnc=>aq _ _ _ (T2 a1 lS i_ qZ q9 q_ rf) _ (λrec v=>Bye) k nc
def b1 (self:(Byt×Int×(List Bool)×Int×Int)->P) (e2:(Byt×Int)->P) (l2:Byt->Int->Int->Int->Int->Int->((List Bool)×Int)->P) (a1:A) (oI:Byt×Int×(List Bool)×Int×Int):P:=cond (decide (oI.2.2.2.2 < oI.2.2.2.1)) ((mZ.ab (oI.1,oI.2.2.2.2,())).bind λCt=>l2 oI.1 oI.2.1 Ct.1 Ct.2.1 oI.2.2.2.1 oI.2.2.2.2 (oI.2.2.1,Ct.1))<|e2 (oI.1,oI.2.1)
def B1 (self:(Byt×Int×(List Bool)×Int×Int)->P) (e2:(Byt×Int)->P) (a1:A) (oI:Byt×Int×(List Bool)×Int×Int):P:=b1 self e2 (r2 k self e2 a1) a1 oI
theorem zT (rec:RT O) (K:KT O) (a1:A) (oI:Byt×Int×(List Bool)×Int×Int):D.N k [1,1,1,1,1,1,0,1,0,0] (T1 a1 oI) (kU rec (iv [0,3,8,66,67] []) K)=B1 k (S1 rec a1) (oE K a1) a1 oI:=
 aV (b:=b1 (S1 rec a1) (oE K a1) (s2 k rec K a1) a1 oI) Bye (by rw[xT];rfl)
def q2 (a1:A) (yD:(Byt×Int)):P:=cond (decide (0 < yD.2)) (if 0<=ae ((ae (2*yD.2))+1) then ((yD.1[(ae ((ae ((2:Int)*yD.2))+(1:Int))).toNat]?).bind λaga=>cond (decide ((aga.toNat:Int)=0)) (some (8,()))<|some (0,())) else none)<|some (0,())
theorem Cu (a1:A) (yD:(Byt×Int)):oE (ak 2 (ax (D.N k [1,1,1,1,1,1,1]) D.K0)) a1 yD=q2 a1 yD:=Bye
def s1 (a1:A) (ez:Int) (iF:Int):(Byt×Int×(List Bool)×Int×Int)->P:=λoI=>D.L k [1,1,1,1,1,1,0,1,0,0] [0,3,8,66,67] [] (ak 2 (ax (D.N k [1,1,1,1,1,1,1]) D.K0)) (T1 a1 oI)
def r1 (a1:A) (ez:Int) (iF:Int):(Byt×Int×(List Bool)×Int×Int)->P:=ao (λw v=>B1 k w (q2 a1) a1 v) k
theorem nU (a1:A) (ez:Int) (iF:Int):s1 k a1 ez iF=r1 k a1 ez iF:=by
 funext oI;have h2:oE (ak 2 (ax (D.N k [1,1,1,1,1,1,1]) D.K0)) a1=q2 a1:=funext λz=>Cu k a1 z;refine (aq _ _ _ (T1 a1) (λself v=>B1 k self (oE (ak 2 (ax (D.N k [1,1,1,1,1,1,1]) D.K0)) a1) a1 v) (λrec v=>zT k rec (ak 2 (ax (D.N k [1,1,1,1,1,1,1]) D.K0)) a1 v) k oI).trans ?_;rw[h2];rfl
def q0 (l1:(Byt×Int×(List Bool)×Int×Int)->P) (a1:A) (ez:Int) (iF:Int) (BY:(Unit)):P:=l1 (a1.1,ez,List.replicate 64 false,ez,0)
def Q0 (a1:A) (ez:Int) (iF:Int) (BY:(Unit)):P:=q0 (r1 k a1 ez iF) a1 ez iF BY
theorem wa (a1:A) (ez:Int) (iF:Int) (BY:(Unit)):dq (ak 0 (ax (D.N k [1,1,1,1,1]) D.K0)) a1 ez iF BY=Q0 k a1 ez iF BY:=
 aV (b:=q0 (s1 k a1 ez iF) a1 ez iF BY) Bye (by rw[nU];rfl)
def s0 (a1:A):Int->Int->(Int)->P:=λez iF=>λc_=>D.L k [1,1,1,1,0,1,0,0] [0,3,4,35,36] [] (ak 0 (ax (D.N k [1,1,1,1,1]) D.K0)) (T0 a1 ez iF c_)
def r0 (a1:A):Int->Int->(Int)->P:=λez iF=>ao (λw v=>b0 w (Q0 k a1 ez iF) a1 ez iF v) k
theorem av (a1:A):s0 k a1=r0 k a1:=by
 funext ez;funext iF;funext c_;have h0:dq (ak 0 (ax (D.N k [1,1,1,1,1]) D.K0)) a1 ez iF=Q0 k a1 ez iF:=funext λz=>wa k a1 ez iF z;refine (aq _ _ _ (T0 a1 ez iF) (λself v=>b0 self (dq (ak 0 (ax (D.N k [1,1,1,1,1]) D.K0)) a1 ez iF) a1 ez iF v) (λrec v=>nT k rec (ak 0 (ax (D.N k [1,1,1,1,1]) D.K0)) a1 ez iF v) k c_).trans ?_;rw[h0];rfl
def p (l0:Int->Int->(Int)->P) (a1:A):P:=cond (!decide ((a1.1.length:Int)=64)) (some (1,()))<|(a1.1[1]?).bind λx2=>(fj.ab (a1.1,())).bind λr3=>cond (decide (16 < r3.1)) (some (3,()))<|cond (decide (ae (x2.toNat:Int) < ae (2+(ae (2*r3.1))))) (some (3,()))<|cond (decide (64 < ae (x2.toNat:Int))) (some (3,()))<|l0 r3.1 (ae (x2.toNat:Int)) 0
theorem af (a1:A):@Eq P (D.W k a1) (p (r0 k a1) a1):=
 aV (b:=p (s0 k a1) a1) Bye (by rw[av])
theorem ok:Ok prog 118 D.sig:=al func118 ap Bye (fc fj.ok (fc mZ.ok (aj _)))
end bi
namespace jd
abbrev A:=Byt×Int×Unit
abbrev O:=Bool×Unit
noncomputable def D:FD:={ fn:=f120,tl:=ba,ps:=[(.ro,(.aa u8)),(.ro,i64)],rs:=[(.bool,(ah .bool))],gl:=[(119,fj.D.sig)] }
def ab (a:A):Option O:=@lift O λk=>D.W k a
def p (a1:A):Option O:=cond (decide (0<=a1.2.1)) ((fj.ab (a1.1,())).bind λr2=>cond (decide (a1.2.1 < r2.1)) (if 0<=ae (3+(ae (2*a1.2.1))) then ((a1.1[(ae ((3:Int)+(ae ((2:Int)*a1.2.1)))).toNat]?).bind λx3=>some (!decide ((x3.toNat:Int)=0),())) else none)<|some (false,()))<|some (false,())
theorem af (a1:A):@Eq (Option O) (D.W k a1) (p a1):=Bye
theorem ok:Ok prog 120 D.sig:=al func120 ap Bye (fc fj.ok (aj _))
end jd
namespace lD
abbrev A:=Byt×Unit
abbrev O:=uw×Unit
abbrev P:=Option O
noncomputable def D:FD:={ fn:=f121,tl:=ba,ps:=[(.ro,(.aa u8))],rs:=[(tw,(ah tw))],gl:=[(148,d9.D.sig)],od:=[(2,[0,1,2,3,4,5,6,7,8,9]),(5,[0,1,2,3,4,5,6,7,8,9,10,11,12,13,14,15,16,17,18,19,20,21,22,23]),(8,[0,1,2,3,4,5,6])] }
def ab (a:A):P:=@lift O λk=>D.W k a
def p (a1:A):P:=let j25:P:=let j37:P:=(a1.1[1]?).bind λx38=>(a1.1[2]?).bind λx39=>(a1.1[3]?).bind λx40=>(a1.1[4]?).bind λx41=>if 0<=(6:Int)/\6<=(a1.1.length:Int) then (let y42:=ae ((BitVec.ofInt 64 (ae ((ae (x40.toNat:Int))*2 ^ 8)) ||| BitVec.ofInt 64 (ae (x41.toNat:Int))).toNat:Int);(d9.ab ((ae (x38.toNat:Int),ae (x39.toNat:Int),y42,(a1.1.take a1.1.length).drop 6,()),())).bind λr43=>cond (!decide (r43.1=0)) (some ((5,0,0,0,(0,0,0,([]:Byt),()),()),()))<|(a1.1[0]?).bind λx44=>some ((0,ae (x44.toNat:Int),0,0,(ae (x38.toNat:Int),ae (x39.toNat:Int),y42,(a1.1.take a1.1.length).drop 6,()),()),())) else none;cond (decide ((a1.1.length:Int) < 6)) (some ((5,0,0,0,(0,0,0,([]:Byt),()),()),()))<|(a1.1[0]?).bind λx26=>cond (!decide ((x26.toNat:Int)=0)) ((a1.1[0]?).bind λx27=>cond (!decide ((x27.toNat:Int)=2)) (some ((5,0,0,0,(0,0,0,([]:Byt),()),()),()))<|(a1.1[5]?).bind λx28=>cond (!decide ((a1.1.length:Int)=ae (6+(ae (x28.toNat:Int))))) (some ((5,0,0,0,(0,0,0,([]:Byt),()),()),()))<|j37)<|(a1.1[5]?).bind λx29=>cond (!decide ((a1.1.length:Int)=ae (6+(ae (x29.toNat:Int))))) (some ((5,0,0,0,(0,0,0,([]:Byt),()),()),()))<|j37;cond (decide ((a1.1.length:Int)=3)) ((a1.1[0]?).bind λx2=>cond (decide ((x2.toNat:Int)=1)) ((a1.1[1]?).bind λx3=>cond (decide ((x3.toNat:Int) < 12)) ((a1.1[2]?).bind λx4=>cond (decide ((x4.toNat:Int) < 16)) ((a1.1[1]?).bind λx5=>(a1.1[2]?).bind λx6=>some ((0,1,ae (x5.toNat:Int),ae (x6.toNat:Int),(0,0,0,([]:Byt),()),()),()))<|j25)<|j25)<|j25)<|j25
theorem af (a1:A):@Eq P (D.W k a1) (p a1):=Bye
theorem ok:Ok prog 121 D.sig:=al func121 ap Bye (fc d9.ok (aj _))
end lD
namespace nz
abbrev A:=Byt×Int×Unit
abbrev O:=Byt×Unit
noncomputable def D:FD:={ fn:=f122,tl:=ba,ps:=[(.ro,(.aa u8)),(.ro,i64)],rs:=[((.aa u8),(ah (.aa u8)))],gl:=[(194,mZ.D.sig)] }
def ab (a:A):Option O:=@lift O λk=>D.W k a
def p (a1:A):Option O:=(mZ.ab (a1.1,a1.2.1,())).bind λr2=>if 0<=r2.1/\r2.1<=ae (r2.1+r2.2.1)/\ae (r2.1+r2.2.1)<=(a1.1.length:Int) then (some ((a1.1.take (ae (r2.1+r2.2.1)).toNat).drop r2.1.toNat,())) else none
theorem af (a1:A):@Eq (Option O) (D.W k a1) (p a1):=Bye
theorem ok:Ok prog 122 D.sig:=al func122 ap Bye (fc mZ.ok (aj _))
end nz
namespace qL
abbrev A:=Seen×Seen×Unit
abbrev O:=Int×Unit
noncomputable def D:FD:={ fn:=f196,tl:=ba,ps:=[(.ro,ij),(.ro,ij)],rs:=[(i64,(ah i64))],gl:=[(156,nS.D.sig)] }
def ab (a:A):Option O:=@lift O λk=>D.W k a
def p (a1:A):Option O:=(nS.ab (a1.1.1,a1.2.1.1,())).bind λr2=>some (r2.1,())
theorem af (a1:A):@Eq (Option O) (D.W k a1) (p a1):=Bye
theorem ok:Ok prog 196 D.sig:=al func196 ap Bye (fc nS.ok (aj _))
end qL
namespace rh
open Go.Proofs
abbrev A:=(List Seen)×(Nat×Int)×Unit
abbrev O:=(List Seen)×Unit
def ab (a:A):Option O:=(Cr ij qL.ab a.1).map λr=>(r,())
def sig:wY:={ ps:=[(.oS (ai (.aa ij)),.aa ij),(.fix 196,.fn)],rs:=[],F:=ab }
def T5:Go.Shelf.Ren:=⟨λ| 6=>195 | 15=>252 | 14=>251 | 28=>290 | 29=>291 | 20=>282 | 21=>283 | 22=>284 | 23=>285 | 24=>286 | 25=>287 | 26=>288 | 27=>289 | 46=>311 | 47=>312 | 48=>313 | 49=>314 | 50=>315 | 57=>331 | n=>n,λ| 22=>115 | 24=>200 | 25=>273 | 3=>3 | 39=>267 | 0=>0 | 53=>366 | 55=>368 | 4=>4 | 46=>360 | 45=>359 | 50=>229 | 5=>5 | 9=>9 | 66=>395 | 70=>399 | 76=>412 | 77=>264 | n=>n,λ| n=>n⟩
theorem adC:Go.Proofs.SlLaysF0.n6 Tryz.prog T5:={
 mixed:=Bye
 f6:=⟨Tryz.f195.name,by decide,Tryz.func195.trans (cV some Bye)⟩
 f14:=⟨Tryz.f251.name,by decide,Tryz.func251.trans (cV some Bye)⟩
 f15:=Tryz.func252.trans (cV some Bye)
 f20:=⟨Tryz.f282.name,by decide,Tryz.func282.trans (cV some Bye)⟩
 f21:=⟨Tryz.f283.name,by decide,Tryz.func283.trans (cV some Bye)⟩
 f22:=⟨Tryz.f284.name,by decide,Tryz.func284.trans (cV some Bye)⟩
 f23:=⟨Tryz.f285.name,by decide,Tryz.func285.trans (cV some Bye)⟩
 f24:=⟨Tryz.f286.name,by decide,Tryz.func286.trans (cV some Bye)⟩
 f25:=⟨Tryz.f287.name,by decide,Tryz.func287.trans (cV some Bye)⟩
 f26:=⟨Tryz.f288.name,by decide,Tryz.func288.trans (cV some Bye)⟩
 f27:=⟨Tryz.f289.name,by decide,Tryz.func289.trans (cV some Bye)⟩
 f28:=Tryz.func290.trans (cV some Bye)
 f29:=Tryz.func291.trans (cV some Bye)
 f46:=⟨Tryz.f311.name,by decide,Tryz.func311.trans (cV some Bye)⟩
 f47:=Tryz.func312.trans (cV some Bye)
 f48:=Tryz.func313.trans (cV some Bye)
 f49:=⟨Tryz.f314.name,by decide,Tryz.func314.trans (cV some Bye)⟩
 f50:=⟨Tryz.f315.name,by decide,Tryz.func315.trans (cV some Bye)⟩
 f57:=⟨Tryz.f331.name,by decide,Tryz.func331.trans (cV some Bye)⟩
 t0:=Tryz.underlying0
 a0:=Tryz.isAgg0
 z0:=Tryz.sizeOf0
 v0:=Tryz.zeroValue0
 t3:=Tryz.underlying3
 a3:=Tryz.isAgg3
 z3:=Tryz.sizeOf3
 v3:=Tryz.zeroValue3
 t4:=Tryz.underlying4
 a4:=Tryz.isAgg4
 z4:=Tryz.sizeOf4
 v4:=Tryz.zeroValue4
 t5:=Tryz.underlying5
 a5:=Tryz.isAgg5
 z5:=Tryz.sizeOf5
 v5:=Tryz.zeroValue5
 t9:=Tryz.underlying9
 a9:=Tryz.isAgg9
 z9:=Tryz.sizeOf9
 v9:=Tryz.zeroValue9
 t22:=Tryz.underlying115
 a22:=Tryz.isAgg115
 z22:=Tryz.sizeOf115
 v22:=Tryz.zeroValue115
 t25:=Tryz.underlying273
 a25:=Tryz.isAgg273
 z25:=Tryz.sizeOf273
 v25:=Tryz.zeroValue273
 t39:=Tryz.underlying267
 a39:=Tryz.isAgg267
 z39:=Tryz.sizeOf267
 v39:=Tryz.zeroValue267
 t45:=Tryz.underlying359
 a45:=Tryz.isAgg359
 z45:=Tryz.sizeOf359
 v45:=Tryz.zeroValue359
 t46:=Tryz.underlying360
 a46:=Tryz.isAgg360
 z46:=Tryz.sizeOf360
 v46:=Tryz.zeroValue360
 t50:=Tryz.underlying229
 a50:=Tryz.isAgg229
 z50:=Tryz.sizeOf229
 v50:=Tryz.zeroValue229
 t53:=Tryz.underlying366
 a53:=Tryz.isAgg366
 z53:=Tryz.sizeOf366
 v53:=Tryz.zeroValue366
 t55:=Tryz.underlying368
 a55:=Tryz.isAgg368
 z55:=Tryz.sizeOf368
 v55:=Tryz.zeroValue368
 t66:=Tryz.underlying395
 a66:=Tryz.isAgg395
 z66:=Tryz.sizeOf395
 v66:=Tryz.zeroValue395
 t70:=Tryz.underlying399
 a70:=Tryz.isAgg399
 z70:=Tryz.sizeOf399
 v70:=Tryz.zeroValue399
 t76:=Tryz.underlying412
 a76:=Tryz.isAgg412
 z76:=Tryz.sizeOf412
 v76:=Tryz.zeroValue412
 t77:=Tryz.underlying264
 a77:=Tryz.isAgg264
 z77:=Tryz.sizeOf264
 v77:=Tryz.zeroValue264 }
theorem ok:Ok prog 195 sig:=adz (e:=ij) adC rfl rfl Bye (by decide) (g:=196) (cF:=qL.ab) qL.ok ⟨f195,func195,by kernel_rfl,by kernel_rfl,by kernel_rfl⟩
end rh
namespace cg
abbrev A:=(List Byt)×Unit
abbrev O:=(List Seen)×Int×Unit
abbrev P:=Option O
noncomputable def D:FD:={ fn:=f123,tl:=ba,ps:=[(.ro,(.aa (.aa u8)))],rs:=[((.aa ij),(ai (.aa ij))),(i64,(ah i64))],gl:=[(119,fj.D.sig),(120,jd.D.sig),(121,lD.D.sig),(122,nz.D.sig),(149,lC.D.sig),(195,rh.sig)],lv:=[(4,[4,5,6,21,22,23]),(7,[4,5,6,7,8,21,22,23,29,30]),(21,[4,5,6,81,82,83]),(29,[4,5,6,15,101,102,103]),(40,[4,19])],lx:=[(0,[4,5,6]),(2,[4,5,6,21,22,23]),(3,[4,5,6,7,8,21,22,23,29,30]),(5,[4,5,6]),(7,[4]),(9,[4])],od:=[(42,[0,1,2,3,4,5,6,7,8,9,10,11,12])] }
def ab (a:A):P:=@lift O λk=>D.W k a
def T0 (a1:A) (U:(List Seen)×(List Seen)×(List ((List Int)×Row))×(List Byt)×Int×Int):St:={ n:=148,sl:=[(4,.own (.aa ij) (ai (.aa ij)) [] U.1),(5,.own (.aa ij) (ai (.aa ij)) [] U.2.1),(6,.own (.map (.arr 2 i64) ay) (ai (.map (.arr 2 i64) ay)) [] U.2.2.1),(21,.val (.aa (.aa u8)) U.2.2.2.1),(22,.val i64 U.2.2.2.2.1),(23,.val i64 U.2.2.2.2.2)],vr:=[],az:=[] }
def S0 (rec:RT O) (a1:A):((List Seen)×(List Seen)×(List ((List Int)×Row))×(List Byt)×Int×Int)->P:=λU=>rec (T0 a1 U)
def dq (K:KT O) (a1:A):((List Seen)×(List Seen)×(List ((List Int)×Row)))->P:=λz=>K (.exit 0) ({ n:=148,sl:=[(4,.own (.aa ij) (ai (.aa ij)) [] z.1),(5,.own (.aa ij) (ai (.aa ij)) [] z.2.1),(6,.own (.map (.arr 2 i64) ay) (ai (.map (.arr 2 i64) ay)) [] z.2.2)],vr:=[],az:=[] })
def T1 (a1:A) (dz:Int) (de:Byt) (cw:List Byt) (da:Int) (fy:Int) (c9:(List Seen)×(List Seen)×(List ((List Int)×Row))×Int):St:={ n:=148,sl:=[(4,.own (.aa ij) (ai (.aa ij)) [] c9.1),(5,.own (.aa ij) (ai (.aa ij)) [] c9.2.1),(6,.own (.map (.arr 2 i64) ay) (ai (.map (.arr 2 i64) ay)) [] c9.2.2.1),(7,.val i64 dz),(8,.val (.aa u8) de),(21,.val (.aa (.aa u8)) cw),(22,.val i64 da),(23,.val i64 dz),(29,.val i64 fy),(30,.val i64 c9.2.2.2)],vr:=[],az:=[] }
def b1 (self:((List Seen)×(List Seen)×(List ((List Int)×Row))×Int)->P) (e2:((List Seen)×(List Seen)×(List ((List Int)×Row)))->P) (a1:A) (dz:Int) (de:Byt) (cw:List Byt) (da:Int) (fy:Int) (c9:(List Seen)×(List Seen)×(List ((List Int)×Row))×Int):P:=cond (decide (c9.2.2.2 < fy)) ((jd.ab (de,c9.2.2.2,())).bind λW5=>cond (!W5.1) (self (c9.1,c9.2.1,c9.2.2.1,ae (c9.2.2.2+1)))<|(nz.ab (de,c9.2.2.2,())).bind λQt=>(lD.ab (Qt.1,())).bind λwc=>cond (!decide (wc.1.1=0)) (some (([]:List Seen),5,()))<|cond (decide (wc.1.2.1=0)) (if c9.1.length+[(wc.1.2.2.2.2.1,dz,c9.2.2.2,false,dz,c9.2.2.2,())].length<=be then (let agb:=c9.1++[(wc.1.2.2.2.2.1,dz,c9.2.2.2,false,dz,c9.2.2.2,())];self (agb,c9.2.1,c9.2.2.1,ae (c9.2.2.2+1))) else none)<|cond (decide (wc.1.2.1=2)) (if 0 < (List.replicate 2 0).length then (if 1 < ((List.replicate 2 0).set 0 dz).length then (let agc:=oU (.arr 2 i64) c9.2.2.1 (((List.replicate 2 0).set 0 dz).set 1 c9.2.2.2) wc.1.2.2.2.2.1;self (c9.1,c9.2.1,agc,ae (c9.2.2.2+1))) else none) else none)<|if c9.2.1.length+[(((0:Int),(0:Int),(0:Int),([]:Byt),()),dz,c9.2.2.2,true,wc.1.2.2.1,wc.1.2.2.2.1,())].length<=be then (let agd:=c9.2.1++[(((0:Int),(0:Int),(0:Int),([]:Byt),()),dz,c9.2.2.2,true,wc.1.2.2.1,wc.1.2.2.2.1,())];self (c9.1,agd,c9.2.2.1,ae (c9.2.2.2+1))) else none)<|e2 (c9.1,c9.2.1,c9.2.2.1)
abbrev B1 (_:Nat):=b1
def q0 (self:((List Seen)×(List Seen)×(List ((List Int)×Row))×(List Byt)×Int×Int)->P) (e0:((List Seen)×(List Seen)×(List ((List Int)×Row)))->P) (a1:A) (dz:Int) (de:Byt) (cw:List Byt) (da:Int) (fy:Int) (qC:((List Seen)×(List Seen)×(List ((List Int)×Row)))):P:=self (qC.1,qC.2.1,qC.2.2,cw,da,ae (dz+1))
abbrev Q0 (_:Nat):=q0
def s1 (rec:RT O) (K:KT O) (a1:A):Int->Byt->(List Byt)->Int->Int->((List Seen)×(List Seen)×(List ((List Int)×Row))×Int)->P:=λdz de cw da fy=>λc9=>D.L k [1,1,1,0,1,0,0,1,1,0,0,1,1,0,0] [4,5,6,7,8,21,22,23,29,30] [] (ak 2 (ak 1 (ax (D.N k [1,1,1,0,1,0,0,1,1,1]) (kU rec (iv [4,5,6,21,22,23] []) K)))) (T1 a1 dz de cw da fy c9)
def r1 (self:((List Seen)×(List Seen)×(List ((List Int)×Row))×(List Byt)×Int×Int)->P) (e0:((List Seen)×(List Seen)×(List ((List Int)×Row)))->P) (a1:A):Int->Byt->(List Byt)->Int->Int->((List Seen)×(List Seen)×(List ((List Int)×Row))×Int)->P:=λdz de cw da fy=>ao (λw v=>B1 k w (Q0 k self e0 a1 dz de cw da fy) a1 dz de cw da fy v) k
theorem nU (rec:RT O) (K:KT O) (a1:A):s1 k rec K a1=r1 k (S0 rec a1) (dq K a1) a1:=
 funext λdz=>funext λde=>funext λcw=>funext λda=>funext λfy=>funext λc9=>aq _ _ _ (T1 a1 dz de cw da fy) _ (λrec v=>Bye) k c9
def b0 (self:((List Seen)×(List Seen)×(List ((List Int)×Row))×(List Byt)×Int×Int)->P) (e0:((List Seen)×(List Seen)×(List ((List Int)×Row)))->P) (l1:Int->Byt->(List Byt)->Int->Int->((List Seen)×(List Seen)×(List ((List Int)×Row))×Int)->P) (a1:A) (U:(List Seen)×(List Seen)×(List ((List Int)×Row))×(List Byt)×Int×Int):P:=cond (decide (U.2.2.2.2.2 < U.2.2.2.2.1)) (if 0<=U.2.2.2.2.2 then ((U.2.2.2.1[U.2.2.2.2.2.toNat]?).bind λbg=>(fj.ab (bg,())).bind λbr=>l1 U.2.2.2.2.2 bg U.2.2.2.1 U.2.2.2.2.1 br.1 (U.1,U.2.1,U.2.2.1,0)) else none)<|e0 (U.1,U.2.1,U.2.2.1)
def B0 (self:((List Seen)×(List Seen)×(List ((List Int)×Row))×(List Byt)×Int×Int)->P) (e0:((List Seen)×(List Seen)×(List ((List Int)×Row)))->P) (a1:A) (U:(List Seen)×(List Seen)×(List ((List Int)×Row))×(List Byt)×Int×Int):P:=b0 self e0 (r1 k self e0 a1) a1 U
theorem nT (rec:RT O) (K:KT O) (a1:A) (U:(List Seen)×(List Seen)×(List ((List Int)×Row))×(List Byt)×Int×Int):D.N k [1,1,1,0,1,0,0] (T0 a1 U) (kU rec (iv [4,5,6,21,22,23] []) K)=B0 k (S0 rec a1) (dq K a1) a1 U:=
 aV (b:=b0 (S0 rec a1) (dq K a1) (s1 k rec K a1) a1 U) Bye (by rw[nU];rfl)
def T2 (a1:A) (li:List Seen) (kC:List Seen) (kF:List ((List Int)×Row)) (lE:Int) (vl:Int):St:={ n:=148,sl:=[(4,.own (.aa ij) (ai (.aa ij)) [] li),(5,.own (.aa ij) (ai (.aa ij)) [] kC),(6,.own (.map (.arr 2 i64) ay) (ai (.map (.arr 2 i64) ay)) [] kF),(81,.ref 5 [] [0,0]),(82,.val i64 lE),(83,.val i64 vl)],vr:=[],az:=[] }
def S2 (rec:RT O) (a1:A) (li:List Seen) (kC:List Seen) (kF:List ((List Int)×Row)) (lE:Int):(Int)->P:=λvl=>rec (T2 a1 li kC kF lE vl)
def W6 (K:KT O) (a1:A) (li:List Seen) (kC:List Seen) (kF:List ((List Int)×Row)) (lE:Int):(Unit)->P:=λz=>K (.exit 5) ({ n:=148,sl:=[(4,.own (.aa ij) (ai (.aa ij)) [] li),(5,.own (.aa ij) (ai (.aa ij)) [] kC),(6,.own (.map (.arr 2 i64) ay) (ai (.map (.arr 2 i64) ay)) [] kF)],vr:=[],az:=[] })
def b2 (self:Int->P) (e5:(Unit)->P) (a1:A) (li:List Seen) (kC:List Seen) (kF:List ((List Int)×Row)) (lE:Int) (vl:Int):P:=cond (decide (vl < lE)) (if 0<=vl/\vl < (kC.length:Int) then ((kC[vl.toNat]?).bind λMK=>if 0 < (List.replicate 2 0).length then (if 1 < ((List.replicate 2 0).set 0 MK.2.2.2.2.1).length then (let aiA:=DZ (lm (.arr 2 i64) kF (((List.replicate 2 0).set 0 MK.2.2.2.2.1).set 1 MK.2.2.2.2.2.1)) (0,0,0,([]:Byt),());cond (!(lm (.arr 2 i64) kF (((List.replicate 2 0).set 0 MK.2.2.2.2.1).set 1 MK.2.2.2.2.2.1)).isSome) (some (([]:List Seen),4,()))<|self (ae (vl+1))) else none) else none) else none)<|e5 ()
abbrev B2 (_:Nat):=b2
theorem W7 (rec:RT O) (K:KT O) (a1:A) (li:List Seen) (kC:List Seen) (kF:List ((List Int)×Row)) (lE:Int) (vl:Int):D.N k [1,1,1,1,0,1,0,0] (T2 a1 li kC kF lE vl) (kU rec (iv [4,5,6,81,82,83] []) K)=b2 (S2 rec a1 li kC kF lE) (W6 K a1 li kC kF lE) a1 li kC kF lE vl:=Bye
def T3 (a1:A) (lj:List Seen) (lF:List ((List Int)×Row)) (lG:Int) (ri:(List Seen)×(List ((List Int)×Bool))×Int):St:={ n:=148,sl:=[(4,.own (.aa ij) (ai (.aa ij)) [] ri.1),(5,.own (.aa ij) (ai (.aa ij)) [] lj),(6,.own (.map (.arr 2 i64) ay) (ai (.map (.arr 2 i64) ay)) [] lF),(15,.own (.map (.arr 2 i64) .bool) (ai (.map (.arr 2 i64) .bool)) [] ri.2.1),(101,.ref 5 [] [0,0]),(102,.val i64 lG),(103,.val i64 ri.2.2)],vr:=[],az:=[] }
def S3 (rec:RT O) (a1:A) (lj:List Seen) (lF:List ((List Int)×Row)) (lG:Int):((List Seen)×(List ((List Int)×Bool))×Int)->P:=λri=>rec (T3 a1 lj lF lG ri)
def W8 (K:KT O) (a1:A) (lj:List Seen) (lF:List ((List Int)×Row)) (lG:Int):(List Seen)->P:=λz=>K (.exit 7) ({ n:=148,sl:=[(4,.own (.aa ij) (ai (.aa ij)) [] z)],vr:=[],az:=[] })
def b3 (self:((List Seen)×(List ((List Int)×Bool))×Int)->P) (e7:(List Seen)->P) (a1:A) (lj:List Seen) (lF:List ((List Int)×Row)) (lG:Int) (ri:(List Seen)×(List ((List Int)×Bool))×Int):P:=cond (decide (ri.2.2 < lG)) (if 0<=ri.2.2/\ri.2.2 < (lj.length:Int) then ((lj[ri.2.2.toNat]?).bind λML=>if 0 < (List.replicate 2 0).length then (if 1 < ((List.replicate 2 0).set 0 ML.2.2.2.2.1).length then (let W9:=((List.replicate 2 0).set 0 ML.2.2.2.2.1).set 1 ML.2.2.2.2.2.1;cond (DZ (lm (.arr 2 i64) ri.2.1 W9) false) (some (([]:List Seen),6,()))<|let acQ:=DZ (lm (.arr 2 i64) lF W9) (0,0,0,([]:Byt),());if ri.1.length+[(acQ,ML.2)].length<=be then (self (ri.1++[(acQ,ML.2)],oU (.arr 2 i64) ri.2.1 W9 true,ae (ri.2.2+1))) else none) else none) else none) else none)<|e7 ri.1
abbrev B3 (_:Nat):=b3
theorem age (rec:RT O) (K:KT O) (a1:A) (lj:List Seen) (lF:List ((List Int)×Row)) (lG:Int) (ri:(List Seen)×(List ((List Int)×Bool))×Int):D.N k [1,1,1,1,1,1,0,1,0,0] (T3 a1 lj lF lG ri) (kU rec (iv [4,5,6,15,101,102,103] []) K)=b3 (S3 rec a1 lj lF lG) (W8 K a1 lj lF lG) a1 lj lF lG ri:=Bye
def T4 (a1:A) (vm:List Seen) (xd:Int):St:={ n:=148,sl:=[(4,.own (.aa ij) (ai (.aa ij)) [] vm),(19,.val i64 xd)],vr:=[],az:=[] }
def b4 (self:Int->P) (e9:(Unit)->P) (a1:A) (vm:List Seen) (xd:Int):P:=cond (decide (xd < (vm.length:Int))) (if 0<=ae (xd - 1)/\ae (xd - 1) < (vm.length:Int) then ((vm[(ae (xd - (1:Int))).toNat]?).bind λagf=>if 0<=xd/\xd < (vm.length:Int) then ((vm[xd.toNat]?).bind λagh=>(lC.ab (agf.1,agh.1,())).bind λagi=>cond (!agi.1) (some (([]:List Seen),8,()))<|self (ae (xd+1))) else none) else none)<|e9 ()
abbrev B4 (_:Nat):=b4
def q4 (a1:A) (vm:List Seen) (aiB:(Unit)):P:=some (vm,0,())
abbrev Q4 (_:Nat):=q4
def s4 (a1:A) (lj:List Seen) (lF:List ((List Int)×Row)) (lG:Int):(List Seen)->(Int)->P:=λvm=>λxd=>D.L k [1,1,1,1,1,1,1,1,0,1,0,0] [4,19] [] (ak 9 (ax (D.N k [1,1,1,1,1,1,1,1,1]) D.K0)) (T4 a1 vm xd)
def r4 (a1:A) (lj:List Seen) (lF:List ((List Int)×Row)) (lG:Int):(List Seen)->(Int)->P:=λvm=>ao (λw v=>B4 k w (Q4 k a1 vm) a1 vm v) k
theorem agj (a1:A) (lj:List Seen) (lF:List ((List Int)×Row)) (lG:Int):s4 k a1 lj lF lG=r4 k a1 lj lF lG:=
 funext λvm=>funext λxd=>aq _ _ _ (T4 a1 vm) _ (λrec v=>Bye) k xd
def q3 (l4:(List Seen)->(Int)->P) (a1:A) (lj:List Seen) (lF:List ((List Int)×Row)) (lG:Int) (GC:(List Seen)):P:=(rh.ab (GC,((196,0):Nat×Int),())).bind λagk=>l4 agk.1 1
def Q3 (a1:A) (lj:List Seen) (lF:List ((List Int)×Row)) (lG:Int) (GC:(List Seen)):P:=q3 (r4 k a1 lj lF lG) a1 lj lF lG GC
theorem W_ (a1:A) (lj:List Seen) (lF:List ((List Int)×Row)) (lG:Int) (GC:(List Seen)):W8 (ak 7 (ax (D.N k [1,1,1,1,1,1,1]) D.K0)) a1 lj lF lG GC=Q3 k a1 lj lF lG GC:=
 aV (b:=q3 (s4 k a1 lj lF lG) a1 lj lF lG GC) Bye (by rw[agj];rfl)
def s3 (a1:A) (li:List Seen) (kC:List Seen) (kF:List ((List Int)×Row)) (lE:Int):(List Seen)->(List ((List Int)×Row))->Int->((List Seen)×(List ((List Int)×Bool))×Int)->P:=λlj lF lG=>λri=>D.L k [1,1,1,1,1,1,0,1,0,0] [4,5,6,15,101,102,103] [] (ak 7 (ax (D.N k [1,1,1,1,1,1,1]) D.K0)) (T3 a1 lj lF lG ri)
def r3 (a1:A) (li:List Seen) (kC:List Seen) (kF:List ((List Int)×Row)) (lE:Int):(List Seen)->(List ((List Int)×Row))->Int->((List Seen)×(List ((List Int)×Bool))×Int)->P:=λlj lF lG=>ao (λw v=>B3 k w (Q3 k a1 lj lF lG) a1 lj lF lG v) k
theorem Xa (a1:A) (li:List Seen) (kC:List Seen) (kF:List ((List Int)×Row)) (lE:Int):s3 k a1 li kC kF lE=r3 k a1 li kC kF lE:=by
 funext lj;funext lF;funext lG;funext ri;have h7:W8 (ak 7 (ax (D.N k [1,1,1,1,1,1,1]) D.K0)) a1 lj lF lG=Q3 k a1 lj lF lG:=funext λz=>W_ k a1 lj lF lG z;refine (aq _ _ _ (T3 a1 lj lF lG) (λself v=>B3 k self (W8 (ak 7 (ax (D.N k [1,1,1,1,1,1,1]) D.K0)) a1 lj lF lG) a1 lj lF lG v) (λrec v=>age k rec (ak 7 (ax (D.N k [1,1,1,1,1,1,1]) D.K0)) a1 lj lF lG v) k ri).trans ?_;rw[h7];rfl
def q2 (l3:(List Seen)->(List ((List Int)×Row))->Int->((List Seen)×(List ((List Int)×Bool))×Int)->P) (a1:A) (li:List Seen) (kC:List Seen) (kF:List ((List Int)×Row)) (lE:Int) (JO:(Unit)):P:=l3 kC kF (kC.length:Int) (li,([]:List ((List Int)×Bool)),0)
def Q2 (a1:A) (li:List Seen) (kC:List Seen) (kF:List ((List Int)×Row)) (lE:Int) (JO:(Unit)):P:=q2 (r3 k a1 li kC kF lE) a1 li kC kF lE JO
theorem Cu (a1:A) (li:List Seen) (kC:List Seen) (kF:List ((List Int)×Row)) (lE:Int) (JO:(Unit)):W6 (ak 5 (ax (D.N k [1,1,1,1,1]) D.K0)) a1 li kC kF lE JO=Q2 k a1 li kC kF lE JO:=
 aV (b:=q2 (s3 k a1 li kC kF lE) a1 li kC kF lE JO) Bye (by rw[Xa];rfl)
def s2 (a1:A):(List Seen)->(List Seen)->(List ((List Int)×Row))->Int->(Int)->P:=λli kC kF lE=>λvl=>D.L k [1,1,1,1,0,1,0,0] [4,5,6,81,82,83] [] (ak 5 (ax (D.N k [1,1,1,1,1]) D.K0)) (T2 a1 li kC kF lE vl)
def r2 (a1:A):(List Seen)->(List Seen)->(List ((List Int)×Row))->Int->(Int)->P:=λli kC kF lE=>ao (λw v=>B2 k w (Q2 k a1 li kC kF lE) a1 li kC kF lE v) k
theorem xT (a1:A):s2 k a1=r2 k a1:=by
 funext li;funext kC;funext kF;funext lE;funext vl;have h5:W6 (ak 5 (ax (D.N k [1,1,1,1,1]) D.K0)) a1 li kC kF lE=Q2 k a1 li kC kF lE:=funext λz=>Cu k a1 li kC kF lE z;refine (aq _ _ _ (T2 a1 li kC kF lE) (λself v=>B2 k self (W6 (ak 5 (ax (D.N k [1,1,1,1,1]) D.K0)) a1 li kC kF lE) a1 li kC kF lE v) (λrec v=>W7 k rec (ak 5 (ax (D.N k [1,1,1,1,1]) D.K0)) a1 li kC kF lE v) k vl).trans ?_;rw[h5];rfl
def q1 (l2:(List Seen)->(List Seen)->(List ((List Int)×Row))->Int->(Int)->P) (a1:A) (A8:((List Seen)×(List Seen)×(List ((List Int)×Row)))):P:=l2 A8.1 A8.2.1 A8.2.2 (A8.2.1.length:Int) 0
def Q1 (a1:A) (A8:((List Seen)×(List Seen)×(List ((List Int)×Row)))):P:=q1 (r2 k a1) a1 A8
theorem tc (a1:A) (A8:((List Seen)×(List Seen)×(List ((List Int)×Row)))):dq (ak 0 (ax (D.N k [1,1,1,1]) D.K0)) a1 A8=Q1 k a1 A8:=
 aV (b:=q1 (s2 k a1) a1 A8) Bye (by rw[xT];rfl)
def s0 (a1:A):((List Seen)×(List Seen)×(List ((List Int)×Row))×(List Byt)×Int×Int)->P:=λU=>D.L k [1,1,1,0,1,0,0] [4,5,6,21,22,23] [] (ak 0 (ax (D.N k [1,1,1,1]) D.K0)) (T0 a1 U)
def r0 (a1:A):((List Seen)×(List Seen)×(List ((List Int)×Row))×(List Byt)×Int×Int)->P:=ao (λw v=>B0 k w (Q1 k a1) a1 v) k
theorem av (a1:A):s0 k a1=r0 k a1:=by
 funext U;have h0:dq (ak 0 (ax (D.N k [1,1,1,1]) D.K0)) a1=Q1 k a1:=funext λz=>tc k a1 z;refine (aq _ _ _ (T0 a1) (λself v=>B0 k self (dq (ak 0 (ax (D.N k [1,1,1,1]) D.K0)) a1) a1 v) (λrec v=>nT k rec (ak 0 (ax (D.N k [1,1,1,1]) D.K0)) a1 v) k U).trans ?_;rw[h0];rfl
def p (l0:((List Seen)×(List Seen)×(List ((List Int)×Row))×(List Byt)×Int×Int)->P) (a1:A):P:=l0 (([]:List Seen),([]:List Seen),([]:List ((List Int)×Row)),a1.1,(a1.1.length:Int),0)
theorem af (a1:A):@Eq P (D.W k a1) (p (r0 k a1) a1):=
 aV (b:=p (s0 k a1) a1) Bye (by rw[av])
theorem ok:Ok prog 123 D.sig:=al func123 ap Bye (fc fj.ok (fc jd.ok (fc lD.ok (fc nz.ok (fc lC.ok (fc rh.ok (aj _)))))))
end cg
namespace fe
abbrev A:=(List Byt)×Unit
abbrev O:=(List Seen)×Int×Unit
abbrev P:=Option O
noncomputable def D:FD:={ fn:=f56,tl:=ba,ps:=[(.ro,(.aa (.aa u8)))],rs:=[((.aa ij),(ai (.aa ij))),(i64,(ah i64))],gl:=[(118,bi.D.sig),(119,fj.D.sig),(120,jd.D.sig),(121,lD.D.sig),(122,nz.D.sig),(123,cg.D.sig)],lv:=[(4,[0,11,12,13]),(10,[0,5,11,12,13,23,24])],lx:=[(0,[0]),(2,[0,11,12,13])] }
def ab (a:A):P:=@lift O λk=>D.W k a
def T0 (a1:A) (U:(List Byt)×(List Byt)×Int×Int):St:={ n:=44,sl:=[(0,.val (.aa (.aa u8)) U.1),(11,.val (.aa (.aa u8)) U.2.1),(12,.val i64 U.2.2.1),(13,.val i64 U.2.2.2)],vr:=[],az:=[] }
def S0 (rec:RT O) (a1:A):((List Byt)×(List Byt)×Int×Int)->P:=λU=>rec (T0 a1 U)
def dq (K:KT O) (a1:A):(List Byt)->P:=λz=>K (.exit 0) ({ n:=44,sl:=[(0,.val (.aa (.aa u8)) z)],vr:=[],az:=[] })
def T1 (a1:A) (de:List Byt) (cw:Byt) (da:List Byt) (fy:Int) (jv:Int) (my:Int) (fx:Int):St:={ n:=44,sl:=[(0,.val (.aa (.aa u8)) de),(5,.val (.aa u8) cw),(11,.val (.aa (.aa u8)) da),(12,.val i64 fy),(13,.val i64 jv),(23,.val i64 my),(24,.val i64 fx)],vr:=[],az:=[] }
def b1 (self:Int->P) (e2:(Unit)->P) (a1:A) (de:List Byt) (cw:Byt) (da:List Byt) (fy:Int) (jv:Int) (my:Int) (fx:Int):P:=cond (decide (fx < my)) ((jd.ab (cw,fx,())).bind λwc=>cond wc.1 ((nz.ab (cw,fx,())).bind λJP=>(lD.ab (JP.1,())).bind λagl=>cond (!decide (agl.1.1=0)) (some (([]:List Seen),5,()))<|self (ae (fx+1)))<|self (ae (fx+1)))<|e2 ()
def q0 (self:((List Byt)×(List Byt)×Int×Int)->P) (e0:(List Byt)->P) (a1:A) (de:List Byt) (cw:Byt) (da:List Byt) (fy:Int) (jv:Int) (my:Int) (agm:(Unit)):P:=self (de,da,fy,ae (jv+1))
def s1 (rec:RT O) (K:KT O) (a1:A):(List Byt)->Byt->(List Byt)->Int->Int->Int->(Int)->P:=λde cw da fy jv my=>λfx=>D.L k [1,1,0,1,0,0,1,1,0,0,1,1,1,0,0] [0,5,11,12,13,23,24] [] (ak 2 (ak 1 (ax (D.N k [1,1,0,1,0,0,1,1,1]) (kU rec (iv [0,11,12,13] []) K)))) (T1 a1 de cw da fy jv my fx)
def r1 (self:((List Byt)×(List Byt)×Int×Int)->P) (e0:(List Byt)->P) (a1:A):(List Byt)->Byt->(List Byt)->Int->Int->Int->(Int)->P:=λde cw da fy jv my=>ao (λw v=>b1 w (q0 self e0 a1 de cw da fy jv my) a1 de cw da fy jv my v) k
theorem nU (rec:RT O) (K:KT O) (a1:A):s1 k rec K a1=r1 k (S0 rec a1) (dq K a1) a1:=
 funext λde=>funext λcw=>funext λda=>funext λfy=>funext λjv=>funext λmy=>funext λfx=>aq _ _ _ (T1 a1 de cw da fy jv my) _ (λrec v=>Bye) k fx
def b0 (self:((List Byt)×(List Byt)×Int×Int)->P) (e0:(List Byt)->P) (l1:(List Byt)->Byt->(List Byt)->Int->Int->Int->(Int)->P) (a1:A) (U:(List Byt)×(List Byt)×Int×Int):P:=cond (decide (U.2.2.2 < U.2.2.1)) (if 0<=U.2.2.2 then ((U.2.1[U.2.2.2.toNat]?).bind λbg=>(bi.ab (bg,())).bind λbr=>cond (!decide (br.1=0)) (some (([]:List Seen),br.1,()))<|(fj.ab (bg,())).bind λfu=>l1 U.1 bg U.2.1 U.2.2.1 U.2.2.2 fu.1 0) else none)<|e0 U.1
def B0 (self:((List Byt)×(List Byt)×Int×Int)->P) (e0:(List Byt)->P) (a1:A) (U:(List Byt)×(List Byt)×Int×Int):P:=b0 self e0 (r1 k self e0 a1) a1 U
theorem nT (rec:RT O) (K:KT O) (a1:A) (U:(List Byt)×(List Byt)×Int×Int):D.N k [1,1,0,1,0,0] (T0 a1 U) (kU rec (iv [0,11,12,13] []) K)=B0 k (S0 rec a1) (dq K a1) a1 U:=
 aV (b:=b0 (S0 rec a1) (dq K a1) (s1 k rec K a1) a1 U) Bye (by rw[nU];rfl)
def q1 (a1:A) (qC:(List Byt)):P:=(cg.ab (qC,())).bind λEj=>some (Ej.1,Ej.2.1,())
theorem tc (a1:A) (qC:(List Byt)):dq (ak 0 (ax (D.N k [1,1,1]) D.K0)) a1 qC=q1 a1 qC:=Bye
def s0 (a1:A):((List Byt)×(List Byt)×Int×Int)->P:=λU=>D.L k [1,1,0,1,0,0] [0,11,12,13] [] (ak 0 (ax (D.N k [1,1,1]) D.K0)) (T0 a1 U)
def r0 (a1:A):((List Byt)×(List Byt)×Int×Int)->P:=ao (λw v=>B0 k w (q1 a1) a1 v) k
theorem av (a1:A):s0 k a1=r0 k a1:=by
 funext U;have h0:dq (ak 0 (ax (D.N k [1,1,1]) D.K0)) a1=q1 a1:=funext λz=>tc k a1 z;refine (aq _ _ _ (T0 a1) (λself v=>B0 k self (dq (ak 0 (ax (D.N k [1,1,1]) D.K0)) a1) a1 v) (λrec v=>nT k rec (ak 0 (ax (D.N k [1,1,1]) D.K0)) a1 v) k U).trans ?_;rw[h0];rfl
def p (l0:((List Byt)×(List Byt)×Int×Int)->P) (a1:A):P:=cond (decide (12 < (a1.1.length:Int))) (some (([]:List Seen),2,()))<|l0 (a1.1,a1.1,(a1.1.length:Int),0)
theorem af (a1:A):@Eq P (D.W k a1) (p (r0 k a1) a1):=
 aV (b:=p (s0 k a1) a1) Bye (by rw[av])
theorem ok:Ok prog 56 D.sig:=al func56 ap Bye (fc bi.ok (fc fj.ok (fc jd.ok (fc lD.ok (fc nz.ok (fc cg.ok (aj _)))))))
end fe
namespace lT
abbrev A:=(List Seen)×Unit
abbrev O:=(List Row)×Unit
abbrev P:=Option O
noncomputable def D:FD:={ fn:=f57,tl:=ba,ps:=[(.ro,(.aa ij))],rs:=[((.aa ay),(ai (.aa ay)))],lv:=[(3,[3,6,7,8])],lx:=[(0,[3])] }
def ab (a:A):P:=@lift O λk=>D.W k a
variable (a1:A)
def T0 (U:(List Row)×Int):St:={ n:=19,sl:=[(3,.own (.aa ay) (ai (.aa ay)) [] U.1),(6,.val (.aa ij) a1.1),(7,.val i64 (a1.1.length:Int)),(8,.val i64 U.2)],vr:=[],az:=[] }
def b0 (self:((List Row)×Int)->P) (e0:(List Row)->P) (a1:A) (U:(List Row)×Int):P:=cond (decide (U.2 < (a1.1.length:Int))) (if 0<=U.2 then ((a1.1[U.2.toNat]?).bind λbg=>if U.1.length+[bg.1].length<=be then (self (U.1++[bg.1],ae (U.2+1))) else none) else none)<|e0 U.1
def q0 (a1:A) (qf:(List Row)):P:=some (qf,())
def r0:((List Row)×Int)->P:=ao (λw v=>b0 w (q0 a1) a1 v) k
theorem av:@Eq (((List Row)×Int)->P) (λU=>D.L k [1,1,0,1,0,0] [3,6,7,8] [] (ak 0 (ax (D.N k [1,1,1]) D.K0)) (T0 a1 U)) (r0 k a1):=
 funext λU=>aq _ _ _ (T0 a1) _ (λrec v=>Bye) k U
def p (l0:((List Row)×Int)->P) (a1:A):P:=l0 (([]:List Row),0)
theorem af:@Eq P (D.W k a1) (p (r0 k a1) a1):=By8 (av k a1) Bye
theorem ok:Ok prog 57 D.sig:=al func57 ap Bye (aj _)
end lT
namespace jw
abbrev A:=UInt8×Unit
abbrev O:=Byt×Unit
abbrev P:=Option O
noncomputable def D:FD:={ fn:=f163,tl:=ba,ps:=[(.ro,u8)],rs:=[((.aa u8),(ai (.aa u8)))],lv:=[(3,[0,3,7,8])],lx:=[(0,[3])] }
def ab (a:A):P:=@lift O λk=>D.W k a
variable (a1:A)
def T0 (U:Byt×Int):St:={ n:=21,sl:=[(0,.val u8 a1.1),(3,.own (.aa u8) (ai (.aa u8)) [] U.1),(7,.val i64 ((List.replicate 64 (0:UInt8)).length:Int)),(8,.val i64 U.2)],vr:=[],az:=[] }
def b0 (self:(Byt×Int)->P) (e0:Byt->P) (a1:A) (U:Byt×Int):P:=cond (decide (U.2 < ((List.replicate 64 (0:UInt8)).length:Int))) (if 0<=U.2/\U.2 < (U.1.length:Int) then ((U.1[U.2.toNat]?).bind λbg=>self (U.1.set U.2.toNat a1.1,ae (U.2+1))) else none)<|e0 U.1
def q0 (a1:A) (qf:Byt):P:=if 0<=(0:Int)/\0 < (qf.length:Int) then ((qf[0]?).bind λiz=>if 0<=(1:Int)/\1 < ((qf.set 0 (0:UInt8)).length:Int) then (((qf.set 0 (0:UInt8))[1]?).bind λzS=>let EP:=(qf.set 0 (0:UInt8)).set 1 (64:UInt8);some (EP,())) else none) else none
def r0:(Byt×Int)->P:=ao (λw v=>b0 w (q0 a1) a1 v) k
theorem av:@Eq ((Byt×Int)->P) (λU=>D.L k [1,1,0,1,0,0] [0,3,7,8] [] (ak 0 (ax (D.N k [1,1,1]) D.K0)) (T0 a1 U)) (r0 k a1):=
 funext λU=>aq _ _ _ (T0 a1) _ (λrec v=>Bye) k U
def p (l0:(Byt×Int)->P) (a1:A):P:=if 0<=(64:Int)/\(64:Int)<=64/\64<=(be:Int) then (l0 (List.replicate 64 (0:UInt8),0)) else none
theorem af:@Eq P (D.W k a1) (p (r0 k a1) a1):=By8 (av k a1) Bye
theorem ok:Ok prog 163 D.sig:=al func163 ap Bye (aj _)
end jw
namespace nL
abbrev A:=(List Byt)×Unit
abbrev O:=(List Byt)×Unit
noncomputable def D:FD:={ fn:=f199,tl:=ba,ps:=[(.ro,(.aa (.aa u8)))],rs:=[((.aa (.aa u8)),(.aa true (ah (.aa u8))))] }
def ab (a:A):Option O:=@lift O λk=>D.W k a
def p (a1:A):Option O:=CQ a1.1 (some (([]:List Byt),())) (if ([]:List Byt).length+a1.1.length<=be then (some (([]:List Byt)++a1.1,())) else none)
theorem af (a1:A):@Eq (Option O) (D.W k a1) (p a1):=Bye
theorem ok:Ok prog 199 D.sig:=al func199 ap Bye (aj _)
end nL
namespace mz
abbrev A:=Byt×(List cv)×Unit
abbrev O:=Byt×Unit
abbrev P:=Option O
noncomputable def D:FD:={ fn:=f200,tl:=ba,ps:=[(.ro,(.aa u8)),(.ro,(.aa qX))],rs:=[((.aa u8),(ai (.aa u8)))],gl:=[(91,cj.D.sig)],lv:=[(3,[5,10,11,12])],lx:=[(0,[5])],od:=[(5,[0,1,2,3,4,5,6])] }
def ab (a:A):P:=@lift O λk=>D.W k a
variable (a1:A)
def T0 (bv:Byt×Int):St:={ n:=25,sl:=[(5,.own (.aa u8) (ai (.aa u8)) [] bv.1),(10,.val (.aa qX) a1.2.1),(11,.val i64 (a1.2.1.length:Int)),(12,.val i64 bv.2)],vr:=[],az:=[] }
def b0 (self:(Byt×Int)->P) (e0:Byt->P) (a1:A) (bv:Byt×Int):P:=cond (decide (bv.2 < (a1.2.1.length:Int))) (if 0<=bv.2 then ((a1.2.1[bv.2.toNat]?).bind λpA=>if 0<=pA.1/\pA.1<=(bv.1.length:Int) then (let abi:=pO bv.1 pA.1.toNat (min pA.2.1.length (bv.1.length - pA.1.toNat)) pA.2.1;self (abi,ae (bv.2+1))) else none) else none)<|e0 bv.1
def q0 (a1:A) (BZ:Byt):P:=some (BZ,())
def r0:(Byt×Int)->P:=ao (λw v=>b0 w (q0 a1) a1 v) k
theorem av:@Eq ((Byt×Int)->P) (λbv=>D.L k [1,1,0,1,0,0] [5,10,11,12] [] (ak 0 (ax (D.N k [1,1,1]) D.K0)) (T0 a1 bv)) (r0 k a1):=
 funext λbv=>aq _ _ _ (T0 a1) _ (λrec v=>Bye) k bv
def p (l0:(Byt×Int)->P) (a1:A):P:=(cj.ab (a1.1,())).bind λr2=>l0 (r2.1,0)
theorem af:@Eq P (D.W k a1) (p (r0 k a1) a1):=By8 (av k a1) Bye
theorem ok:Ok prog 200 D.sig:=al func200 ap Bye (fc cj.ok (aj _))
end mz
namespace p5
abbrev A:=(List Byt)×bz×Unit
abbrev O:=(List Byt)×Int×Unit
noncomputable def D:FD:={ fn:=f125,tl:=ba,ps:=[(.ro,(.aa (.aa u8))),(.ro,jW)],rs:=[((.aa (.aa u8)),(ah (.aa (.aa u8)))),(i64,(ah i64))],gl:=[(163,jw.D.sig),(197,rg.D.sig),(199,nL.D.sig),(200,mz.D.sig)],od:=[(10,[0,1,2,3,4,5,6,7,8,9,10,11,12])] }
def ab (a:A):Option O:=@lift O λk=>D.W k a
def p (a1:A):Option O:=(rg.ab (a1.2.1.1,())).bind λr2=>cond (!r2.1) (some (a1.1,0,()))<|cond (decide ((a1.1.length:Int) < a1.2.1.2.2.1)) (some (([]:List Byt),1,()))<|cond (decide (a1.2.1.2.2.1=12)) (some (([]:List Byt),2,()))<|(nL.ab (a1.1,())).bind λr3=>let HD:=λ(p9:List Byt)=>(if 0<=a1.2.1.2.2.1/\a1.2.1.2.2.1 < (p9.length:Int) then ((p9[a1.2.1.2.2.1.toNat]?).bind λPe=>(mz.ab (Pe,a1.2.1.2.2.2.1,())).bind λqb=>if 0<=a1.2.1.2.2.1/\a1.2.1.2.2.1 < (p9.length:Int) then ((p9[a1.2.1.2.2.1.toNat]?).bind λFq=>some (p9.set a1.2.1.2.2.1.toNat qb.1,0,())) else none) else none:Option O);cond (decide (a1.2.1.2.2.1=(a1.1.length:Int))) ((jw.ab ((0:UInt8),())).bind λr4=>if r3.1.length+[r4.1].length<=be then (HD (r3.1++[r4.1])) else none)<|HD r3.1
theorem af (a1:A):@Eq (Option O) (D.W k a1) (p a1):=Bye
theorem ok:Ok prog 125 D.sig:=al func125 ap Bye (fc jw.ok (fc rg.ok (fc nL.ok (fc mz.ok (aj _)))))
end p5
namespace sw
abbrev A:=(List bz)×Unit
abbrev O:=(List Byt)×Int×Unit
abbrev P:=Option O
noncomputable def D:FD:={ fn:=f58,tl:=ba,ps:=[(.ro,(.aa jW))],rs:=[((.aa (.aa u8)),(ah (.aa (.aa u8)))),(i64,(ah i64))],gl:=[(124,lM.D.sig),(125,p5.D.sig)],lv:=[(3,[4,10,11,12])],lx:=[(0,[4])],lf:=[(3,[(4,(.aa false (.aa false .leaf)))])] }
def ab (a:A):P:=@lift O λk=>D.W k a
variable (a1:A)
def T0 (U:(List Byt)×Int):St:={ n:=33,sl:=[(4,.val (.aa (.aa u8)) U.1),(10,.val (.aa jW) a1.1),(11,.val i64 (a1.1.length:Int)),(12,.val i64 U.2)],vr:=[],az:=[] }
def b0 (self:((List Byt)×Int)->P) (e0:(List Byt)->P) (a1:A) (U:(List Byt)×Int):P:=cond (decide (U.2 < (a1.1.length:Int))) (if 0<=U.2 then ((a1.1[U.2.toNat]?).bind λbg=>(lM.ab (bg,())).bind λbr=>cond (!decide (br.1=0)) (some (([]:List Byt),br.1,()))<|(p5.ab (U.1,bg,())).bind λfu=>cond (!decide (fu.2.1=0)) (some (([]:List Byt),fu.2.1,()))<|self (fu.1,ae (U.2+1))) else none)<|e0 U.1
def q0 (a1:A) (BZ:(List Byt)):P:=some (BZ,0,())
def r0:((List Byt)×Int)->P:=ao (λw v=>b0 w (q0 a1) a1 v) k
theorem av:@Eq (((List Byt)×Int)->P) (λU=>D.L k [1,1,0,1,0,0] [4,10,11,12] [(4,(.aa false (.aa false .leaf)))] (ak 0 (ax (D.N k [1,1,1]) D.K0)) (T0 a1 U)) (r0 k a1):=
 funext λU=>aq _ _ _ (T0 a1) _ (λrec v=>Bye) k U
def p (l0:((List Byt)×Int)->P) (a1:A):P:=l0 (([]:List Byt),0)
theorem af:@Eq P (D.W k a1) (p (r0 k a1) a1):=By8 (av k a1) Bye
theorem ok:Ok prog 58 D.sig:=al func58 ap Bye (fc lM.ok (fc p5.ok (aj _)))
end sw
namespace qg
abbrev A:=Log×Unit
abbrev O:=(List bz)×Unit
noncomputable def D:FD:={ fn:=f59,tl:=ba,ps:=[(.ro,ma)],rs:=[((.aa jW),(ai (.aa jW)))],gl:=[(117,nm.D.sig)] }
def ab (a:A):Option O:=@lift O λk=>D.W k a
def p (a1:A):Option O:=(nm.ab (a1.1.1,())).bind λr2=>(nm.ab (a1.1.2.1,())).bind λr3=>if r2.1.length+r3.1.length<=be then (some (r2.1++r3.1,())) else none
theorem af (a1:A):@Eq (Option O) (D.W k a1) (p a1):=Bye
theorem ok:Ok prog 59 D.sig:=al func59 ap Bye (fc nm.ok (aj _))
end qg
namespace gt
abbrev A:=(List Byt)×(List Byt)×(Nat×Int)×Unit
abbrev O:=Bool×Unit
abbrev P:=Option O
noncomputable def D:FD:={ fn:=f126,tl:=ba,ps:=[(.ro,(.aa (.aa u8))),(.ro,(.aa (.aa u8))),(.fix 127,.fn)],rs:=[(.bool,(ah .bool))],gl:=[(127,fk.D.sig)],lv:=[(4,[1,2,15,16,17])],lx:=[(0,[])] }
def ab (a:A):P:=@lift O λk=>D.W k a
variable (a1:A)
def T0 (U:Int):St:={ n:=32,sl:=[(1,.val (.aa (.aa u8)) a1.2.1),(2,.val .fn ((127,a1.2.2.1.2):Nat×Int)),(15,.val (.aa (.aa u8)) a1.1),(16,.val i64 (a1.1.length:Int)),(17,.val i64 U)],vr:=[],az:=[] }
def b0 (self:Int->P) (e0:(Unit)->P) (a1:A) (U:Int):P:=cond (decide (U < (a1.1.length:Int))) (if 0<=U then ((a1.1[U.toNat]?).bind λbg=>if 0<=U then ((a1.2.1[U.toNat]?).bind λpA=>(fk.ab (bg,pA,())).bind λfu=>cond (!fu.1) (some (false,()))<|self (ae (U+1))) else none) else none)<|e0 ()
def q0 (a1:A) (BZ:(Unit)):P:=some (true,())
def r0:(Int)->P:=ao (λw v=>b0 w (q0 a1) a1 v) k
theorem av:@Eq ((Int)->P) (λU=>D.L k [1,1,0,1,0,0] [1,2,15,16,17] [] (ak 0 (ax (D.N k [1,1,1]) D.K0)) (T0 a1 U)) (r0 k a1):=
 funext λU=>aq _ _ _ (T0 a1) _ (λrec v=>Bye) k U
def p (l0:(Int)->P) (a1:A):P:=cond (!decide ((a1.1.length:Int)=(a1.2.1.length:Int))) (some (false,()))<|l0 0
theorem af:@Eq P (D.W k a1) (p (r0 k a1) a1):=By8 (av k a1) Bye
theorem ok:Ok prog 126 D.sig:=al func126 ap Bye (fc fk.ok (aj _))
end gt
namespace rV
abbrev A:=(List Byt)×(List Byt)×Unit
abbrev O:=Bool×Unit
noncomputable def D:FD:={ fn:=f60,tl:=ba,ps:=[(.ro,(.aa (.aa u8))),(.ro,(.aa (.aa u8)))],rs:=[(.bool,(ah .bool))],gl:=[(126,gt.D.sig)] }
def ab (a:A):Option O:=@lift O λk=>D.W k a
def p (a1:A):Option O:=(gt.ab (a1.1,a1.2.1,((127,0):Nat×Int),())).bind λr2=>some (r2.1,())
theorem af (a1:A):@Eq (Option O) (D.W k a1) (p a1):=Bye
theorem ok:Ok prog 60 D.sig:=al func60 ap Bye (fc gt.ok (aj _))
end rV
namespace rj
abbrev A:=aw×Unit
abbrev O:=Int×Unit
noncomputable def D:FD:={ fn:=f25,tl:=ba,ps:=[(.ro,e_)],rs:=[(i64,(ah i64))],gl:=[(36,ee.D.sig),(47,mw.D.sig),(55,mf.D.sig),(56,fe.D.sig),(57,lT.D.sig),(58,sw.D.sig),(59,qg.D.sig),(60,rV.D.sig)],od:=[(13,[0,2,3,4,5,1,6,7,8])] }
def ab (a:A):Option O:=@lift O λk=>D.W k a
def p (a1:A):Option O:=(mf.ab (a1.1.2.2.1,())).bind λr2=>cond (!decide (r2.1=0)) (some (r2.1,()))<|cond (!a1.1.1) (cond (decide (0 < (a1.1.2.1.length:Int))) (some (1,()))<|cond (decide (0 < (a1.1.2.2.2.1.length:Int))) (some (1,()))<|cond (decide (0 < (a1.1.2.2.1.2.1.length:Int))) (some (1,()))<|(ee.ab (a1.1.2.2.2.2.1,1,100,())).bind λr3=>cond (!r3.1) (some (3,()))<|some (0,()))<|(fe.ab (a1.1.2.1,())).bind λr4=>cond (!decide (r4.2.1=0)) (some (r4.2.1,()))<|(lT.ab (r4.1,())).bind λr5=>(mw.ab ((r5.1,a1.1.2.2.2.1,a1.1.2.2.2.2.1,()),())).bind λr6=>cond (!decide (r6.1=0)) (some (r6.1,()))<|(qg.ab (a1.1.2.2.1,())).bind λr7=>(sw.ab (r7.1,())).bind λr8=>cond (!decide (r8.2.1=0)) (some (8,()))<|(rV.ab (r8.1,a1.1.2.1,())).bind λr9=>cond (!r9.1) (some (8,()))<|some (0,())
theorem af (a1:A):@Eq (Option O) (D.W k a1) (p a1):=Bye
theorem ok:Ok prog 25 D.sig:=al func25 ap Bye (fc ee.ok (fc mw.ok (fc mf.ok (fc fe.ok (fc lT.ok (fc sw.ok (fc qg.ok (fc rV.ok (aj _)))))))))
end rj
namespace se
abbrev A:=Int×Unit
abbrev O:=Bool×Unit
noncomputable def D:FD:={ fn:=f152,tl:=ba,ps:=[(.ro,i64)],rs:=[(.bool,(ah .bool))] }
def ab (a:A):Option O:=@lift O λk=>D.W k a
def p (a1:A):Option O:=cond (decide (a1.1=2)) (some (true,()))<|cond (decide (a1.1=3)) (some (true,()))<|some (decide (a1.1=4),())
theorem af (a1:A):@Eq (Option O) (D.W k a1) (p a1):=Bye
theorem ok:Ok prog 152 D.sig:=al func152 ap Bye (aj _)
end se
namespace sx
abbrev A:=Op×Unit
abbrev O:=Int×Unit
abbrev P:=Option O
noncomputable def D:FD:={ fn:=f83,tl:=ba,ps:=[(.ro,l7)],rs:=[(i64,(ah i64))],gl:=[(36,ee.D.sig),(148,d9.D.sig),(150,pJ.D.sig),(152,se.D.sig)] }
def ab (a:A):P:=@lift O λk=>D.W k a
def p (a1:A):P:=let j29:=λ(p28:Bool)=>(let Pf:P:=let j55:P:=cond (!p28) ((pJ.ab (a1.1.2.1,())).bind λr56=>cond (!r56.1) (some (3,()))<|(ee.ab (a1.1.2.2.2.1,0,7,())).bind λr57=>cond (!r57.1) (some (3,()))<|(se.ab (a1.1.1,())).bind λr61=>cond r61.1 ((d9.ab (a1.1.2.2.1,())).bind λr62=>some (r62.1,()))<|some (0,()))<|(ee.ab (a1.1.2.2.2.1,0,7,())).bind λr58=>cond (!r58.1) (some (3,()))<|(se.ab (a1.1.1,())).bind λr63=>cond r63.1 ((d9.ab (a1.1.2.2.1,())).bind λr64=>some (r64.1,()))<|some (0,());cond (decide (a1.1.1=4)) (cond (!decide (a1.1.2.2.1.2.2.1=0)) (some (1,()))<|cond (!decide (a1.1.2.2.1.2.2.2.1=([]:Byt))) (some (1,()))<|j55)<|j55;(ee.ab (a1.1.1,1,9,())).bind λr30=>cond (!r30.1) (some (1,()))<|cond p28 (cond (!decide (a1.1.2.1=0)) (some (1,()))<|(se.ab (a1.1.1,())).bind λr31=>cond (!r31.1) (cond (!(Ty.eq ay a1.1.2.2.1 (0,0,0,([]:Byt),()))) (some (1,()))<|cond (!decide (a1.1.1=6)) (cond (!decide (a1.1.2.2.2.1=0)) (some (1,()))<|Pf)<|Pf)<|cond (!decide (a1.1.1=6)) (cond (!decide (a1.1.2.2.2.1=0)) (some (1,()))<|Pf)<|Pf)<|(se.ab (a1.1.1,())).bind λr32=>cond (!r32.1) (cond (!(Ty.eq ay a1.1.2.2.1 (0,0,0,([]:Byt),()))) (some (1,()))<|cond (!decide (a1.1.1=6)) (cond (!decide (a1.1.2.2.2.1=0)) (some (1,()))<|Pf)<|Pf)<|cond (!decide (a1.1.1=6)) (cond (!decide (a1.1.2.2.2.1=0)) (some (1,()))<|Pf)<|Pf:P);cond (decide (a1.1.1=1)) (j29 true)<|j29 (decide (a1.1.1=9))
theorem af (a1:A):@Eq P (D.W k a1) (p a1):=Bye
theorem ok:Ok prog 83 D.sig:=al func83 ap Bye (fc ee.ok (fc d9.ok (fc pJ.ok (fc se.ok (aj _)))))
end sx
namespace wQ
abbrev A:=Tx×Int×Unit
abbrev O:=Bool×Unit
noncomputable def D:FD:={ fn:=f154,tl:=ba,ps:=[(.ro,bm),(.ro,(.ptr i64))],rs:=[(.bool,(ah .bool))],cap:=true }
def ab (a:A):Option O:=@lift O λk=>D.W k a
def p (a1:A):Option O:=some (decide (a1.1.1=a1.2.1),())
theorem af (a1:A):@Eq (Option O) (D.W k a1) (p a1):=Bye
theorem ok:Ok prog 154 D.sig:=al func154 ap Bye (aj _)
end wQ
namespace jj
abbrev A:=(List Tx)×(Nat×Int)×Unit
abbrev O:=Int×Unit
abbrev P:=Option O
noncomputable def D:FD:={ fn:=f153,tl:=ba,ps:=[(.ro,(.aa bm)),(.fix 154,.fn)],rs:=[(i64,(ah i64))],gl:=[(154,wQ.D.sig)],lv:=[(2,[0,1,7,8])],lx:=[(0,[])] }
def ab (a:A):P:=@lift O λk=>D.W k a
variable (a1:A)
def T0 (U:Int):St:={ n:=19,sl:=[(0,.val (.aa bm) a1.1),(1,.val .fn ((154,a1.2.1.2):Nat×Int)),(7,.val i64 (a1.1.length:Int)),(8,.val i64 U)],vr:=[],az:=[] }
def b0 (self:Int->P) (e0:(Unit)->P) (a1:A) (U:Int):P:=cond (decide (U < (a1.1.length:Int))) (if 0<=U then ((a1.1[U.toNat]?).bind λbg=>(wQ.ab (bg,a1.2.1.2,())).bind λbr=>cond br.1 (some (U,()))<|self (ae (U+1))) else none)<|e0 ()
def q0 (a1:A) (fm:(Unit)):P:=some ((-1),())
def r0:(Int)->P:=ao (λw v=>b0 w (q0 a1) a1 v) k
theorem av:@Eq ((Int)->P) (λU=>D.L k [1,0,1,0,0] [0,1,7,8] [] (ak 0 (ax (D.N k [1,1]) D.K0)) (T0 a1 U)) (r0 k a1):=
 funext λU=>aq _ _ _ (T0 a1) _ (λrec v=>Bye) k U
def p (l0:(Int)->P) (a1:A):P:=l0 0
theorem af:@Eq P (D.W k a1) (p (r0 k a1) a1):=By8 (av k a1) Bye
theorem ok:Ok prog 153 D.sig:=al func153 ap Bye (fc wQ.ok (aj _))
end jj
namespace nM
abbrev A:=(List Tx)×Int×Unit
abbrev O:=Int×Unit
noncomputable def D:FD:={ fn:=f84,tl:=ba,ps:=[(.ro,(.aa bm)),(.ro,i64)],rs:=[(i64,(ah i64))],gl:=[(153,jj.D.sig)] }
def ab (a:A):Option O:=@lift O λk=>D.W k a
def p (a1:A):Option O:=(jj.ab (a1.1,((154,a1.2.1):Nat×Int),())).bind λr2=>some (r2.1,())
theorem af (a1:A):@Eq (Option O) (D.W k a1) (p a1):=Bye
theorem ok:Ok prog 84 D.sig:=al func84 ap Bye (fc jj.ok (aj _))
end nM
namespace kG
abbrev A:=(List Row)×Change×Unit
abbrev O:=Int×Unit
abbrev P:=Option O
noncomputable def D:FD:={ fn:=f217,tl:=ba,ps:=[(.ro,(.aa ay)),(.ro,au)],rs:=[(i64,(ah i64))],gl:=[(36,ee.D.sig),(215,du.D.sig)],lv:=[(4,[3,28,29,30])],lx:=[(0,[])],od:=[(6,[0,1,2,3,4,5,6,7,8,9,10,11,12,13,14,15,16,17,18,19,20,21,22,23,24])],ar:=[(6,[1,2,8,13,17,21])],bx:=[(3,[3]),(6,[6])] }
def ab (a:A):P:=@lift O λk=>D.W k a
variable (a1:A)
def T0 (c9:Int):St:={ n:=60,sl:=[(3,.cp au a1.2.1),(28,.val (.aa ay) a1.1),(29,.val i64 (a1.1.length:Int)),(30,.val i64 c9)],vr:=[],az:=[] }
def b0 (self:Int->P) (e0:(Unit)->P) (a1:A) (c9:Int):P:=cond (decide (c9 < (a1.1.length:Int))) (if 0<=c9 then ((a1.1[c9.toNat]?).bind λGD=>(du.ab (a1.2.1,())).bind λXb=>cond (decide (GD.1=Xb.1.2.1)) (cond (!decide (GD.1=0)) (cond (!a1.2.1.2.2.1) (some (8,()))<|cond (decide (a1.2.1.2.2.2.1.2.2.1 < (GD.2.2.2.1.length:Int))) (some (8,()))<|self (ae (c9+1)))<|self (ae (c9+1)))<|self (ae (c9+1))) else none)<|e0 ()
def q0 (a1:A) (A9:(Unit)):P:=some (0,())
def r0:(Int)->P:=ao (λw v=>b0 w (q0 a1) a1 v) k
theorem av:@Eq ((Int)->P) (λc9=>D.L k [1,1,0,1,0,0] [3,28,29,30] [] (ak 0 (ax (D.N k [1,1,1]) D.K0)) (T0 a1 c9)) (r0 k a1):=
 funext λc9=>aq _ _ _ (T0 a1) _ (λrec v=>Bye) k c9
def p (l0:(Int)->P) (a1:A):P:=let aeY:P:=l0 0;cond a1.2.1.2.2.1 ((ee.ab (a1.2.1.2.2.2.1.2.1,1,3,())).bind λr2=>cond (!r2.1) (some (10,()))<|cond (decide (8 < a1.2.1.2.2.2.1.2.2.1)) (some (10,()))<|cond (!decide (a1.2.1.2.2.2.1.2.2.2.1=([]:Byt))) (some (10,()))<|aeY)<|aeY
theorem af:@Eq P (D.W k a1) (p (r0 k a1) a1):=By8 (av k a1) Bye
theorem ok:Ok prog 217 D.sig:=al func217 ap Bye (fc ee.ok (fc du.ok (aj _)))
end kG
namespace oV
abbrev A:=(List Row)×Int×Unit
abbrev O:=Int×Bool×Unit
abbrev P:=Option O
noncomputable def D:FD:={ fn:=f218,tl:=ba,ps:=[(.ro,(.aa ay)),(.ro,i64)],rs:=[(i64,(ah i64)),(.bool,(ah .bool))],lv:=[(2,[1,8,9,10])],lx:=[(0,[])] }
def ab (a:A):P:=@lift O λk=>D.W k a
variable (a1:A)
def T0 (U:Int):St:={ n:=26,sl:=[(1,.val i64 a1.2.1),(8,.val (.aa ay) a1.1),(9,.val i64 (a1.1.length:Int)),(10,.val i64 U)],vr:=[],az:=[] }
def b0 (self:Int->P) (e0:(Unit)->P) (a1:A) (U:Int):P:=cond (decide (U < (a1.1.length:Int))) (if 0<=U then ((a1.1[U.toNat]?).bind λbg=>cond (decide (bg.1=0)) (cond (decide (bg.2.1=a1.2.1)) (some (bg.2.2.1,true,()))<|self (ae (U+1)))<|self (ae (U+1))) else none)<|e0 ()
def q0 (a1:A) (qf:(Unit)):P:=some (0,false,())
def r0:(Int)->P:=ao (λw v=>b0 w (q0 a1) a1 v) k
theorem av:@Eq ((Int)->P) (λU=>D.L k [1,0,1,0,0] [1,8,9,10] [] (ak 0 (ax (D.N k [1,1]) D.K0)) (T0 a1 U)) (r0 k a1):=
 funext λU=>aq _ _ _ (T0 a1) _ (λrec v=>Bye) k U
def p (l0:(Int)->P) (a1:A):P:=l0 0
theorem af:@Eq P (D.W k a1) (p (r0 k a1) a1):=By8 (av k a1) Bye
theorem ok:Ok prog 218 D.sig:=al func218 ap Bye (aj _)
end oV
end
end OT
