/- The proof's parts, merged: Maps  made, asked, turned.. No conditions but those that each states. -/
import Derived.Test.YtghckfpmmofmnaaGreatRb
import Derived.MapKept
import Derived.WideMake
import Derived.OrdersHeld
import Derived.LoopN
import Derived.Scope
import Derived.ProofKit
import Derived.Deep.Slices
import Derived.Laws.BitsLemmas
import Derived.Shelf.SlSortCmp.NoneTotal
set_option linter.unusedVariables false
set_option linter.unusedSimpArgs false
namespace OT
open Go
section
variable {P:Program} {w:World} {A:Cells}
def L9:Value->Bool
 | .int _ _ | .bool _ | .string _=>true
 | _=>false
theorem Ro.simple:∀ (t:Ty) {v:t.den} {cs:List Value},t.o9=true->Ro P w A t v cs->∀ x ∈ cs,L9 x=true:=by
 intro t
 induction t with
 | int k=>intro v cs _ h x hx;simp only[Ro] at h;subst h;simp at hx;subst hx;rfl
 | bool=>intro v cs _ h x hx;simp only[Ro] at h;subst h;simp at hx;subst hx;rfl
 | str=>intro v cs _ h x hx;simp only[Ro] at h;subst h;simp at hx;subst hx;rfl
 | unit=>grind [Ro]
 | pair a b nE nw=>
  intro v cs he h x hx;simp only[Ty.o9,aD] at he;rw[<-dA a.sz cs] at hx;rcases bR.1 hx with hx | hx
  ·exact nE he.1 h.1 x hx
  ·exact nw he.2 h.2 x hx
 | arr n e ih=>
  intro v cs he h x hx;obtain ⟨_,hv,hl,hr⟩:=h;obtain ⟨j,hj,rfl⟩:=cK.1 hx
  have hs:0 < e.sz:=by
   grind
  have hi:j / e.sz < n:=by
   rw[fA hs];omega
  have h1:=hr (j / e.sz) _ (aB Bys);refine ih he h1 _ (fB.2 ⟨j % e.sz,?_⟩);grind [Nat.mod_lt,Nat.div_add_mod]
 | _=>grind [Ty.o9]
theorem Ry {x:Value} (h:L9 x=true) (n:Nat):Instr.sameBits n x x=true:=by
 cases x <;> simp[L9] at h <;> cases n <;> simp[Instr.sameBits,MapKept.bytes_beq]
theorem WU {t:Ty} {v:t.den} {cs:List Value} (ha:isAgg t=true) (he:t.o9=true) (h:Ro P w A t v cs):Instr.sameBits 10000 (cu t cs) (cu t cs)=true:=by
 have hs:=Ro.simple t he h;simp only[cu,ha,aJ,Instr.sameBits,beq_self_eq_true,dV,bH];rintro ⟨x,y⟩ uR;have hz:(x,y) ∈ cs.zip cs:=by simpa using uR
 have S8:x=y/\x ∈ cs:=by
  clear h hs uR
  induction cs with
  | nil=>simp at hz
  | cons c cs ih=>
   grind [List.zip_cons_cons]
 grind [Ry]
theorem O8:∀ (t:Ty),(∀ (i:TypeId) (d:Nat) (e:Bool) (v:t.den) (cs:List Value),bn P t (.inl i)=true->s9 P t (.inl i)=true->dep t<=d->Ro P w A t v cs->(Instr.checkKey e d i (cu t cs)).run P w=.ok () w) /\
  (∀ (fs:List Field) (off d:Nat) (e:Bool) (v:t.den) (xs:Array Value),bn P t (.inr (fs,off))=true->s9 P t (.inr fs)=true->dep t<=d+1->Ro P w A t v (xs.toList.drop off) ->
   (forIn fs PUnit.unit λf _=>(if f.name ≠ "_" then do
     let x <- part f.type xs f.offset
     Instr.checkKey e d f.type x
     pure (ForInStep.yield PUnit.unit)
    else pure (ForInStep.yield PUnit.unit):Sem (ForInStep PUnit))).run P w=.ok () w):=by
 intro t
 induction t with
 | int k=>
  refine ⟨λi d e v cs hl he hd h=>?_,λfs off d e v xs hl=>by simp[bn] at hl⟩
  simp only[Ro] at h;subst h
  cases d with
  | zero=>simp[dep] at hd
  | succ d=>rw[ee _ _ rfl];simp[Instr.checkKey,run_underlying (qI hl)]
 | bool=>
  refine ⟨λi d e v cs hl he hd h=>?_,λfs off d e v xs hl=>by simp[bn] at hl⟩
  simp only[Ro] at h;subst h
  have hu:P.underlying i=some .bool:=by
   grind [bn]
  cases d <;> simp_all [dep,Instr.checkKey,run_underlying]
 | str=>
  refine ⟨λi d e v cs hl he hd h=>?_,λfs off d e v xs hl=>by simp[bn] at hl⟩
  simp only[Ro] at h;subst h;cases d <;> simp_all [dep,Instr.checkKey,run_underlying,nF]
 | unit=>
  refine ⟨λi d e v cs hl he hd h=>?_,λfs off d e v xs hl he hd h=>?_⟩
  ·simp only[Ro] at h;subst h;simp only[bn,aD] at hl;have h3:=hl.2;split at h3
   ·rename_i fs hu;have t6:fs.toList=[]:=bD.1 h3
    cases d with
    | zero=>simp[dep] at hd
    | succ d=>
     show (Instr.checkKey e (d+1) i (.agg #[])).run P w=_;simp_all [Instr.checkKey,run_underlying]
   ·cases h3
  simp_all [bn]
 | pair a b nE nw=>
  have second:∀ (fs:List Field) (off d:Nat) (e:Bool) (v:(Ty.pair a b).den) (xs:Array Value),bn P (.pair a b) (.inr (fs,off))=true->s9 P (.pair a b) (.inr fs)=true->dep (.pair a b)<=d+1->Ro P w A (.pair a b) v (xs.toList.drop off) ->
    (forIn fs PUnit.unit λf _=>(if f.name ≠ "_" then do
      let x <- part f.type xs f.offset
      Instr.checkKey e d f.type x
      pure (ForInStep.yield PUnit.unit)
     else pure (ForInStep.yield PUnit.unit):Sem (ForInStep PUnit))).run P w=.ok () w:=by
   intro fs off d e v xs hl he hd h1
   cases fs with
   | nil=>simp_all
   | cons f r=>
    simp only[bn,aD,eP,dL] at hl;simp only[s9,aD,bne_iff_ne,ne_eq] at he;simp only[dep] at hd;obtain ⟨WH,WI⟩:=h1;have p1:=wx (P:=P) (w:=w) hl.1.2 (cs:=xs) (off:=off) (Ro.length _ WH);have e1:=nE.1 f.type d e v.1 _ hl.1.2 he.1.2 Bys WH;rw[dB] at WI;have e2:=nw.2 r (off+a.sz) d e v.2 xs hl.2 he.2 Bys WI;simp_all
  refine ⟨λi d e v cs hl he hd h=>?_,second⟩
  simp only[bn,aD] at hl;simp only[s9,aD,cH] at he;have h3:=hl.2;have h4:=he.2;split at h3
  ·rename_i fs hu;rw[hu] at h4;simp only at h4;split at h3
   ·rename_i f r Kr;rw[Kr] at h4;simp only at h4
    cases d with
    | zero=>grind [dep]
    | succ d=>
     show (Instr.checkKey e (d+1) i (.agg cs.toArray)).run P w=_;rw[Instr.checkKey];simp only[Sem.run_bind,run_underlying hu,Result.andThen_ok];rw[<-Array.forIn_toList,Kr];have:=second (f::r) 0 d e v cs.toArray (by grind [bn]) (by grind [s9]) hd (by simpa using h);rw[this];rfl
   ·cases h3
  ·cases h3
 | arr n e ih=>
  refine ⟨λi d em v cs hl he hd h=>?_,λfs off d em v xs hl=>by simp[bn] at hl⟩
  simp only[bn,aD] at hl;have h3:=hl.2;simp only[s9] at he;split at h3
  ·rename_i n' el hu;simp only[aD,eP,dL] at h3;obtain ⟨⟨rfl,_⟩,hle⟩:=h3;rw[hu] at he;simp only at he;obtain ⟨inf,i1,i2,_⟩:=lG (lX hle);have nt:P.cellsOf el=e.sz:=by grind [Program.cellsOf]
   obtain ⟨_,l1,_,r1⟩:=h
   cases d with
   | zero=>simp[dep] at hd
   | succ d=>
    simp only[dep] at hd;show (Instr.checkKey em (d+1) i (.agg cs.toArray)).run P w=_;rw[Instr.checkKey];simp only[Sem.run_bind,run_underlying hu,Result.andThen_ok,Std.Legacy.Range.forIn_eq_forIn_range',Std.Legacy.Range.size,Nat.sub_zero,Nat.add_one_sub_one,Nat.div_one]
    have key:∀ (m j:Nat),j+m=n->(forIn (List.range' j m) PUnit.unit λi _=>(do
       let x <- part el cs.toArray (i*(<- Go.sizeOf el))
       Instr.checkKey em d el x
       pure (ForInStep.yield PUnit.unit):Sem (ForInStep PUnit))).run P w=.ok () w:=by
     intro m
     induction m with
     | zero=>simp_all
     | succ m ihm=>
      intro j hj;have a1:=r1 j _ (aB (l:=v) (i:=j) Bys);have p1:=wx (P:=P) (w:=w) hle (cs:=cs.toArray) (off:=j*e.sz) (Ro.length _ a1);have e1:=ih.1 el d em _ _ hle he Bys a1;rw[gY];simp only[List.forIn_cons,Sem.run_bind,run_sizeOf hle,p1,e1,Result.andThen_ok,Sem.run_pure];grind
    simp_all
  ·cases h3
 | _=>grind [s9]
def E1 (P:Program) (w:World) (A:Cells) (k v:Ty) (es:List (Value×Value)) (m:List (k.den×v.den)):Prop:=
 es.length=m.length/\∀ (i:Nat) (y:k.den×v.den),m[i]?=some y->∃ (kc vc:List Value),es[i]?=some (cu k kc,cu v vc)/\Ro P w A k y.1 kc/\Ro P w A v y.2 vc
structure N1 (P:Program) (k:Ty) (i:TypeId):Prop where
 lay:bn P k (.inl i)=true
 agg:isAgg k=true
 o9:k.o9=true
 flat:k.flat=true
 s9:s9 P k (.inl i)=true
 dep:dep k<=9000
theorem L_ {k v:Ty} {i:TypeId} (h:bn P (.map k v) (.inl i)=true):∃ ki vi,P.underlying i=some (.map ki vi)/\N1 P k ki/\bn P v (.inl vi)=true/\zvB P v vi=true:=by
 simp only[bn,aD] at h;have h2:=h.2;split at h2
 ·rename_i ki vi hu;simp only[aD,acr,dL] at h2;obtain ⟨⟨⟨h3,h4⟩,⟨⟨⟨⟨h5,h6⟩,h7⟩,h8⟩,h9⟩⟩,IJ⟩:=h2;exact ⟨ki,vi,hu,⟨h3,h5,h6,h7,h8,h9⟩,h4,IJ⟩
 ·cases h2
theorem WV {k v:Ty} {ki:TypeId} (K:N1 P k ki) {x:k.den} {xc:List Value} (hx:Ro P w A k x xc):∀ (es:List MapEntry) (m:List (k.den×v.den)) (i:Nat),E1 P w A k v (es.map λe=>(e.key,e.val)) m ->
  (Instr.findAsking ki (cu k xc) es i).run P w=.ok ((m.findIdx? λy=>k.eq x y.1).bind λj=>(es[j]?).map λe=>(i+j,e.val)) w:=by
 intro es
 induction es with
 | nil=>
  simp_all [Instr.findAsking]
 | cons e es ih=>
  intro m i h
  cases m with
  | nil=>have:=h.1;simp at this
  | cons y m=>
   obtain ⟨kc,vc,h1,h2,h3⟩:=h.2 0 y rfl;simp only[dH,eW,aQ,bL] at h1;have heq:(Op.equal ki (cu k xc) (cu k kc)).run P w=.ok (k.eq x y.1) w:=(aaD (P:=P) (w:=w) (A:=A) k).1 ki Op.maxDepth x y.1 xc kc K.lay K.s9 (by have:=K.dep;grind [Op.maxDepth]) hx h2
   have rG:E1 P w A k v (es.map λe=>(e.key,e.val)) m:=⟨by have:=h.1;simpa using this,λj z hz=>by
    have:=h.2 (j+1) z (by simpa using hz)
    simpa using this⟩
   simp only[Instr.findAsking,Sem.run_bind,h1.1,heq,Result.andThen_ok,List.findIdx?_cons]
   cases hq:k.eq x y.1 with
   | true=>simp
   | false=>
    simp only[aF,aS,ih m (i+1) rG,Option.bind_map];congr 2;grind
theorem WW {k:Ty} {ki:TypeId} (K:N1 P k ki):∃ d,P.underlying ki=some d/\∀ x y,Instr.sameNow d x y=none:=by
 have hl:=K.lay;have ha:=K.agg;have he:=K.o9
 cases k with
 | pair a b=>
  simp only[bn,aD] at hl;have h3:=hl.2;split at h3
  ·rename_i fs hu;exact ⟨_,hu,λ_ _=>rfl⟩
  ·cases h3
 | unit=>
  simp only[bn,aD] at hl;have h3:=hl.2;split at h3
  ·rename_i fs hu;exact ⟨_,hu,λ_ _=>rfl⟩
  ·cases h3
 | arr n e=>
  simp only[bn,aD] at hl;have h3:=hl.2;split at h3
  ·rename_i n' el hu;exact ⟨_,hu,λ_ _=>rfl⟩
  ·cases h3
 | _=>simp[isAgg] at ha
theorem S9 {k v:Ty} {ki:TypeId} (K:N1 P k ki) {x:k.den} {xc:List Value} (hx:Ro P w A k x xc) {es:List MapEntry} {m:List (k.den×v.den)} (h:E1 P w A k v (es.map λe=>(e.key,e.val)) m) :
  (Instr.findKey ki (cu k xc) es).run P w=.ok ((m.findIdx? λy=>k.eq x y.1).bind λj=>(es[j]?).map λe=>(j,e.val)) w:=by
 obtain ⟨d,hu,hd⟩:=WW K;have ha:=WV (v:=v) K hx es m 0 h;simp only[bE] at ha;unfold Instr.findKey;simp only[Sem.run_bind,run_underlying hu,Result.andThen_ok];cases es <;> simp_all [Instr.findNow]
theorem G9 {k v:Ty} {m:Md} {y:List (k.den×v.den)} {cs:List Value} {F:FP} (h:ax P w A (.map k v) m [] y cs F) :
  k.flat=true/\v.flat=true/\∃ (r:Nat) (es:Array MapEntry) (clock:Nat),cs=[.map (some r)]/\w.heap[r]?=some (.map es clock)/\E1 P w A k v (es.toList.map λe=>(e.key,e.val)) y/\(m.own=true->1<=F r 0):=by
 simp only[ax,hole,bT,aF,aS] at h;split at h
 ·rename_i hm;obtain ⟨h1,h2,r,vH,h3,h4,h5,h6,h7⟩:=h;obtain ⟨es,clock,q1,q2⟩:=Wm h4;refine ⟨h1,h2,r,es,clock,h3,q1,?_,λ_=>h5⟩
  have q2:(es.toList.map λe=>(e.key,e.val))=vH:=q2;rw[q2];exact ⟨h6,h7⟩
 ·rename_i hm;obtain ⟨_,_,h1,h2,r,vH,h3,h4,h5,h6,h7⟩:=h;obtain ⟨es,clock,q1,q2⟩:=Wm h4;refine ⟨h1,h2,r,es,clock,h3,q1,?_,λe=>absurd e hm⟩
  have q2:(es.toList.map λe=>(e.key,e.val))=vH:=q2;rw[q2];exact ⟨h6,h7⟩
theorem WX {α:Type} {k:Ty} (m:List (k.den×α)) (x:k.den):jZ k m x=(m.findIdx? λe=>k.eq x e.1).bind λj=>(m[j]?).map (·.2):=by
 unfold jZ
 induction m with
 | nil=>rfl
 | cons y m ih=>
  simp only[iG,List.findIdx?_cons]
  cases hq:k.eq x y.1 with
  | true=>simp
  | false=>
   simp only[aF,aS];rw[ih];cases m.findIdx? (λe=>k.eq x e.1) <;> simp
theorem Y1 {v:Ty} {i:TypeId} (hz:zvB P v i=true) (hv:bn P v (.inl i)=true) {z:Value} {L:List Value} (h1:(zeroValue i).run P w=.ok z w) (h2:z.cells.toList=L) (hl:L.length=v.sz):z=cu v L:=by
 obtain ⟨inf,i1,i2,i3,i4⟩:=lG (lX hv);unfold zvB at hz;rw[i1] at hz;simp only at hz
 cases hzz:inf.zero with
 | none=>grind
 | some z0=>
  have:z=z0:=by
   simp_all [zeroValue,typeInfo]
  subst this;rw[hzz] at hz;unfold cu
  cases ha:isAgg v with
  | true=>
   rw[ha] at hz;cases z <;> simp at hz;simp only[Value.cells] at h2;subst h2;simp
  | false=>
   grind [Value.cells]
theorem Y2:∀ (t:Ty),t.o9=true->∀ {v1 v2:t.den} {rF d9:List Value},Ro P w A t v1 rF->Ro P w A t v2 d9->t.eq v1 v2=true->d9=rF:=by
 intro t
 induction t with
 | int k=>
  intro _ v1 v2 rF d9 h1 h2 he;simp only[Ro] at h1 h2;subst h1;subst h2;have:v1=v2:=by cases k <;> simpa [Ty.eq] using he
  rw[this]
 | bool=>
  grind [Ro,Ty.eq]
 | str=>
  grind [Ro,Ty.eq]
 | unit=>
  grind [Ro]
 | pair a b nE nw=>
  intro hq v1 v2 rF d9 h1 h2 he;simp only[Ty.o9,aD] at hq;simp only[Ty.eq,aD] at he;have e1:=nE hq.1 h1.1 h2.1 he.1;have e2:=nw hq.2 h1.2 h2.2 he.2;grind [List.take_append_drop]
 | arr n e ih=>
  intro hq v1 v2 rF d9 h1 h2 he;obtain ⟨_,l1,c1,r1⟩:=h1;obtain ⟨_,l2,c2,r2⟩:=h2;refine List.ext_getElem Bys λj hj2 hj1=>?_
  have hs:0 < e.sz:=by
   grind
  have hi:j / e.sz < n:=by
   rw[fA hs];omega
  have a1:=r1 (j / e.sz) _ (aB Bys);have a2:=r2 (j / e.sz) _ (aB Bys)
  have KF:e.eq (v1[j / e.sz]'Bys) (v2[j / e.sz]'Bys)=true:=by
   simp only[Ty.eq,bH] at he;exact he (_,_) (fB.2 ⟨j / e.sz,by grind⟩)
  have h3:=ih hq a1 a2 KF;have hm:=Nat.mod_lt j hs;have hd:=Nat.div_add_mod j e.sz;have h4:=cN (·[j % e.sz]?) h3;grind
 | _=>grind [Ty.o9]
theorem UD {k v:Ty} {t:TypeId} (hl:bn P (.map k v) (.inl t)=true) (hz:v.xn=true) {x:k.den} {xc:List Value} (hx:Ro P w A k x xc) {r:Nat} {es:Array MapEntry} {clock:Nat} (hb:w.heap[r]?=some (.map es clock)) {y:List (k.den×v.den)}
  (he:E1 P w A k v (es.toList.map λe=>(e.key,e.val)) y) (ok:Bool) :
  ∃ vc,Ro P w A v (Di (jZ k y x) v.zero) vc/\(Instr.lookup t (.map (some r)) (cu k xc) ok).run P w=.ok (if ok then .tuple #[cu v vc,.bool (jZ k y x).isSome] else cu v vc) w:=by
 obtain ⟨ki,vi,hu,K,hv,aeK⟩:=L_ hl;have hc:=(O8 (P:=P) (w:=w) (A:=A) k).1 ki 10000 es.isEmpty x xc K.lay K.s9 (by have:=K.dep;omega) hx;have hf:=S9 (v:=v) K hx he;obtain ⟨L,hL⟩:=wz v hz;obtain ⟨z,AK,CB⟩:=Bf (P:=P) (w:=w) hv hL;obtain ⟨r1,r2,r3⟩:=Dm (P:=P) (w:=w) (A:=A) v hL hv;rw[WX]
 cases O9:y.findIdx? (λe=>k.eq x e.1) with
 | none=>
  rw[O9] at hf;simp only[Option.bind_none] at hf ⊢;refine ⟨L,r2,?_⟩
  have SX:z=cu v L:=Y1 aeK hv AK CB r3;cases ok <;> simp[Instr.lookup,run_underlying hu,MapKept.run_getObj_map hb,hc,hf,AK,SX]
 | some j=>
  rw[O9] at hf;have hj:j < y.length:=(eH.1 O9).1;obtain ⟨kc,vc,g1,g2,g3⟩:=he.2 j y[j] (aB hj);rw[eR] at g1
  cases hej:es.toList[j]? with
  | none=>grind
  | some e=>
   rw[hej] at g1;simp only[bQ,aQ,bL] at g1;simp only[hej,aA,bQ,aB hj] at hf ⊢;refine ⟨vc,g3,?_⟩
   cases ok <;> simp[Instr.lookup,run_underlying hu,MapKept.run_getObj_map hb,hc,hf,g1.2]
end
section
variable {P:Program} {C:Ctx} {A:Cells} {X:FP} {σ:St} {a:Act} {w:World} {F:Nat->FP} {R:Type} {x:R} {Q:Exit->Act->World->Prop} {o:Oper} {E:Env}
theorem Rz (h:ey P C A σ a w F) (kV:∀ i T,E.TI i=some T->bn P T (.inl i)=true) {t:Nat} (ho:o.op=.makeMap t none) {K:St->Option R}
  (hk:(rf E t λt=>match t with
  | .map k v=>if k.flat&&v.flat then K (σ.cg o.dst (.own (.map k v) (aj (.map k v)) [] [])) else none
  | _=>none)=some x):o.wp P a w (λa' w'=>Nx P C K x a' w'/\Ext w w' (λ_ _=>0)) Q:=by
 obtain ⟨T,hT,hk⟩:=iq hk;split at hk
 ·rename_i k v;split at hk
  ·rename_i hc;simp only[aD] at hc
   have jL:(execOp a.eval o).run P w=.ok (.value (.map (some w.heap.size))) (w.alloc (.map #[] 0)):=by
    simp[execOp,ho,run_makeMap_plain]
   have eo:=oH w (.map #[] 0)
   have h1:Rel P C A (λb i=>0+de w.heap.size 0 1 b i) σ a (w.alloc (.map #[] 0)) F:=by
    refine h.grow eo (λ_ _ h=>h) (λ_ _ h=>.inl h) (λb i=>?_);by_cases hb:b=w.heap.size
    ·subst hb;right;exact ⟨aH _,by simp,by grind [de]⟩
    grind [de]
   have xY:(w.alloc (.map #[] 0)).heap[w.heap.size]?=some (.map #[] 0):=heap_alloc_new w _;refine pq jL ⟨qH h1 hk (Fd:=de w.heap.size 0 1) ⟨_,(ee (.map k v) _ rfl).symm,?_⟩ (λb i=>by simp) (λ_ _ _ _ e=>by cases e),eo⟩;simp only[ax,hole,bT,aF,aS,aj,u0,Md.own,aJ];refine ⟨hc.1,hc.2,w.heap.size,[],rfl,?_,by simp[de],rfl,λi y hy=>by cases hy⟩
   exact Wn xY
  ·cases hk
 ·cases hk
theorem RA (h:ey P C A σ a w F) (kV:∀ i T,E.TI i=some T->bn P T (.inl i)=true) {t:Nat} {y z:Operand} {ok:Bool} (ho:o.op=.lookup t y z ok) (bf:ei P y=true/\ei P z=true) {K:St->Option R}
  (hk:LP E σ t (ep σ y) (ep σ z) ok o.dst K=some x):o.wp P a w (λa' w'=>Nx P C K x a' w'/\Ext w w' (λ_ _=>0)) Q:=by
 unfold LP at hk;obtain ⟨T,hT,hk⟩:=iq hk;have jz:=kV _ _ hT;split at hk
 ·rename_i k v;split at hk
  ·rename_i hz
   rcases gn h bf.1 with hs | ⟨xs,e⟩
   rotate_left
   ·grind
   rcases gn h bf.2 with Dp | ⟨xs,e2⟩
   rotate_left
   ·exfalso;rw[e2] at hk;split at hk
    ·split at hk
     ·obtain ⟨_,_,_,_,_,_,_,_,h1,_⟩:=l7 h hk;grind [dn]
     ·cases hk
    ·cases hk
   split at hk
   ·rename_i r p snap hv;rw[hv] at hs;split at hk
    ·rename_i pM;obtain ⟨hr,t',m',H',v',cc,dt,F',h1,nN,h3,h4,h5,h6⟩:=l7 h hk;split at h1
     ·rename_i hH;have hH:=bD.1 hH;subst hH;obtain ⟨e1,h1⟩:=dn h1;subst e1;obtain ⟨pl,g1,g2,g3⟩:=hs.2 pM;rw[h3] at g1;injection g1 with g1;subst g1;obtain ⟨f1,f2,b,es,clock,q1,q2,q3,q4⟩:=G9 h4;simp only at g2;subst q1;rw[ee (.map k v) _ rfl] at g2;split at h1
      ·rename_i t2 ix hix;rw[hix] at Dp;obtain ⟨e2,h1⟩:=dn h1;subst e2;obtain ⟨kc,Ku,nM⟩:=Dp;obtain ⟨vc,r1,r2⟩:=UD (P:=P) jz hz nM q2 q3 ok
       have jL:(execOp a.eval o).run P w=.ok (.value (if ok then .tuple #[cu v vc,.bool (jZ t2 v' ix).isSome] else cu v vc)) w:=by
        simp_all [execOp]
       cases ok with
       | true=>
        simp only at h1;refine pq jL ⟨ct h h1 ⟨#[cu v vc,.bool (jZ t2 v' ix).isSome],λ_ _ _=>0,rfl,λb i=>by grind [ns],λj y hy=>?_⟩ (λ_ _ _ _ e=>by cases e),Ext.refl _ _⟩
        match j with
        | 0=>simp at hy;subst hy;exact ⟨_,rfl,.inr ⟨vc,rfl,Ro.rep v _ (iF v) r1⟩⟩
        | 1=>simp at hy;subst hy;exact ⟨_,rfl,.inr ⟨[.bool _],rfl,rfl⟩⟩
        | n+2=>simp at hy
       | false=>
        simp only at h1;exact pq jL ⟨ct h h1 ⟨vc,rfl,r1⟩ (λ_ _ _ _ e=>by cases e),Ext.refl _ _⟩
      ·cases h1
     ·cases h1
    ·cases hk
   ·cases hk
  ·cases hk
 ·cases hk
theorem UE {r:Nat} {es KG:Array MapEntry} {clock Eo:Nat} (hb:w.heap[r]?=some (.map es clock)):Ext w { w with heap:=w.heap.setIfInBounds r (.map KG Eo) } (de r 0 1):=by
 have aft:∀ b,b≠r->(w.heap.setIfInBounds r (.map KG Eo))[b]?=w.heap[b]?:=λb jx=>by grind
 refine ⟨by simp,λb i hbs hz u hu=>?_,λb n hn=>?_,λb i hbs=>?_,rfl,rfl,rfl,λb hbs hz=>?_,aH _⟩
 ·grind [de,ce,Cj]
 ·obtain ⟨c,e,fr,h1,h2,h3⟩:=hn;have hbr:b≠r:=λe=>by grind
  exact ⟨c,e,fr,by grind,h2,h3⟩
 ·grind [World.frozen?]
 ·have hbr:b≠r:=λe=>by simp_all [de]
  grind
theorem UF {k v:Ty} {t:TypeId} (hl:bn P (.map k v) (.inl t)=true) {x:k.den} {xc:List Value} (hx:Ro P w A k x xc) {z:v.den} {zc':List Value} (hzr:Ro P w A v z zc') {r:Nat} {es:Array MapEntry} {clock:Nat} (hb:w.heap[r]?=some (.map es clock)) {y:List (k.den×v.den)}
  (he:E1 P w A k v (es.toList.map λe=>(e.key,e.val)) y) :
  ∃ (KG:Array MapEntry) (Eo:Nat),(Instr.mapUpdate t (.map (some r)) (cu k xc) (cu v zc')).run P w=.ok () { w with heap:=w.heap.setIfInBounds r (.map KG Eo) }/\E1 P w A k v (KG.toList.map λe=>(e.key,e.val)) (pL k y x z):=by
 obtain ⟨ki,vi,hu,K,hv,_⟩:=L_ hl;have hc:=(O8 (P:=P) (w:=w) (A:=A) k).1 ki 10000 false x xc K.lay K.s9 (by have:=K.dep;omega) hx;have hf:=S9 (v:=v) K hx he;unfold pL
 cases O9:y.findIdx? (λe=>k.eq x e.1) with
 | none=>
  rw[O9] at hf;simp only[Option.bind_none] at hf ⊢;refine ⟨es.push { key:=cu k xc,val:=cu v zc',born:=clock },clock+1,?_,?_,λi q hq=>?_⟩
  ·simp[Instr.mapUpdate,run_underlying hu,MapKept.run_getObj_map hb,hc,hf,MapKept.run_setObj_map _ hb,Result.andThen]
  ·have:=he.1;grind
  ·have hlen:(es.toList.map λe=>(e.key,e.val)).length=y.length:=he.1;rw[Array.toList_push,fN];by_cases hi:i < y.length
   ·rw[bO hi] at hq;rw[bO (by grind)];exact he.2 i q hq
   grind
 | some j=>
  rw[O9] at hf;have hfj:=eH.1 O9;have hj:j < y.length:=hfj.1;obtain ⟨kc,vc,g1,g2,g3⟩:=he.2 j y[j] (aB hj);rw[eR] at g1;have hlen:es.size=y.length:=by have:=he.1;simpa using this
  have xC:es.toList[j]?=some es[j]:=by simp[hlen,hj]
  rw[xC] at g1;simp only[bQ,aQ,bL] at g1;simp only[aA] at hf ⊢;rw[xC] at hf;simp only[bQ] at hf
  have aeL:k.eq x (y[j]).1=true:=by
   grind
  have afy:cu k kc=cu k xc:=by
   have:=Y2 k K.o9 hx g2 aeL;rw[this]
  have If:(Instr.keyThatStays (cu k xc) (cu k xc)).run P w=.ok (cu k xc) w:=by
   simp[Instr.keyThatStays,WU K.agg K.o9 hx]
  have yR:(es[j]?).map (·.key)=some (cu k xc):=by
   grind
  refine ⟨es.modify j λe=>{ e with key:=cu k xc,val:=cu v zc' },clock,?_,?_,λi q hq=>?_⟩
  ·simp[Instr.mapUpdate,run_underlying hu,MapKept.run_getObj_map hb,hc,hf,yR,If,MapKept.run_setObj_map _ hb,Result.andThen]
  ·simp[hlen]
  ·rw[eS] at hq;rw[eR,dN,gB];by_cases ul:j=i
   ·grind
   ·rw[aV ul] at hq ⊢;have:=he.2 i q hq;grind
theorem Ma (h:ey P C A σ a w F) (kV:∀ i T,E.TI i=some T->bn P T (.inl i)=true) {t:Nat} {y z u:Operand} (ho:o.op=.mapUpdate t y z u) (hd:o.dst=none) (bf:ei P y=true/\ei P z=true/\ei P u=true) {K:St->Option R}
  (hk:LQ E σ t (ep σ y) (ep σ z) (ep σ u) K=some x):o.wp P a w (Nx P C K x) Q:=by
 unfold LQ at hk;obtain ⟨T,hT,hk⟩:=iq hk;have jz:=kV _ _ hT;split at hk
 ·rename_i k v
  rcases gn h bf.1 with hs | ⟨xs,e⟩
  rotate_left
  ·grind
  split at hk
  ·rename_i r p snap hv;rw[hv] at hs;split at hk
   ·rename_i pM;obtain ⟨hr,t',m',H',v',cc,dt,F',h1,nN,h3,h4,h5,h6⟩:=l7 h hk;split at h1
    ·rename_i hH;simp only[aD,bD] at hH;obtain ⟨iU,hH⟩:=hH;subst hH;obtain ⟨e1,h1⟩:=dn h1;subst e1;obtain ⟨pl,g1,g2,g3⟩:=hs.2 pM;rw[h3] at g1;injection g1 with g1;subst g1;split at h1
     ·rename_i t2 ix t3 uv hix huv
      have Dp:dq P A σ a w (a.eval z) (.val t2 ix) (λ_ _=>0):=by
       grind [gn]
      have hs3:dq P A σ a w (a.eval u) (.val t3 uv) (λ_ _=>0):=by
       grind [gn]
      obtain ⟨e2,h1⟩:=dn h1;subst e2;obtain ⟨e3,h1⟩:=dn h1;subst e3;obtain ⟨kc,Ku,nM⟩:=Dp;obtain ⟨uc,hu1,ny⟩:=hs3;obtain ⟨hr,m2,H2,v2,d9,Cx,F2,q1,q2,q3,q4,q5,q6⟩:=Eh h h1;obtain ⟨_,e2,e3,e4⟩:=At.inj ⟨nN⟩ q1;subst e2;subst e3;have e4:=gD e4;subst e4;rw[h3] at q2;injection q2 with q2;injection q2 with q21 q22 q23 q24;subst q23;subst q24;have iT:=q3;obtain ⟨f1,f2,b,es,clock,b1,b2,b3,b4⟩:=G9 q3;have b4:=b4 iU;simp only at g2;subst b1;rw[ee (.map t2 t3) _ rfl] at g2;obtain ⟨KG,Eo,r1,r2⟩:=UF (P:=P) jz nM ny b2 b3;generalize Dq:({ w with heap:=w.heap.setIfInBounds b (.map KG Eo) }:World)=w2 at r1;have eo:Ext w w2 (de b 0 1):=by grind [UE]
      have IC:∀ b i,F r b i<=1:=λb i=>by have:=h.qe b i;grind [dz]
      have jL:(execOp a.eval o).run P w=.ok .skip w2:=by
       simp[execOp,ho,g2,Ku,hu1,r1]
      refine ON jL hd ?_
      have hA:∀ b' i,A b' i->∀ u,ce w b' i=some u->ce w2 b' i=some u:=λb' i ha u hu=>by
       refine eo.cell b' i (h.k9 b' i (.inr ha)) ?_ u hu;rcases bJ (de b 0 1 b' i) with h0 | h0
       ·exact h0
       ·have:b'=b/\i=0:=by
         grind [de]
        obtain ⟨rfl,rfl⟩:=this;exact absurd ha (h.rh b' 0 (by grind [dz]))
      have xY:ce w2 b 0=some (EO (entriesOf KG)):=by
       grind [Wn]
      have Ib:ax P w2 A (.map t2 t3) m' [] (pL t2 v' ix uv) [.map (some b)] F2:=by
       simp only[ax,hole,bT,aF,aS,iU,aJ];refine ⟨f1,f2,b,entriesOf KG,rfl,xY,b4,r2.1,λi q hq=>?_⟩
       obtain ⟨kc',vc',j1,j2,j3⟩:=r2.2 i q hq;exact ⟨kc',vc',j1,Ro.mono hA (λ_ _ h=>h) t2 j2,Ro.mono hA (λ_ _ h=>h) t3 j3⟩
      have S_:∀ b' i,de b 0 1 b' i<=F2 b' i:=λb' i=>by
       grind [de]
      have wa:∀ b' o',dt=some (b',o')->Has w2 b' o' [.map (some b)]:=λb' o' ea j u hu=>by
       have hh1:=(q5 b' o' ea).1 j u hu;have hj:=(aM.1 hu).1;have hj0:j=0:=by simpa using hj
       subst hj0;have h2:=q4 b' (o'+0);have h4:=S_ b' (o'+0);have h5:=IC b' (o'+0);have h7:=dz F hr b' (o'+0)
       have h6:lF dt (Ty.map t2 t3).sz b' (o'+0)=1:=by
        grind [lF,de,Ty.sz]
       exact eo.cell _ _ (h.k9 b' (o'+0) (.inl (by grind))) Bys u hh1
      obtain ⟨A3,Dn,Fr,n1,n2,n3,n4,n5⟩:=q6 w2 A [.map (some b)] F2 (λ_ _=>0) (eo.mono λb' i hz=>by
        grind) (λ_ _ h=>h) (λ_ _ h=>.inl h) (λb i=>by omega) wa (λ_=>rfl) Ib
      refine ⟨_,n1,A3,_,n5 yG (An (h.mD r)) (GV (h.mD r)) rfl λp' snap hb bf hlen=>?_⟩
      have h5:=Jr (h.mD r) hb bf;refine ⟨eu p'+1,False,by omega,λ_=>.inl Bys,λ_=>by omega,?_⟩
      intro q pl hq hp;grind [bt]
     ·cases h1
    ·cases h1
   ·cases hk
  ·cases hk
 ·cases hk
theorem RB (h:ey P C A σ a w F) (kV:∀ i T,E.TI i=some T->bn P T (.inl i)=true) {t:Nat} {y:Operand} (ho:o.op=.call { callee:=.builtin .len,args:=#[y],argTypes:=#[t] }) (bf:ei P y=true) {K:St->Option R}
  (hk:LR E σ t (ep σ y) (λn=>K (σ.cg o.dst (.val (.int .i64) (n:Int))))=some x):o.wp P a w (Nx P C K x) Q:=by
 unfold LR at hk;obtain ⟨T,hT,hk⟩:=iq hk;have jz:=kV _ _ hT;split at hk
 ·rename_i k v
  rcases gn h bf with hs | ⟨xs,e⟩
  rotate_left
  ·grind
  split at hk
  ·rename_i r p snap hv;rw[hv] at hs;split at hk
   ·rename_i pM;obtain ⟨hr,t',m',H',v',cc,dt,F',h1,nN,h3,h4,h5,h6⟩:=l7 h hk;split at h1
    ·rename_i hH;have hH:=bD.1 hH;subst hH;obtain ⟨e1,h1⟩:=dn h1;subst e1;obtain ⟨pl,g1,g2,g3⟩:=hs.2 pM;rw[h3] at g1;injection g1 with g1;subst g1;obtain ⟨f1,f2,b,es,clock,q1,q2,q3,q4⟩:=G9 h4;simp only at g2;subst q1;rw[ee (.map k v) _ rfl] at g2;obtain ⟨ki,vi,hu,_,_,_⟩:=L_ jz;have hlen:es.size=List.length v':=by have:=q3.1;simpa using this
     have jL:(execOp a.eval o).run P w=.ok (.value (.int .i64 ((List.length v':Nat):Int))) w:=by
      rw[CA ho];simp[Builtin.len_,g2,run_underlying hu,MapKept.run_getObj_map q2,goInt,hlen]
     exact pq jL (ct h h1 ⟨[.int .i64 _],rfl,rfl⟩ (λ_ _ _ _ e=>by cases e))
    ·cases h1
   ·cases hk
  ·cases hk
 ·cases hk
end
end OT
namespace OT
open Go
structure uq (P:Program) (E:Env):Prop where
 ti:∀ i T,E.TI i=some T->bn P T (.inl i)=true
 eq:aaE P E
 fn:∀ f g,E.G f=some g->Sound P f g/\vW P f g.cap
def UG (P:Program) (t:TypeId):Bool:=match P.underlying t with
 | some (.slice _)=>true
 | some .string=>true
 | _=>false
theorem KH {P:Program} {t:TypeId} (h:UG P t=true):(∃ e',P.underlying t=some (.slice e'))\/P.underlying t=some .string:=by
 grind [UG]
def O_ (P:Program) (c:Call):Bool:=match c.callee with
 | .builtin .append | .builtin .copy=>match c.argTypes.toList with
  | [_,tx]=>UG P tx
  | _=>false
 | _=>true
def sL (P:Program):Op->Bool
 | .move x | .assign x | .nilCheck x | .box _ x | .load _ x | .unOp _ _ x | .convert _ _ x | .fieldAddr _ x _ | .field _ x _=>ei P x
 | .pick c a b=>ei P c&&ei P a&&ei P b
 | .mapUpdate _ m k v=>ei P m&&ei P k&&ei P v
 | .lookup _ a x _ | .store _ a x | .binOp _ _ a x _ | .indexAddr _ a x | .index _ a x | .makeSlice _ a x=>ei P a&&ei P x
 | .build _ ps | .buildSlice _ _ ps=>ps.toList.all λp=>ei P p.2
 | .slice _ x lo hi _=>ei P x&&lo.all (ei P)&&hi.all (ei P)
 | .makeFunc (.func f) _ cs=>(P.funcs[f]?).any λfn=>fn.nfree == cs.size
 | .call c=>c.args.toList.all (ei P)&&O_ P c
 | _=>true
section
variable {P:Program} {C:Ctx} {A:Cells} {X:FP} {σ:St} {a:Act} {w:World} {F:Nat->FP} {R:Type} {x:R} {Q:Exit->Act->World->Prop} {o:Oper} {E:Env}
theorem AP {α:Type} {l:Array α} {m:List α} (h:l.toList=m):l=m.toArray:=by grind
def xq (E:Env):Op->Bool
 | .move _ | .assign _ | .pick .. | .build .. | .load .. | .nilCheck _ | .binOp .. | .unOp .. | .fieldAddr .. | .field .. | .indexAddr .. | .index .. | .slice .. | .extract .. | .makeFunc ..=>true
 | .convert _ t _=>match E.TI t with
  | some T=>T.flat
  | none=>false
 | .call c=>match c.callee with
  | .builtin .len=>match c.argTypes.toList with
   | [t]=>!Wj (E.TI t)
   | _=>false
  | _=>false
 | _=>false
theorem N2 (hE:uq P E) (h:ey P C A σ a w F) {iV i:Nat} (dp:sL P o.op=true) (qS:xq E o.op=true) {K:St->Option R} (hk:sV E iV i o σ K=some x):Tk P o a w (Nx P C K x):=by
 unfold sV at hk
 cases ho:o.op with
 | move y=>rw[ho] at hk dp;exact Wz h ho dp hk
 | assign y=>rw[ho] at hk dp;exact Ru h ho dp hk
 | pick c y z=>
  grind [sL,WA]
 | build t ps=>rw[ho] at hk dp;exact Ux h hE.ti ho dp hk
 | load t y=>rw[ho] at hk dp;exact Um h hE.ti ho dp hk
 | nilCheck y=>rw[ho] at hk dp;exact NL h ho dp hk
 | binOp op t y z t2=>
  rw[ho] at hk dp;simp only[sL,aD] at dp;exact Uu h hE.ti hE.eq ho dp hk
 | unOp op t y=>
  rw[ho] at hk dp;refine WG h ho dp (K:=K) ?_;grind
 | convert s t y=>
  rw[ho] at hk dp qS;refine OU h hE.ti ho dp (λT hT=>?_) hk;grind [xq]
 | fieldAddr t y j=>rw[ho] at hk dp;exact LZ h hE.ti ho dp hk
 | field t y j=>rw[ho] at hk dp;exact Ur h hE.ti ho dp hk
 | indexAddr t y z=>
  rw[ho] at hk dp;simp only[sL,aD] at dp;exact L4 h hE.ti ho dp hk
 | index t y z=>
  rw[ho] at hk dp;simp only[sL,aD] at dp;exact Us h hE.ti ho dp hk
 | slice t y lo hi mx=>
  rw[ho] at hk dp
  cases mx with
  | none=>
   simp only[sL,aD] at dp;refine Ut h hE.ti ho ⟨dp.1.1,λz hz=>?_,λz hz=>?_⟩ hk
   all_goals grind
  | some m=>cases hk
 | extract y j=>
  grind [OV]
 | makeFunc fn first cs=>
  rw[ho] at hk dp
  cases fn with
  | func f=>exact NP h ho dp hk
  | _=>cases hk
 | call c=>
  rw[ho] at hk dp qS;simp only[sL,aD] at dp;obtain ⟨lO,hc⟩:=dp;obtain ⟨callee,args,ts⟩:=c
  cases callee with
  | builtin b=>
   cases b with
   | len=>
    simp only at hk;split at hk
    ·rename_i y t h1 h2;have e1:=AP h1;have e2:=AP h2
     subst e1;subst e2;simp only[eC,aD] at lO;simp only[xq,cH] at qS;rw[qS] at hk;exact YU h hE.ti ho lO.1 hk
    ·cases hk
   | _=>grind [xq]
  | _=>grind [xq]
 | _=>grind [xq]
def quiet (E:Env):Op->Bool
 | .alloc _ | .box .. | .buildSlice .. | .makeSlice .. | .convert .. | .makeMap .. | .lookup ..=>true
 | .call c=>match c.callee with
  | .value (.func f)=>match E.G f with
   | some g=>y0 g.ps
   | none=>false
  | _=>false
 | _=>false
theorem WY (hE:uq P E) (h:ey P C A σ a w F) {iV i:Nat} (dp:sL P o.op=true) (qS:xq E o.op=false) {K:St->Option R} (hk:sV E iV i o σ K=some x) :
  o.wp P a w (λa' w'=>Nx P C K x a' w'/\(quiet E o.op=true->Ext w w' (λ_ _=>0))) Q:=by
 have wq:∀ {N:Act->World->Prop},o.wp P a w (λa' w'=>N a' w'/\Ext w w' (λ_ _=>0)) Q->o.wp P a w (λa' w'=>N a' w'/\(quiet E o.op=true->Ext w w' (λ_ _=>0))) Q:=λh=>Oper.wp_mono (λa' w' h=>⟨h.1,λ_=>h.2⟩) h;have wn:∀ {N:Act->World->Prop},quiet E o.op=false->o.wp P a w N Q->o.wp P a w (λa' w'=>N a' w'/\(quiet E o.op=true->Ext w w' (λ_ _=>0))) Q:=λhq h=>Oper.wp_mono (λa' w' h=>⟨h,λe=>by grind⟩) h;unfold sV at hk
 cases ho:o.op with
 | alloc t=>rw[ho] at hk;rw[<-ho];exact wq (WJ h hE.ti ho hk)
 | box t y=>rw[ho] at hk dp;rw[<-ho];exact wq (abd h ho dp hk)
 | buildSlice t n ps=>rw[ho] at hk dp;rw[<-ho];exact wq (L7 h hE.ti ho dp hk)
 | store t y z=>
  rw[ho] at hk dp;simp only[sL,aD] at dp;rw[<-ho];refine wn (by rw[ho];rfl) ?_
  cases hd:o.dst with
  | none=>rw[hd] at hk;exact Uo h hE.ti ho hd dp hk
  | some d=>grind
 | convert s t y=>rw[ho] at hk dp;rw[<-ho];exact wq (Rt h hE.ti ho dp hk)
 | makeMap t rv=>
  rw[ho] at hk;rw[<-ho]
  cases rv with
  | none=>exact wq (Rz h hE.ti ho hk)
  | some _=>cases hk
 | lookup t y z ok=>
  rw[ho] at hk dp;simp only[sL,aD] at dp;rw[<-ho];exact wq (RA h hE.ti ho dp hk)
 | mapUpdate t y z u=>
  rw[ho] at hk dp;simp only[sL,aD] at dp;rw[<-ho];refine wn (by rw[ho];rfl) ?_
  cases hd:o.dst with
  | none=>rw[hd] at hk;exact Ma h hE.ti ho hd ⟨dp.1.1,dp.1.2,dp.2⟩ hk
  | some d=>grind
 | makeSlice t y z=>
  rw[ho] at hk dp;simp only[sL,aD] at dp;rw[<-ho];exact wq (NN h hE.ti ho dp hk)
 | call c=>
  rw[ho] at hk dp qS;simp only[sL,aD] at dp;obtain ⟨lO,hc⟩:=dp;obtain ⟨callee,args,ts⟩:=c;rw[<-ho]
  cases callee with
  | builtin b=>
   cases b with
   | len=>
    simp only at hk;split at hk
    ·rename_i y t h1 h2;have e1:=AP h1;have e2:=AP h2
     subst e1;subst e2;simp only[eC,aD] at lO;simp only[xq,Bool.not_eq_false'] at qS;rw[qS] at hk;exact wn (by rw[ho];rfl) (RB h hE.ti ho lO.1 hk)
    ·cases hk
   | append=>
    simp only at hk;split at hk
    ·rename_i y z t ts' h1 h2;have e1:=AP h1;subst e1;simp only[O_] at hc;split at hc
     ·rename_i t0 tx h3;rw[h3] at h2;injection h2 with h2 h4;subst h2;have e2:=AP h3;subst e2;simp only[eC,aD] at lO;exact wn (by rw[ho];rfl) (step_append h hE.ti ho ⟨lO.1,lO.2.1⟩ (KH hc) hk)
     ·cases hc
    ·cases hk
   | copy=>
    simp only at hk;split at hk
    ·rename_i y z t ts' h1 h2;have e1:=AP h1;subst e1;simp only[O_] at hc;split at hc
     ·rename_i t0 tx h3;rw[h3] at h2;injection h2 with h2 h4;subst h2;have e2:=AP h3;subst e2;simp only[eC,aD] at lO;exact wn (by rw[ho];rfl) (WO h hE.ti ho ⟨lO.1,lO.2.1⟩ (KH hc) hk)
     ·cases hc
    ·cases hk
   | _=>cases hk
  | value y=>
   cases y with
   | func f=>
    simp only at hk;split at hk
    ·rename_i g hg;split at hk
     ·rename_i oU;obtain ⟨h1,h2⟩:=hE.fn f g hg;rw[oU] at h2;refine Oper.wp_mono (λa' w' h=>⟨h.1,λe=>h.2 ?_⟩) (Rw h ho lO h1 h2 hk);grind [quiet]
     ·cases hk
    ·cases hk
   | tmp i=>
    refine wn (by rw[ho];rfl) ?_;simp only at hk;split at hk
    ·rename_i f n mF;split at hk
     ·rename_i g hg;obtain ⟨h1,h2⟩:=hE.fn f g hg;refine Oper.wp_mono (λa' w' h=>h.1) (Rx h ho lO mF h1 h2 (K:=K) (x:=x) ?_);grind
     ·cases hk
    ·cases hk
   | _=>cases hk
  | _=>cases hk
 | _=>grind [xq]
theorem abl (hE:uq P E) (h:ey P C A σ a w F) {iV i:Nat} (dp:sL P o.op=true) {K:St->Option R} (hk:sV E iV i o σ K=some x):o.wp P a w (Nx P C K x) Q:=by
 cases qS:xq E o.op with
 | true=>exact (N2 hE h dp qS hk).wp
 | false=>grind [Oper.wp_mono,WY]
end
end OT
namespace OT
open Go
noncomputable def AQ (E:Env):Op->Option Slot
 | .alloc t=>match E.TI t with
  | some T=>if T.xn then some (.box T (aj T) [] T.zero) else none
  | none=>none
 | .buildSlice t n ps=>match E.TI t with
  | some (.aa e)=>if Nat.beq n 0&&Nat.beq ps.size 0&&e.xn then some (.own (.aa e) (.aa true (aj e)) [] []) else none
  | _=>none
 | _=>none
section
variable {P:Program} {C:Ctx} {A:Cells} {X:FP} {σ:St} {a:Act} {w:World} {F:Nat->FP} {R:Type} {x:R} {Q:Exit->Act->World->Prop} {o:Oper} {E:Env}
theorem Y3 {s:Slot} (hs:AQ E o.op=some s) {iV i:Nat} {K:St->Option R}:sV E iV i o σ K=K (σ.cg o.dst s):=by
 unfold AQ at hs;split at hs
 ·grind [sV,rf]
 ·rename_i t n ps ho;unfold sV;simp only[ho];split at hs
  all_goals simp_all [rf,Jm]
 ·cases hs
theorem WZ {N:Act->World->Prop} (hh:o.wp P a w N Q):o.wp P a w (λa' w'=>(∀ d,o.dst≠some d->tmp a' d=tmp a d)/\N a' w') Q:=by
 have key:∀ (a0:Act) v,a0.tmps=a.tmps->∀ d,o.dst≠some d->tmp (a0.put o.dst v) d=tmp a d:=λa0 v h0 d hd=>by
  unfold tmp Act.put;cases ho:o.dst <;> simp_all
 unfold Oper.wp at *;generalize (execOp a.eval o).run P w=r at *;simp_all [Oper.upon]
theorem M3 {d:Nat} (h:LT σ d=true):d < σ.n/\σ.get d=.dead/\(∀ k,(d,k,false) ∉ σ.aT)/\∀ r p snap,(d,r,p,snap) ∉ σ.gh:=by
 unfold LT at h;simp only[aD,cH,Nat.blt_eq] at h;obtain ⟨⟨⟨h1,h2⟩,h3⟩,h4⟩:=h;refine ⟨h1,?_,λk hm=>?_,λr p snap hm=>?_⟩
 ·grind
 ·revert h3 hm
  generalize σ.aT=l
  induction l with
  | nil=>grind
  | cons e l ih=>
   obtain ⟨k1,n1,b1⟩:=e;simp_all [EI]
 ·rw[List.any_eq_false] at h4;exact h4 _ hm (by simp)
theorem Rel.tmp (h:Rel P C A X σ a w F) {d:Nat} (hp:LT σ d=true) (v:Value):Rel P C A X σ (a.put (some d) v) w F:=by
 obtain ⟨hd,hg,hl,hgh⟩:=M3 hp;have nt:=h.size
 have ht:∀ i,i≠d->OT.tmp (a.put (some d) v) i=OT.tmp a i:=λi hi=>by
  grind [pp]
 have ji:∀ r p,place σ (a.put (some d) v) w r p=place σ a w r p:=λr p=>by
  unfold place;by_cases hr:r=d
  ·subst hr;rw[hg];rfl
  ·rw[ht r hr]
 have oG:zQ σ a w σ (a.put (some d) v) w:=λr p snap hb=>⟨hb,λbf=>⟨bf,λ_ pl hp=>⟨pl.H,pl.cs,by simp_all,λ_=>rfl⟩⟩⟩
 refine { h with size:=by simp[Act.put,nt],defers:=by simpa [Act.put] using h.defers,jg:=λi hi=>?_,gh:=λd' r p snap hm=>?_,pz:=λj k hm=>?_,whole:=λr t m H v' hr hk=>?_,oo:=λj k hm R hR=>?_ }
 ·by_cases hid:i=d
  ·subst hid;rw[hg];trivial
  ·rw[ht i hid];exact dq.nD oG (λ_ _ h=>h) (λ_ _ _ _ h=>h) (λ_ _ h=>h) (λ_ _ _=>⟨λ_ h=>h,rfl⟩) (h.jg i hi)
 ·rw[ht d' (λe=>by grind)];exact sI.nD oG (h.gh d' r p snap hm)
 ·rw[ht j (λe=>by grind)];exact h.pz j k hm
 ·rw[ht r (λe=>by grind)];exact h.whole r t m H v' hr hk
 ·have:j≠d:=λe=>by subst e;rw[hg] at hR;cases hR
  rw[ht j this] at hR;exact h.oo j k hm R hR
def PS (P:Program) (A:Cells) (w:World) (tv:Value):Slot->FP->Prop
 | .own t m H v,F=>∃ cs,tv=cu t cs/\ax P w A t m H v cs F
 | .box t m H v,F=>∃ b L F1,tv=.pointer (some ⟨b,0,none⟩)/\L.length=t.sz/\Has w b 0 L/\(∀ j,j < t.sz->w.frozen? ⟨b,j,none⟩=false) /\
   (∀ x i,de b 0 t.sz x i+F1 x i<=F x i)/\ax P w A t m H v L F1/\iR w b (t.sz,false)
 | _,_=>False
theorem PS.slot {tv:Value} {s:Slot} {G:FP} (h:PS P A w tv s G):dq P A σ a w tv s G:=by
 cases s with
 | own t m H v=>exact h
 | box t m H v=>
  obtain ⟨b,L,F1,h1,h2,h3,h4,h5,h6,h7⟩:=h;exact ⟨b,0,L,F1,h1,h2,h3,λj hj=>by grind,h5,h6⟩
 | _=>exact h.elim
theorem PS.whole {tv:Value} {s:Slot} {G:FP} (h:PS P A w tv s G):∀ t m H v',s=.box t m H v'->∃ b,tv=.pointer (some ⟨b,0,none⟩)/\iR w b (t.sz,false):=by
 rintro t m H v rfl;obtain ⟨b,L,F1,h1,h2,h3,h4,h5,h6,h7⟩:=h;grind
theorem PS.nD {A':Cells} {w':World} {tv:Value} {s:Slot} {G:FP} (hA:∀ b i,A b i->A' b i) (hc:∀ b i,A b i->∀ u,ce w b i=some u->ce w' b i=some u) (hb:∀ b n,iR w b n->iR w' b n)
  (hF:∀ b i,1<=G b i->(∀ u,ce w b i=some u->ce w' b i=some u)/\w'.frozen? ⟨b,i,none⟩=w.frozen? ⟨b,i,none⟩) (h:PS P A w tv s G):PS P A' w' tv s G:=by
 cases s with
 | own t m H v=>obtain ⟨cs,h1,h2⟩:=h;exact ⟨cs,h1,ax.mono hA hc hb t h2 (λ_ _=>aH _) (λb i hp=>(hF b i hp).1)⟩
 | box t m H v=>
  obtain ⟨b,L,F1,h1,h2,h3,h4,h5,h6,h7⟩:=h
  have hr:∀ j,j < t.sz->1<=G b j:=λj hj=>by
   grind [de]
  exact ⟨b,L,F1,h1,h2,λj u hu=>(hF _ _ (by grind)).1 u (h3 j u hu),λj hj=>by grind,h5,
   ax.mono hA hc hb t h6 (λ_ _=>aH _) (λb i hp=>(hF b i (by grind)).1),hb _ _ h7⟩
 | _=>exact h.elim
def PF (P:Program) (E:Env) (ops:Array Oper) (A:Cells) (a:Act) (w:World):List Nat->FP->Prop
 | [],_=>True
 | j::D,X=>∃ (o:Oper) (d:Nat) (s:Slot) (Fj X':FP),ops[j]?=some o/\o.dst=some d/\AQ E o.op=some s/\PS P A w (tmp a d) s Fj/\(∀ b i,X' b i+Fj b i<=X b i)/\PF P E ops A a w D X'
theorem PF.nD {ops:Array Oper} {A':Cells} {a':Act} {w':World} (hA:∀ b i,A b i->A' b i) (hc:∀ b i,A b i->∀ u,ce w b i=some u->ce w' b i=some u) (hb:∀ b n,iR w b n->iR w' b n) :
  ∀ (D:List Nat) {X:FP},(∀ j ∈ D,∀ o d,ops[j]?=some o->o.dst=some d->tmp a' d=tmp a d)->(∀ b i,1<=X b i->(∀ u,ce w b i=some u->ce w' b i=some u)/\w'.frozen? ⟨b,i,none⟩=w.frozen? ⟨b,i,none⟩) ->
   PF P E ops A a w D X->PF P E ops A' a' w' D X
 | [],_,_,_,_=>trivial
 | j::D,X,ht,hF,h=>by
  obtain ⟨o,d,s,Fj,X',h1,h2,h3,h4,h5,h6⟩:=h
  exact ⟨o,d,s,Fj,X',h1,h2,h3,by
   rw[ht j (by simp) o d h1 h2]
   exact PS.nD hA hc hb (λb i hp=>hF b i (by have:=h5 b i;omega)) h4,h5,PF.nD hA hc hb D (λk hk=>ht k (by simp[hk])) (λb i hp=>hF b i (by have:=h5 b i;omega)) h6⟩
theorem PF.grow {ops:Array Oper}:∀ (D:List Nat) {X X1:FP},(∀ b i,X b i<=X1 b i)->PF P E ops A a w D X->PF P E ops A a w D X1
 | [],_,_,_,_=>trivial
 | j::D,X,X1,hx,h=>by
  obtain ⟨o,d,s,Fj,X',h1,h2,h3,h4,h5,h6⟩:=h;exact ⟨o,d,s,Fj,X',h1,h2,h3,h4,λb i=>bG (h5 b i) (hx b i),h6⟩
theorem PF.take {ops:Array Oper} {j:Nat}:∀ (D:List Nat) {X:FP},j ∈ D->PF P E ops A a w D X ->
  ∃ (o:Oper) (d:Nat) (s:Slot) (Fj X':FP),ops[j]?=some o/\o.dst=some d/\AQ E o.op=some s/\PS P A w (tmp a d) s Fj/\(∀ b i,X' b i+Fj b i<=X b i)/\PF P E ops A a w (D.erase j) X'
 | [],_,hj,_=>by cases hj
 | k::D,X,hj,h=>by
  by_cases Dr:k=j
  ·subst Dr;rw[List.erase_cons_head];exact h
  ·have Bt:j ∈ D:=by
    rcases aY.1 hj with e | e
    ·exact absurd e.symm Dr
    ·exact e
   obtain ⟨o,d,s,Fk,X1,h1,h2,h3,h4,h5,h6⟩:=h;obtain ⟨o',d',s',Fj,X2,g1,g2,g3,g4,g5,g6⟩:=PF.take D Bt h6;rw[List.erase_cons_tail (by simpa using Dr)];exact ⟨o',d',s',Fj,λb i=>X2 b i+Fk b i,g1,g2,g3,g4,λb i=>by have:=g5 b i;have:=h5 b i;show X2 b i+Fk b i+Fj b i<=X b i;omega,o,d,s,Fk,X2,h1,h2,h3,h4,λb i=>aH _,g6⟩
theorem Y4 (h:Rel P C A X σ a w F) (kV:∀ i T,E.TI i=some T->bn P T (.inl i)=true) {s:Slot} (hs:AQ E o.op=some s) {d:Nat} (hp:LT σ d=true) :
  ∃ (v:Value) (w':World) (Fj:FP),(execOp a.eval o).run P w=.ok (.value v) w'/\Ext w w' (λ_ _=>0)/\Rel P C A (λb i=>X b i+Fj b i) σ (a.put (some d) v) w' F/\PS P A w' v s Fj:=by
 unfold AQ at hs;split at hs
 ·rename_i t ho;split at hs
  ·rename_i T hT;split at hs
   ·rename_i IE;injection hs with hs;subst hs;have jz:=kV _ _ hT;obtain ⟨L,hL⟩:=wz T IE;obtain ⟨z,AK,CB⟩:=Bf (P:=P) (w:=w) jz hL;obtain ⟨r1,r2,r3⟩:=Dm (P:=P) (w:=w) (A:=A) T hL jz;have hc:z.cells=L.toArray:=by grind
    have h1:=h.alloc L.toArray t (0,0);have iU:=yt w L.toArray t (0,0) false (.inr (aH _));have hll:L.length=T.sz:=ax.length T r1;simp only[eU,hll] at iU h1;have zH:=ax.alloc h r1 (λb i hp=>by simp at hp) (oH w (.cells L.toArray t));refine ⟨.pointer (some ⟨w.heap.size,0,none⟩),w.alloc (.cells L.toArray t),de w.heap.size 0 T.sz,?_,oH w _,h1.tmp hp _,w.heap.size,L,(λ_ _=>0),rfl,hll,yu w L.toArray t (0,0) (λj u hu=>by simpa using hu) (ax.one _ r1),λj hj=>iU.frozen hj,λ_ _=>aH _,zH,iU⟩
    simp_all [execOp,Instr.alloc,newVar,newRow]
   ·cases hs
  ·cases hs
 ·rename_i t n ps ho;split at hs
  ·rename_i e hT;split at hs
   ·rename_i hc;injection hs with hs;subst hs;simp only[aD,eP] at hc;obtain ⟨⟨h1,h2⟩,hz⟩:=hc;subst h1;have yX:ps=#[]:=gE h2;subst yX;have hl:=kV _ _ hT;simp only[bn,aD] at hl;have h2:=hl.2;split at h2
    ·rename_i el hu;simp only[aD,dL] at h2;obtain ⟨nt,rW⟩:=h2;obtain ⟨inf,i1,i2,i3,i4⟩:=lG (lX rW)
     have jL:(execOp a.eval o).run P w=.ok (.value (.slice (some ⟨w.heap.size,0,none⟩) 0 0)) (w.alloc (.cells #[] el)):=by
      simp[execOp,ho,Instr.buildSlice,run_underlying hu,Go.sizeOf,typeInfo,i1,Instr.fill,newRow,show Array.range 0=#[] from rfl]
     have ID:=h.alloc #[] el (0,0);have iU:=yt w #[] el (0,0) (zO e) (.inr (aH _));refine ⟨_,_,λb i=>de w.heap.size 0 0 b i+bk 0 (λ_ _ _=>0) b i,jL,oH w _,?_,?_⟩
     ·refine (ID.less (λb i=>?_)).tmp hp _;simp[de,bk]
     ·refine ⟨_,(ee (.aa e) _ rfl).symm,?_⟩
      simp only[ax,hole,bT,aF,aS,Md.own,aJ,Md.e];refine ⟨_,0,rfl,aH _,aZ _,(λe=>by cases e),λad j0=>?_⟩
      injection j0 with j0;subst j0;refine ⟨rfl,rfl,by simpa using iU,λ_ _ _=>0,λb i=>by simp,λi y hy=>by cases hy⟩
    ·cases h2
   ·cases hs
  ·cases hs
 ·cases hs
theorem Rel.abm (h:Rel P C A X σ a w F):∃ C':Ctx,C'.w0=w/\C'.A0=A/\(∀ b i,A b i->C'.F0 b i=0)/\Rel P C' A X σ a w F/\(∀ {A2:Cells} {X2:FP} {mT:St} {a2:Act} {w2:World} {F2:Nat->FP},Rel P C' A2 X2 mT a2 w2 F2->Rel P C A2 X2 mT a2 w2 F2):=by
 refine ⟨⟨w,A,λb i=>X b i+bk σ.n F b i,C.args⟩,rfl,rfl,λb i ha=>?_,?_,λ{A2 X2 mT a2 w2 F2} h2=>?_⟩
 ·show X b i+bk σ.n F b i=0;rcases bJ (X b i+bk σ.n F b i) with h0 | h0
  ·exact h0
  ·exact absurd ha (h.rh b i h0)
 ·exact { h with ext:=Ext.refl _ _,own:=λb i hp=>.inl hp,a0:=λ_ _ h=>h,a1:=λ_ _ h=>.inl h,pz:=h.pz,oo:=h.oo,tab:=h.ET λb i hp=>hp }
 ·have nt:C.w0.heap.size<=w.heap.size:=h.ext.size;refine { h2 with ext:=h.ext.trans h2.ext (λb i hb hz=>?_),own:=λb i hp=>?_,a0:=λb i ha=>h2.a0 b i (h.a0 b i ha),a1:=λb i ha=>?_,pz:=h2.pz,oo:=h2.oo,tab:=h.tab }
  ·show X b i+bk σ.n F b i=0;rcases bJ (X b i+bk σ.n F b i) with h0 | h0
   ·exact h0
   ·rcases h.own b i h0 with h1 | h1 <;> omega
  ·rcases h2.own b i hp with h1 | h1
   ·exact h.own b i h1
   grind
  ·rcases h2.a1 b i ha with h1 | h1 | h1
   ·exact h.a1 b i h1
   ·exact .inr (h.own b i h1)
   grind
theorem Rel.frame (h:Rel P C A X σ a w F):∃ C1:Ctx,ey P C1 A σ a w F/\∀ {A2:Cells} {mT:St} {a2:Act} {w2:World} {F2:Nat->FP},ey P C1 A2 mT a2 w2 F2->Rel P C A2 X mT a2 w2 F2 /\
  (∀ b i,A b i->A2 b i)/\(∀ b i,A b i->∀ u,ce w b i=some u->ce w2 b i=some u)/\(∀ b n,iR w b n->iR w2 b n)/\(∀ b i,1<=X b i->(∀ u,ce w b i=some u->ce w2 b i=some u)/\w2.frozen? ⟨b,i,none⟩=w.frozen? ⟨b,i,none⟩):=by
 have hX0:∀ b i,1<=X b i->bk σ.n F b i=0:=λb i hp=>by have:=h.qe b i;omega
 have hXb:∀ b i,1<=X b i->b < w.heap.size:=λb i hp=>h.k9 b i (.inl Bys);refine ⟨⟨w,A,bk σ.n F,C.args⟩,?_,λ{A2 mT a2 w2 F2} h2=>⟨?_,h2.a0,λb i ha u hu=>?_,h2.ext.wg,λb i hp=>⟨λu hu=>h2.ext.cell b i (hXb b i hp) (hX0 b i hp) u hu,h2.ext.Bc b i (hXb b i hp)⟩⟩⟩
 ·exact { h with
   qe:=λb i=>by have:=h.qe b i;grind
   rh:=λb i hp=>h.rh b i (by grind)
   k9:=λb i hp=>h.k9 b i (hp.imp (λhp=>by grind) id)
   ext:=Ext.refl _ _
   own:=λb i hp=>.inl (by grind)
   a0:=λ_ _ h=>h,a1:=λ_ _ h=>.inl h,pz:=h.pz,oo:=h.oo,tab:=h.ET λb i hp=>by grind }
 ·have nt:C.w0.heap.size<=w.heap.size:=h.ext.size
  have Pa:∀ b i,1<=X b i->bk mT.n F2 b i=0:=λb i hp=>by
   rcases bJ (bk mT.n F2 b i) with h0 | h0
   ·exact h0
   ·rcases h2.own b i (by grind) with h1 | h1
    all_goals grind
  have iU:∀ b i,1<=bk σ.n F b i->1<=C.F0 b i\/C.w0.heap.size<=b:=λb i hp=>h.own b i Bys;refine { h2 with qe:=λb i=>?_,rh:=λb i hp=>?_,k9:=λb i hp=>?_,ext:=h.ext.trans h2.ext (λb i hb hz=>?_),own:=λb i hp=>?_,a0:=λb i ha=>h2.a0 b i (h.a0 b i ha),a1:=λb i ha=>?_,pz:=h2.pz,oo:=h2.oo,tab:=h.tab }
  ·have h1:0+bk mT.n F2 b i<=1:=h2.qe b i;have:=Pa b i;have:=h.qe b i;omega
  ·by_cases hx:1<=X b i
   ·intro ha;rcases h2.a1 b i ha with h1 | h1 | h1
    ·exact h.rh b i Bys h1
    all_goals grind
   ·exact h2.rh b i (by grind)
  ·by_cases hx:1<=X b i
   ·exact bX (hXb b i hx) h2.ext.size
   ·exact h2.k9 b i (hp.imp (λhp=>by grind) id)
  ·grind
  ·by_cases hx:1<=X b i
   ·exact h.own b i Bys
   ·rcases h2.own b i (by grind) with h1 | h1
    all_goals grind
  ·rcases h2.a1 b i ha with h1 | h1 | h1
   ·exact h.a1 b i h1
   all_goals grind
 ·refine h2.ext.cell b i (yW hu) ?_ u hu;show bk σ.n F b i=0;rcases bJ (bk σ.n F b i) with h0 | h0
  ·exact h0
  ·exact absurd ha (h.rh b i Bys)
end
end OT
namespace OT
open Go
section
variable {P:Program} {C:Ctx} {A:Cells} {X:FP} {σ:St} {a:Act} {w:World} {F:Nat->FP} {R:Type} {x:R} {Q:Exit->Act->World->Prop} {o:Oper} {E:Env}
theorem Rel.congr (h:Rel P C A X σ a w F) {σ':St} (hn:σ'.n=σ.n) (hg:∀ i,σ'.get i=σ.get i) (hv:∀ i,σ'.lC i=σ.lC i) (hl:∀ e,e ∈ σ'.aT↔e ∈ σ.aT) (hgh:∀ e,e ∈ σ'.gh->e ∈ σ.gh):Rel P C A X σ' a w F:=by
 have oG:zQ σ a w σ' a w:=λr p snap hb=>⟨by rw[hv];exact hb,λbf=>by
  unfold St.ok at bf ⊢;rw[hv] at bf
  exact ⟨bf,λ_ pl ji=>⟨pl.H,pl.cs,by unfold place at ji ⊢;rw[hg];exact ji,λ_=>rfl⟩⟩⟩
 refine ⟨by rw[hn];exact h.size,h.defers,λi hi=>?_,λd r p snap hm=>sI.nD oG (h.gh d r p snap (hgh _ hm)),λb i=>by rw[hn];exact h.qe b i,λb i hp=>by rw[hn] at hp;exact h.rh b i hp,λb i hp=>by rw[hn] at hp;exact h.k9 b i hp,
  λi=>by rw[hv];exact h.mD i,h.ext,λb i hp=>by rw[hn] at hp;exact h.own b i hp,h.a0,h.a1,λj k hm=>h.pz j k ((hl _).1 hm),λr t m H v hr hk=>?_,λj k hm R hR=>?_,h.tab⟩
 ·rw[hg];exact dq.nD oG (λ_ _ h=>h) (λ_ _ _ _ h=>h) (λ_ _ h=>h) (λ_ _ _=>⟨λ_ h=>h,rfl⟩) (h.jg i (by rw[<-hn];exact hi))
 ·rw[hg] at hr;exact h.whole r t m H v hr λk hm=>hk k ((hl _).2 hm)
 ·rw[hg] at hR;exact h.oo j k ((hl _).1 hm) R hR
theorem Rel.same (h:Rel P C A X σ a w F) {t:Nat} {s:Slot} (hs:σ.get t=s):Rel P C A X (σ.mr t s) a w F:=
 h.congr rfl (λi=>by
  rw[Ia];split
  ·rename_i hc;rw[<-hs,hc.1]
  ·rfl) (λi=>rfl) (λe=>iL) (λe he=>he)
theorem Pb (h:Rel P C A X σ a w F) {ops:Array Oper} {o:Oper} {K:Bool->St->Option R} (hk:GH ops.toList σ o.guard K=some x):∃ (b:Bool) (σ':St),K b σ'=some x/\Rel P C A X σ' a w F/\Region.wanted o (yielded ops a.tmps)=b:=by
 unfold GH at hk;split at hk
 ·rename_i hg;exact ⟨true,σ,hk,h,by simp[Region.wanted,hg]⟩
 ·rename_i j want hg;split at hk
  ·cases hk
  ·rename_i t ht;rw[dN] at ht
   have hy:∀ v,tmp a t=v->t < σ.n->yielded ops a.tmps j=match v with | .bool b=>some b | _=>none:=λv hv Gy=>by
    have a_:t < a.tmps.size:=by rw[h.size];exact Gy
    unfold yielded;rw[ht];have:a.tmps[t]?=some v:=by rw[dJ a_,<- hv];simp[tmp,a_]
    simp only[aA,this];cases v <;> rfl
   have a_:∀ s,σ.get t=s->s≠.dead->t < σ.n:=λs hs jx=>by
    rcases cG t σ.n with hi | hi
    ·exact hi
    ·rw[mK (fO.2 hi)] at hs;exact absurd hs.symm jx
   split at hk
   ·rename_i b Pc;have Gy:=a_ _ Pc (by intro e;cases e);have hs:=h.jg t Gy;rw[Pc] at hs;have hv:=OQ hs;have Ta:=hy _ hv Gy;simp only at Ta
    cases b with
    | true=>exact ⟨_,_,hk,Rel.same h Pc,by simp only[Region.wanted,hg,Ta];cases want <;> rfl⟩
    | false=>exact ⟨_,_,hk,Rel.same h Pc,by simp only[Region.wanted,hg,Ta];cases want <;> rfl⟩
   ·rename_i Pc;have Gy:=a_ _ Pc (by intro e;cases e);have hs:=h.jg t Gy;rw[Pc] at hs;obtain ⟨vs,Fi,h1,_⟩:=hs;have Ta:=hy _ h1 Gy;simp only at Ta;exact ⟨false,σ,hk,h,by simp only[Region.wanted,hg,Ta];cases want <;> rfl⟩
   ·cases hk
theorem Mb (h:Rel P C A X σ a w F) (o:Oper):∃ F',Rel P C A X (σ.cg o.dst (.s8 [])) (a.put o.dst undef) w F':=
 h.cg o.dst (s:=.s8 []) (v:=undef) (Fd:=λ_ _=>0) (X':=X) ⟨#[],λ_ _ _=>0,rfl,λb i=>by simp[bk],λj y hy=>by cases hy⟩ (λb i=>aH _) (λ_ _ _ _ e=>by cases e)
theorem acy (hE:uq P E) {iV:Nat} {ops:Array Oper} (dp:∀ o ∈ ops.toList,sL P o.op=true) {K:St->Option R} (hQ:∀ a w,Nx P C K x a w->Q .normal a w) :
  ∀ (rest:List Oper) (i:Nat) {σ:St} {A:Cells} {a:Act} {w:World} {F:Nat->FP},ops.toList.drop i=rest->ey P C A σ a w F->LS E iV ops.toList rest i σ K=some x->wpOps P ops Q (List.range' i rest.length) a w:=by
 intro rest
 induction rest with
 | nil=>intro i σ A a w F hd h hk;exact hQ a w ⟨σ,hk,A,F,h⟩
 | cons o rest ih=>
  intro i σ A a w F hd h hk
  have hi:ops[i]?=some o:=by
   have:(ops.toList.drop i)[0]?=some o:=by rw[hd];rfl
   rw[bK] at this
   simpa using this
  have uC:ops.toList.drop (i+1)=rest:=by rw[<-dB,hd];rfl
  have rP:o ∈ ops.toList:=bI (i:=i) (by simpa using hi);simp only[LS] at hk;obtain ⟨b,qE,hk,h1,hw⟩:=Pb h hk;show wpOps P ops Q (i::List.range' (i+1) rest.length) a w;simp only[wpOps,hi,hw]
  cases b with
  | true=>
   simp only[aJ];refine .inl (Oper.wp_mono (λa' w' hn=>?_) (abl hE h1 (dp o rP) hk));obtain ⟨mT,nM,A2,F2,h2⟩:=hn;exact ih (i+1) uC h2 nM
  | false=>
   simp only[aF,aS];obtain ⟨F2,h2⟩:=Mb h1 o;exact ih (i+1) uC h2 hk
theorem W0 (hE:uq P E) {iV id:Nat} {ops:Array Oper} (dp:∀ o ∈ ops.toList,sL P o.op=true) (h:ey P C A σ a w F) {K:St->Option R} (hk:LS E iV ops.toList ops.toList 0 σ K=some x) (hQ:∀ a w,Nx P C K x a w->Q .normal a w) :
  (Code.region id ops false).wp P Q a w:=by
 refine wp_region ?_;have:=acy hE dp hQ ops.toList 0 (by simp) h hk
 simpa [fI] using this
def wB (P:Program) (md:Region.Mode) (ops:Array Oper) (Q:Exit->Act->World->Prop) (S:Array Bool->World->Prop):Nat->Array Bool->Act->World->Prop
 | 0,lR,a,w=>Region.ready md ops lR=[]/\Q .normal a w
 | fuel+1,lR,a,w=>
  (Region.ready md ops lR=[]->Q .normal a w) /\
  ∀ i ∈ Region.ready md ops lR,wpOp P ops Q i (λa' w'=>S (lR.setIfInBounds i true) w'/\wB P md ops Q S fuel (lR.setIfInBounds i true) a' w') a w
theorem KI {md:Region.Mode} {ops:Array Oper} {S:Array Bool->World->Prop}:∀ (fuel:Nat) (lR:Array Bool) (a:Act) (w:World),wB P md ops Q S fuel lR a w->wpAny P md ops Q fuel lR a w
 | 0,_,_,_,h=>h
 | fuel+1,_,_,_,h=>⟨h.1,λi hi=>wpOp_mono (λa' w' h'=>KI fuel _ a' w' h'.2) (h.2 i hi)⟩
def Ep (md:Region.Mode) (ops:Array Oper) (l:Array Bool):Prop:=∀ j o,ops[j]?=some o->l.getD j false=true->∀ e ∈ o.after,Region.binds md e=true->l.getD e.on false=true
theorem E2 {md:Region.Mode} {ops:Array Oper} {l:Array Bool} (h:Ep md ops l) {j:Nat} (hj:j ∈ Region.ready md ops l):Ep md ops (l.setIfInBounds j true):=by
 obtain ⟨_,oj,KJ,t7⟩:=mem_ready.1 hj;intro k o hk hl e he hb;by_cases Dr:j=k
 ·subst Dr;rw[KJ] at hk;injection hk with hk;subst hk;exact getD_set_true (t7 e he hb)
 ·rw[getD_set_ne false Dr] at hl;exact getD_set_true (h k o hk hl e he hb)
def SU (md:Region.Mode) (ops:Array Oper) (S:Array Bool->World->Prop) (i:Nat):World->Prop:=λw'=>∃ l,Ep md ops l/\l.getD i true=false/\S l w'
theorem y9 {md:Region.Mode} {ops:Array Oper} {S:Array Bool->World->Prop} {i:Nat} {oi:Oper} {v:Value} (hi:ops[i]?=some oi) (E3:∀ (j:Nat) (o:Oper) cs b,ops[j]?=some o->o.op≠.select cs b)
  (hQ:∀ c a w,Q (.panic c) (a.put oi.dst v) w->Q (.panic c) a w) (hS:∀ l w,S (l.setIfInBounds i true) w↔S l w) :
  ∀ (fuel:Nat) (lR:Array Bool) (a:Act) (w:World),
   (∀ j oj,ops[j]?=some oj->j≠i->lR.getD j true=false->(∀ e ∈ oj.after,Region.binds md e=true->e.on≠i)->oi.apart ops oj=true) ->
   i ∈ Region.ready md ops lR->Ep md ops lR->YieldsIf P ops (SU md ops S i) oi v a->S lR w ->
   wB P md ops Q S fuel (lR.setIfInBounds i true) (a.put oi.dst v) w->wB P md ops Q S (fuel+1) lR a w:=by
 intro fuel
 induction fuel with
 | zero=>
  intro lR a w _ hr hc hy hs H;have uF:lR.getD i true=false:=(mem_ready.1 hr).1;refine ⟨λh=>(by rw[h] at hr;cases hr),λj hj=>?_⟩
  by_cases po:j=i
  ·subst po;exact hy.wpOp hi ⟨lR,hc,uF,hs⟩ ⟨(hS _ _).2 hs,H⟩
  ·have:=ready_mono hj po;rw[H.1] at this;cases this
 | succ fuel ih=>
  intro lR a w N3 hr hc hy hs H;have uF:lR.getD i true=false:=(mem_ready.1 hr).1;refine ⟨λh=>(by rw[h] at hr;cases hr),λj hj=>?_⟩
  by_cases po:j=i
  ·subst po;exact hy.wpOp hi ⟨lR,hc,uF,hs⟩ ⟨(hS _ _).2 hs,H⟩
  ·have h1:=H.2 j (ready_mono hj po);obtain ⟨acz,oj,KJ,t7⟩:=mem_ready.1 hj
   have acA:∀ e ∈ oj.after,Region.binds md e=true->e.on≠i:=λe he hb heq=>by
    have h1:=t7 e he hb;have h0:=(mem_ready.1 hr).1;rw[heq] at h1;rcases cG i lR.size with h' | h'
    ·simp[h'] at h0 h1;rw[h0] at h1;cases h1
    ·simp[dX h'] at h1
   have h2:=wpOp_putIf KJ (N3 j oj KJ po acz acA) (λcs b=>E3 i oi cs b hi) (λcs b=>E3 j oj cs b KJ) hQ hy h1
   have acB:∀ k ok,ops[k]?=some ok->k≠i->(lR.setIfInBounds j true).getD k true=false ->
     (∀ e ∈ ok.after,Region.binds md e=true->e.on≠i)->oi.apart ops ok=true:=λk ok hk hki uF rD=>by
    refine N3 k ok hk hki ?_ rD;by_cases hjk:j=k
    ·subst hjk;exact acz
    ·rw[getD_set_ne true hjk] at uF;exact uF
   refine wpOp_mono (λa' w' h3=>?_) h2;have h4:=h3.2.1;have h5:=h3.2.2;rw[Array.setIfInBounds_comm _ _ (Ne.symm po)] at h4 h5;have h6:=(hS _ _).1 h4;exact ⟨h6,ih (lR.setIfInBounds j true) a' w' acB (ready_mono hr (Ne.symm po)) (E2 hc hj) h3.1 h6 h5⟩
def M4 (ops:Array Oper):Nat->Nat->Nat->Bool
 | 0,_,_=>false
 | n+1,d,i=>match ops[d]? with
  | some o=>o.after.toList.any λe=>Region.binds .any e&&(Nat.beq e.on i||M4 ops n e.on i)
  | none=>false
theorem wV {ops:Array Oper} {l:Array Bool} (h:Ep .any ops l):∀ (n d i:Nat),M4 ops n d i=true->l.getD d false=true->l.getD i false=true
 | 0,_,_,ha,_=>by cases ha
 | n+1,d,i,ha,hd=>by
  simp only[M4] at ha;split at ha
  ·rename_i o ho;obtain ⟨e,he,hb⟩:=eX.1 ha;simp only[aD,dQ,eP] at hb;have hl:=h d o ho hd e (by simpa using he) hb.1;rcases hb.2 with hb | hb
   ·rw[<-hb];exact hl
   ·exact wV h n e.on i hb hl
  ·cases ha
def rH (E:Env) (ops:Array Oper) (d:Nat):Bool:=match ops[d]? with
 | some o=>!xq E o.op&&!quiet E o.op
 | none=>false
def Ds (l:Array Bool):List Nat->Array Bool
 | []=>l
 | j::js=>Ds (l.setIfInBounds j true) js
def CF (E:Env) (iV:Nat) (ops:Array Oper) (pd:List Nat):List Nat->Array Bool->Bool->Bool
 | [],l,_=>(Region.ready .any ops l).isEmpty
 | i::is,l,f=>match ops[i]? with
  | none=>false
  | some o=>
   match pd.any (Nat.beq i) with
   | true=>!is.any (Nat.beq i)&&(Region.ready .any ops l).contains i&&(Region.ready .any ops (Ds l (pd.filter λj=>!Nat.beq i j))).all (λj=>pd.any (Nat.beq j))&&CF E iV ops pd is (l.setIfInBounds i true) f
   | false=>
   match xq E o.op&&(Region.free .any ops l i&&(Region.ready .any ops l).contains i&&(!reads o.op||Ox E iV i||T_ E iV i||(f&&(List.range ops.size).all λd=>!rH E ops d||M4 ops ops.size d i))) with
   | true=>CF E iV ops pd is (l.setIfInBounds i true) f
   | false=>(Region.ready .any ops l).contains i&&(Region.ready .any ops (Ds l pd)).all (Nat.beq i)&&CF E iV ops pd is (l.setIfInBounds i true) false
noncomputable def G_ (E:Env) (ops:Array Oper) (pd:List Nat):Bool:=pd.all λj=>match ops[j]? with
 | some o=>(match o.guard with
  | none=>true
  | some _=>false)&&(AQ E o.op).isSome&&(match o.dst with
   | some d=>(List.range ops.size).all λk=>Nat.beq k j||(match ops[k]? with
    | some o'=>(match o'.dst with
     | some d'=>!Nat.beq d' d
     | none=>true)
    | none=>true)
   | none=>false)
 | none=>false
def KK:List Nat->Bool
 | []=>true
 | i::is=>!is.any (Nat.beq i)&&KK is
noncomputable def CG (E:Env) (ops:Array Oper) (pd:List Nat) (er:List (Nat×Nat)):Bool:=er.all λe=>!pd.any (Nat.beq e.1)&&(Nat.ble ops.size e.2||(rH E ops e.2&&!pd.any (Nat.beq e.2)&&M4 ops ops.size e.2 e.1))&&(match ops[e.1]? with
 | some o=>(match o.guard with
  | none=>true
  | some _=>false)&&(match o.op,o.dst with
   | .load _ (.tmp x),some d=>!Nat.beq x d&&(List.range ops.size).all λk=>Nat.beq k e.1||(match ops[k]? with
    | some o'=>(match o'.dst with
     | some d'=>!Nat.beq d' d&&(!Nat.beq d' x||M4 ops ops.size e.1 k)
     | none=>true)
    | none=>true)
   | _,_=>false)
 | none=>false)
noncomputable def Pd (E:Env) (iV:Nat) (ops:Array Oper) (is:List Nat):Bool:=
 Region.noSelect ops&&Nat.ble is.length ops.size&&(G_ E ops (pk E.pd iV)&&(pk E.pd iV).all λj=>is.any (Nat.beq j))&&(KK is&&(List.range ops.size).all (λk=>is.any (Nat.beq k))&&CG E ops (pk E.pd iV) (Kc E.er iV))&&CF E iV ops (pk E.pd iV) is (Array.replicate ops.size false) (match pk E.pd iV with
  | []=>true
  | _::_=>false)
theorem aaH {K:St->Option R}:∀ (is:List Nat) {σ:St} {A:Cells} {F:Nat->FP},ey P C A σ a w F->SG σ is K=some x->∃ (A':Cells) (σ':St) (F':Nat->FP),K σ'=some x/\ey P C A' σ' a w F':=by
 intro is
 induction is with
 | nil=>intro σ A F h hk;exact ⟨A,σ,F,hk,h⟩
 | cons i is ih=>
  intro σ A F h hk;simp only[SG] at hk;split at hk
  ·rename_i t m H v hg;split at hk
   ·rename_i hc;simp only[aD,bD] at hc;obtain ⟨hH,yY⟩:=hc;subst hH;obtain ⟨A1,F1,_,h1,_,_⟩:=WP h hg;exact ih h1 hk
   ·cases hk
  ·cases hk
theorem Rel.acC (h:ey P C A σ a w F):∃ C':Ctx,C'.w0=w/\C'.A0=A/\(∀ b i,A b i->C'.F0 b i=0)/\ey P C' A σ a w F/\(∀ {A2:Cells} {mT:St} {a2:Act} {w2:World} {F2:Nat->FP},ey P C' A2 mT a2 w2 F2->ey P C A2 mT a2 w2 F2):=by
 have iU:∀ b i,1<=bk σ.n F b i->1<=C.F0 b i\/C.w0.heap.size<=b:=λb i hp=>h.own b i (by show 1<=0+_;omega);refine ⟨⟨w,A,bk σ.n F,C.args⟩,rfl,rfl,λb i ha=>?_,?_,λ{A2 mT a2 w2 F2} h2=>?_⟩
 ·rcases bJ (bk σ.n F b i) with h0 | h0
  ·exact h0
  ·exact absurd ha (h.rh b i (by show 1<=0+_;omega))
 ·exact { h with ext:=Ext.refl _ _,own:=λb i hp=>.inl (by have hp:1<=0+bk σ.n F b i:=hp;show 1<=bk σ.n F b i;omega),a0:=λ_ _ h=>h,a1:=λ_ _ h=>.inl h,pz:=h.pz,oo:=h.oo,tab:=h.ET λb i hp=>by have hp:1<=bk σ.n F b i:=hp;show 1<=0+_;omega }
 ·have nt:C.w0.heap.size<=w.heap.size:=h.ext.size;refine { h2 with ext:=h.ext.trans h2.ext (λb i hb hz=>?_),own:=λb i hp=>?_,a0:=λb i ha=>h2.a0 b i (h.a0 b i ha),a1:=λb i ha=>?_,pz:=h2.pz,oo:=h2.oo,tab:=h.tab }
  ·show bk σ.n F b i=0;rcases bJ (bk σ.n F b i) with h0 | h0
   ·exact h0
   ·rcases iU b i h0 with h1 | h1 <;> omega
  ·rcases h2.own b i hp with h1 | h1
   ·exact iU b i h1
   ·exact .inr (bG nt h1)
  ·rcases h2.a1 b i ha with h1 | h1 | h1
   ·exact h.a1 b i h1
   ·exact .inr (iU b i h1)
   ·exact .inr (.inr (bG nt h1))
theorem abn (h:ey P C A σ a w F) (hE:uq P E) {iV i:Nat} (dp:sL P o.op=true) (qS:xq E o.op=true) (Kx:Ow σ o=true) {K:St->Option R} (hk:sV E iV i o σ K=some x) :
  ∃ v,(∀ w',(∀ b i,A b i->∀ u,ce w b i=some u->ce w' b i=some u)->(execOp a.eval o).run P w'=.ok (.value v) w')/\Nx P C K x (a.put o.dst v) w:=by
 unfold Ow at Kx;split at Kx
 ·rename_i t y ho;split at Kx
  ·rename_i t' v hv;unfold sV at hk;simp only[ho,Ka] at hk
   cases hf:YK E.fz iV i 8 with
   | true=>rw[hf] at hk;simp only[hv] at hk;cases hk
   | false=>
   rw[hf] at hk;simp only[hv,EJ] at hk;obtain ⟨T,hT,hk⟩:=iq hk;have jz:=hE.ti _ _ hT;split at hk
   ·rename_i e;subst e;rw[ho] at dp
    rcases gn h dp with hs | ⟨xs,e⟩
    rotate_left
    ·rw[e] at hv;cases hv
    rw[hv] at hs;obtain ⟨⟨b,off,sp⟩,h1,h2,L,h3,h4,h5⟩:=hs;simp only[dG,eG] at h1;simp only at h2;subst h2;refine ⟨cu t' L,λw' um=>?_,ct h hk ⟨L,rfl,h5⟩ (λ_ _ _ _ e=>by cases e)⟩
    simp[execOp,ho,h1,Instr.loadAt,Instr.sureAddr,Ap jz (λj u hu=>um _ _ (h4 j u hu).2 u (h4 j u hu).1) h3 (Ro.one _ h5)]
   ·cases hk
  ·cases Kx
 ·rename_i s t y ho;unfold sV at hk;simp only[ho] at hk;rw[ho] at dp;refine Kw h hE.ti ho dp (λT hT=>?_) Kx hk;rw[ho] at qS;simp only[xq,hT] at qS;exact qS
 ·cases Kx
def DV (ops:Array Oper) (l:Array Bool) (u:Nat):Prop:=ops.size<=u\/l.getD u false=false
def SD (E:Env) (ops:Array Oper) (w0:World) (C:Ctx) (RC:List (Nat×Nat×Nat×Nat×List Value)):Array Bool->World->Prop:=λl w'=>((∀ d,rH E ops d=true->l.getD d false=false)->Ext w0 w' (λ_ _=>0))/\(∀ b i,C.A0 b i->∀ u,ce C.w0 b i=some u->ce w' b i=some u)/\∀ e ∈ RC,DV ops l e.2.1->Has w' e.2.2.1 e.2.2.2.1 e.2.2.2.2
theorem abo {next:Act->World->Prop} (h:Tk P o a w next):o.wp P a w (λa' w'=>w=w'/\next a' w') Q:=by
 obtain ⟨v,h1,h2⟩:=h;exact pq (h1 w λ_=>Ext.refl _ _) ⟨rfl,h2⟩
theorem DW {md:Region.Mode} {ops:Array Oper} {S S':Array Bool->World->Prop} (hS:∀ l w,S l w->S' l w):∀ (fuel:Nat) (lR:Array Bool) (a:Act) (w:World),wB P md ops Q S fuel lR a w->wB P md ops Q S' fuel lR a w
 | 0,_,_,_,h=>h
 | fuel+1,_,_,_,h=>⟨h.1,λi hi=>wpOp_mono (λa' w' h'=>⟨hS _ _ h'.1,DW hS fuel _ a' w' h'.2⟩) (h.2 i hi)⟩
theorem Pe (a:Act) (d:Nat):a.put (some d) (tmp a d)=a:=by
 have:a.tmps.setIfInBounds d (tmp a d)=a.tmps:=by
  unfold tmp;apply Array.ext
  ·simp
  ·intro i h1 h2;rw[gP];split
   ·rename_i e;subst e;simp[h2]
   ·rfl
 show { a with tmps:=a.tmps.setIfInBounds d (tmp a d) }=a;rw[this]
theorem adz {ops:Array Oper} {K:St->Option R}:∀ (js:List Nat) {σ:St} {F:Nat->FP},ey P C A σ a w F->Wk ops.toList σ js K=some x->∃ (σ':St) (F':Nat->FP),K σ'=some x/\ey P C A σ' a w F':=by
 intro js
 induction js with
 | nil=>intro σ F h hk;exact ⟨σ,F,hk,h⟩
 | cons j js ih=>
  intro σ F h hk;simp only[Wk] at hk;split at hk
  ·rename_i d hd;obtain ⟨F1,h1⟩:=h.cg (some d) (s:=.dead) (v:=tmp a d) (Fd:=λ_ _=>0) (X':=λ_ _=>0) trivial (λb i=>aH _) (λ_ _ _ _ e=>by cases e);rw[Pe] at h1;exact ih h1 hk
  ·cases hk
theorem E4:∀ (js:List Nat) (l:Array Bool) (k:Nat) (b:Bool),(Ds l js).getD k b=if k ∈ js/\k < l.size then true else l.getD k b
 | [],l,k,b=>by simp[Ds]
 | j::js,l,k,b=>by
  rw[Ds,E4 js];simp only[Array.size_setIfInBounds];by_cases h1:k ∈ js/\k < l.size
  ·rw[aR h1,aR ⟨by simp[h1.1],h1.2⟩]
  ·rw[aV h1];by_cases Dr:j=k
   ·subst Dr;by_cases a_:j < l.size
    ·rw[aR ⟨by simp,a_⟩];simp[a_]
    ·rw[aV (λh=>a_ h.2)];simp[a_]
   ·rw[getD_set_ne b Dr,aV];rintro ⟨h2,h3⟩;rcases aY.1 h2 with e | e
    ·exact Dr e.symm
    ·exact h1 ⟨e,h3⟩
theorem rI {l:List Nat} {i:Nat}:l.any (Nat.beq i)=true↔i ∈ l:=by
 rw[eX];constructor
 ·rintro ⟨y,h1,h2⟩;rw[cT h2];exact h1
 ·intro h;exact ⟨i,h,hU i⟩
theorem DX {ops:Array Oper} {pd:List Nat} (h:G_ E ops pd=true) {j:Nat} (hj:j ∈ pd):∃ o d s,ops[j]?=some o/\o.guard=none/\o.dst=some d/\AQ E o.op=some s/\∀ k o',ops[k]?=some o'->k≠j->o'.dst≠some d:=by
 unfold G_ at h;have h:=bH.1 h j hj;split at h
 ·rename_i o ho;simp only[aD] at h;obtain ⟨⟨h1,h2⟩,h3⟩:=h;split at h3
  ·rename_i d hd;obtain ⟨s,hs⟩:=eB.1 h2;refine ⟨o,d,s,ho,?_,hd,hs,λk o' hk Dr e=>?_⟩
   ·split at h1
    ·assumption
    ·cases h1
   ·have:=bH.1 h3 k (cD.2 (bS.1 hk).1);rw[hk] at this;simp only[e,dQ] at this;rcases this with h4 | h4
    ·exact Dr (cT h4)
    ·simp at h4
  ·cases h3
 ·cases h
def RE (ops:Array Oper) (er:List (Nat×Nat)) (L:Array Bool) (a:Act) (w:World) (e:Nat×Nat×Nat×Nat×List Value):Prop:=(e.1,e.2.1) ∈ er/\L.getD e.1 false=true /\
 ∃ o t x d,ops[e.1]?=some o/\o.op=.load t (.tmp x)/\o.dst=some d/\tmp a x=.pointer (some ⟨e.2.2.1,e.2.2.2.1,none⟩)/\(tmp a d).cells.toList=e.2.2.2.2/\(DV ops L e.2.1->Has w e.2.2.1 e.2.2.2.1 e.2.2.2.2)
theorem IK:∀ {is:List Nat},KK is=true->is.Nodup
 | [],_=>fV
 | i::is,h=>by
  simp only[KK,aD,cH] at h;refine cS.2 ⟨λhm=>?_,IK h.2⟩;have:=h.1;rw[rI.2 hm] at this;cases this
theorem xD {E:Env} {ops:Array Oper} {pd:List Nat} {er:List (Nat×Nat)} (h:CG E ops pd er=true) {j u:Nat} (hj:(j,u) ∈ er):j ∉ pd/\(ops.size<=u\/(rH E ops u=true/\u ∉ pd/\M4 ops ops.size u j=true))/\∃ o t x d,ops[j]?=some o/\o.guard=none/\o.op=.load t (.tmp x)/\o.dst=some d/\x≠d /\
  ∀ k o',ops[k]?=some o'->k≠j->o'.dst≠some d/\(o'.dst=some x->M4 ops ops.size j k=true):=by
 unfold CG at h;have h1:=bH.1 h _ hj;simp only[aD,dQ,cH,dL] at h1;obtain ⟨⟨h0,hu⟩,h1⟩:=h1;refine ⟨λhm=>?_,hu.imp id λq=>⟨q.1.1,λhm=>?_,q.2⟩,?_⟩
 ·rw[rI.2 hm] at h0;cases h0
 ·have q2:=q.1.2;rw[rI.2 hm] at q2;cases q2
 split at h1
 ·rename_i o ho;simp only[aD] at h1;obtain ⟨h2,h3⟩:=h1;split at h3
  ·rename_i t x d S5 hd;simp only[aD,cH,bH,cD] at h3;obtain ⟨h4,h5⟩:=h3;refine ⟨o,t,x,d,ho,?_,S5,hd,(λe=>by subst e;rw[hU] at h4;cases h4),λk o' hk Dr=>?_⟩
   ·cases hg:o.guard with
    | none=>rfl
    | some g=>rw[hg] at h2;cases h2
   ·have h6:=h5 k (bS.1 hk).1;rw[hk] at h6;simp only[dQ] at h6;rcases h6 with h6 | h6
    ·exact absurd (cT h6) Dr
    ·cases uC:o'.dst with
     | none=>exact ⟨(λe=>by cases e),λe=>by cases e⟩
     | some d'=>
      rw[uC] at h6;simp only[aD,dQ,cH] at h6;refine ⟨λe=>?_,λe=>?_⟩
      ·injection e with e;subst e;rw[hU] at h6;cases h6.1
      ·injection e with e;subst e;rcases h6.2 with h7 | h7
       ·rw[hU] at h7;cases h7
       ·exact h7
  ·cases h3
 ·cases h1
theorem zV:∀ {p q:Path},rC p q=true->p=q
 | [],[],_=>rfl
 | .fst::p,.fst::q,h=>by simp only[rC] at h;rw[zV h]
 | .snd::p,.snd::q,h=>by simp only[rC] at h;rw[zV h]
 | .idx i::p,.idx j::q,h=>by simp only[rC,aD] at h;rw[cT h.1,zV h.2]
 | .rB i::p,.rB j::q,h=>by simp only[rC,aD] at h;rw[cT h.1,zV h.2]
theorem W3 (h:Rel P C A X σ a w F) {o:Oper} (bf:YO σ o=true) {t x d:Nat} (ho:o.op=.load t (.tmp x)) (hd:o.dst=some d) {b off:Nat} (hx:tmp a x=.pointer (some ⟨b,off,none⟩)):Has w b off (tmp a d).cells.toList/\d < a.tmps.size:=by
 unfold YO at bf;rw[ho,hd] at bf;simp only at bf
 have lt:∀ {i:Nat},σ.get i≠.dead->i < σ.n:=λ{i} hi=>by
  rcases cG i σ.n with h1 | h1
  ·exact h1
  ·exact absurd (mK (fO.2 h1)) hi
 split at bf
 ·rename_i r p s Tb;split at bf
  ·rename_i r' p' s' Dt;simp only[aD] at bf;obtain ⟨⟨h1,h2,h3⟩,h4⟩:=bf;have e1:=cT h1;have e2:=zV h4;subst e1;subst e2;have xE:=h.jg x (lt (by rw[Tb];intro e;cases e));rw[Tb] at xE;obtain ⟨pl,b',o',g1,g2,g3,_⟩:=xE.2 h2;rw[hx] at g3;simp only[Value.pointer.injEq,aQ,Addr.mk.injEq,eG] at g3;obtain ⟨rfl,rfl⟩:=g3;have M5:=h.jg d (lt (by rw[Dt];intro e;cases e));rw[Dt] at M5;obtain ⟨MQ,k1,k2,_⟩:=M5.2 h3;rw[g1] at k1;injection k1 with k1;subst k1;have hr:=u9 g1;have ji:=g1;unfold place at ji
   cases hR:et w (tmp a r) (σ.get r) with
   | none=>rw[hR] at ji;cases ji
   | some R=>
    rw[hR] at ji;simp only[aA] at ji;obtain ⟨m,v,F1,q1,_,q2,_⟩:=yO (h.jg r hr) hR;obtain ⟨z1,m',v',F',z2⟩:=SJ p R.t q1 (λb o e=>(q2 b o e).1) ji;rw[k2,lW (ax.length _ z2) (ax.one _ z2)];exact ⟨z1 _ _ g2,by rw[h.size];exact lt (by rw[Dt];intro e;cases e)⟩
  ·rename_i v Dt;simp only[aD] at bf;obtain ⟨h2,hi⟩:=bf;unfold aax at hi;split at hi;rotate_left
   ·cases hi
   rename_i bb nN;subst hi;have xE:=h.jg x (lt (by rw[Tb];intro e;cases e));rw[Tb] at xE;obtain ⟨pl,b',o',g1,g2,g3,_⟩:=xE.2 h2;rw[hx] at g3;simp only[Value.pointer.injEq,aQ,Addr.mk.injEq,eG] at g3;obtain ⟨rfl,rfl⟩:=g3;have M5:=h.jg d (lt (by rw[Dt];intro e;cases e));rw[Dt] at M5;obtain ⟨d9,k1,k2⟩:=M5;obtain ⟨hr,t',m',H',v',cc,dt,F',i1,i2,i3,i4,i5,i6⟩:=l7 h nN;rw[i3] at g1;injection g1 with g1;subst g1;simp only at g2;subst g2;obtain ⟨e,i1⟩:=dn i1;subst e;simp only[aQ,bP] at i1;have hh:Has w b off cc:=by first | exact (i6 b off rfl).1 | exact i6 b off rfl | exact (i5 b off rfl).1 | exact i5 b off rfl
   have c1:cc=[.int .i64 v]:=by
    have i4:_:=i4;simp only[ax] at i4;rw[<-i1]
    first | exact i4.1 | exact i4 | exact i4.2 | simp_all
   have c2:d9=[.int .i64 v]:=k2;rw[k1,c2,lW rfl (λu hu=>by rw[bV] at hu;subst hu;rfl)];rw[c1] at hh;exact ⟨hh,by rw[h.size];exact lt (by rw[Dt];intro e;cases e)⟩
  ·cases bf
 ·rename_i tb mb Hb vb Tb;split at bf
  ·rename_i r' p' s' Dt;simp only[aD] at bf;obtain ⟨⟨h1,h3⟩,h4⟩:=bf;have e1:=cT h1;have e2:=zV h4;subst e1;subst e2;have M5:=h.jg d (lt (by rw[Dt];intro e;cases e));rw[Dt] at M5;obtain ⟨MQ,k1,k2,_⟩:=M5.2 h3;have hr:=u9 k1;have ji:=k1;unfold place at ji
   cases hR:et w (tmp a x) (σ.get x) with
   | none=>rw[hR] at ji;cases ji
   | some R=>
    rw[hR] at ji;simp only[aA] at ji;obtain ⟨m,v,F1,q1,_,q2,_⟩:=yO (h.jg x hr) hR;obtain ⟨z1,m',v',F',z2⟩:=SJ [] R.t q1 (λb o e=>(q2 b o e).1) ji;rw[k2,lW (ax.length _ z2) (ax.one _ z2)]
    have j0:MQ.ad=some (b,off):=by
     rw[Tb,hx] at hR;simp only[et,aQ] at hR;subst hR;simp only[bt,aQ] at ji;subst ji;rfl
    exact ⟨z1 _ _ j0,by rw[h.size];exact lt (by rw[Dt];intro e;cases e)⟩
  ·cases bf
 ·cases bf
theorem quiet_of {iV i:Nat} {o:Oper} {K:St->Option R} (hk:sV E iV i o σ K=some x) (hm:H7 o.op=false) (ht:xq E o.op=false):quiet E o.op=true:=by
 unfold sV at hk;cases ho:o.op <;> rw[ho] at hk hm ht <;> first | rfl | (cases hm;done) | (cases ht;done) | (simp only[reduceCtorEq] at hk;done) | skip
theorem Pf (h:ey P C A σ a w F) (hE:uq P E) {t x0:Nat} {mv:Bool} (dp:sL P o.op=true) (ho:o.op=.load t (.tmp x0)) {K:St->Option R} (hk:EJ E σ t (ep σ (.tmp x0)) mv o.dst K=some x) :
  ∃ b off v cs,tmp a x0=.pointer (some ⟨b,off,none⟩)/\Has w b off cs/\v.cells.toList=cs/\∀ w',Has w' b off cs->(execOp a.eval o).run P w'=.ok (.value v) w':=by
 unfold EJ at hk;obtain ⟨T,hT,hk⟩:=iq hk;have jz:=hE.ti _ _ hT
 have run:∀ b off L,a.eval (.tmp x0)=.pointer (some ⟨b,off,none⟩)->L.length=T.sz->(∀ u ∈ L,u.oneCell'=true)->∀ w',Has w' b off L->(execOp a.eval o).run P w'=.ok (.value (cu T L)) w':=λb off L hy hl qu w' hL=>by
  simp[execOp,ho,hy,Instr.loadAt,Instr.sureAddr,Ap jz hL hl qu]
 rw[ho] at dp
 rcases gn h (show ei P (.tmp x0)=true from dp) with hs | ⟨xs,e⟩
 rotate_left
 ·rw[e] at hk;cases hk
 split at hk
 ·rename_i t' v hv;rw[hv] at hs;split at hk
  ·rename_i e;subst e;obtain ⟨⟨b,off,sp⟩,h1,h2,L,h3,h4,h5⟩:=hs;simp only[dG,eG] at h1;simp only at h2;subst h2;exact ⟨b,off,cu t' L,L,h1,λj u hu=>(h4 j u hu).1,lW h3 (Ro.one _ h5),run b off L h1 h3 (Ro.one _ h5)⟩
  ·cases hk
 ·rename_i r p snap hv;rw[hv] at hs;split at hk
  ·rename_i pM;obtain ⟨hr,t',m',H',v',cc,dt,F',h1,h2,h3,h4,h5,h6⟩:=l7 h hk;obtain ⟨pl,b,off,g1,g2,g3,g4⟩:=hs.2 pM;rw[h3] at g1;injection g1 with g1;subst g1;simp only at g2;subst g2;split at h1
   ·rename_i e;subst e;have hh:Has w b off cc:=by first | exact (h6 b off rfl).1 | exact h6 b off rfl | exact (h5 b off rfl).1 | exact h5 b off rfl
    exact ⟨b,off,cu t' cc,cc,g3,hh,lW (ax.length _ h4) (ax.one _ h4),run b off cc g3 (ax.length _ h4) (ax.one _ h4)⟩
   ·cases h1
  ·cases hk
 ·cases hk
theorem abp (h:ey P C A σ a w F) (hE:uq P E) {iV i t x0:Nat} (dp:sL P o.op=true) (ho:o.op=.load t (.tmp x0)) {K:St->Option R} (hk:sV E iV i o σ K=some x) :
  ∃ b off v cs,tmp a x0=.pointer (some ⟨b,off,none⟩)/\Has w b off cs/\v.cells.toList=cs/\∀ w',Has w' b off cs->(execOp a.eval o).run P w'=.ok (.value v) w':=by
 unfold sV at hk;simp only[ho,Ka] at hk;split at hk
 ·exact Pf h hE dp ho hk
 ·split at hk
  ·split at hk
   ·obtain ⟨A1,qE,F1,_,_,_,_,_,k1,_,k3,_⟩:=AJ h hk;exact Pf k3 hE dp ho k1
   ·cases hk
  ·cases hk
structure Inv (P:Program) (E:Env) (ops:Array Oper) (pd:List Nat) (w0:World) (C:Ctx) (is:List Nat) (l:Array Bool) (f:Bool) (σ:St) (fuel:Nat) (A:Cells) (a:Act) (w:World) (X:FP) (F:Nat->FP) (D:List Nat) (L:Array Bool) (er:List (Nat×Nat)) (RC:List (Nat×Nat×Nat×Nat×List Value)):Prop where
 h:Rel P C A X σ a w F
 pf:PF P E ops A a w D X
 nd:D.Nodup
 M6:∀ j ∈ D,j ∈ pd
 dl:∀ j ∈ D,l.getD j false=false
 rh:∀ j ∈ D,j ∈ is
 cov:∀ j ∈ pd,l.getD j false=true\/j ∈ is
 cnt:(is.filter λk=>decide (k ∉ D)).length<=fuel
 cl:Ep .any ops L
 hS:(∀ d,rH E ops d=true->L.getD d false=false)->Ext w0 w (λ_ _=>0)
 hf:f=true->w=w0/\pd=[]
 KL:l.size=ops.size
 CH:L.size=ops.size
 hL:∀ k,L.getD k false=true↔(l.getD k false=true\/k ∈ D)
 W4:is.Nodup
 W5:∀ k,k < ops.size->l.getD k false=true\/k ∈ is
 io:∀ k ∈ is,l.getD k false=false
 rc:∀ e ∈ RC,RE ops er L a w e
theorem wW {l:Array Bool} {k:Nat} (h:k < l.size):l.getD k true=l.getD k false:=by simp[h]
theorem i7 {l:Array Bool} {i k:Nat} (hi:i < l.size):(l.setIfInBounds i true).getD k false=true↔(k=i\/l.getD k false=true):=by
 by_cases hk:i=k
 ·subst hk;simp[hi]
 ·rw[getD_set_ne false hk];constructor
  ·exact .inr
  ·rintro (h | h)
   ·exact absurd h.symm hk
   ·exact h
theorem RD {D:List Nat} {j:Nat} (hD:j ∉ D):∀ (is:List Nat),j ∈ is->(is.filter λk=>decide (k ∉ j::D)).length+1<=(is.filter λk=>decide (k ∉ D)).length:=by
 have hle:∀ (is:List Nat),(is.filter λk=>decide (k ∉ j::D)).length<=(is.filter λk=>decide (k ∉ D)).length:=by
  intro is
  induction is with
  | nil=>exact aH _
  | cons i is ih=>
   simp only[fK];by_cases h1:i ∈ D
   ·have h2:i ∈ j::D:=by simp[h1]
    simp only[h1,h2,fG,aG,aF,aS];exact ih
   ·by_cases h2:i ∈ j::D
    ·simp only[h1,h2,fG,eF,aG,aI,aF,aS,aJ,bM];omega
    ·simp only[h1,h2,eF,aI,aJ,bM];omega
 intro is
 induction is with
 | nil=>intro h;cases h
 | cons i is ih=>
  intro h;simp only[fK];by_cases ul:i=j
  ·subst ul;have h2:i ∈ i::D:=by simp
   simp only[hD,h2,fG,eF,aG,aI,aF,aS,aJ,bM];have:=hle is;omega
  ·have h3:j ∈ is:=by
    rcases aY.1 h with e | e
    ·exact absurd e.symm ul
    ·exact e
   have:=ih h3;by_cases h1:i ∈ D
   ·have h2:i ∈ j::D:=by simp[h1]
    simp only[h1,h2,fG,aG,aF,aS];exact this
   ·have h2:i ∉ j::D:=by simp[h1,ul]
    simp only[h1,h2,eF,aI,aJ,bM];omega
section
variable {ops:Array Oper} {pd:List Nat} {w0:World} {is:List Nat} {l L:Array Bool} {f:Bool} {fuel:Nat} {D:List Nat} {i:Nat} {er:List (Nat×Nat)} {RC:List (Nat×Nat×Nat×Nat×List Value)}
theorem Inv.Jx (v:Inv P E ops pd w0 C is l f σ fuel A a w X F D L er RC) (hi:i ∈ Region.ready .any ops l) (hD:i ∉ D):i ∈ Region.ready .any ops L:=by
 obtain ⟨h0,o,ho,t7⟩:=mem_ready.1 hi;have a_:i < ops.size:=(bS.1 ho).1;refine mem_ready.2 ⟨?_,o,ho,λe he hb=>(v.hL _).2 (.inl (t7 e he hb))⟩;rw[wW (by rw[v.CH];exact a_)];rw[wW (by rw[v.KL];exact a_)] at h0
 cases hh:L.getD i false with
 | false=>rfl
 | true=>
  rcases (v.hL i).1 hh with h1 | h1
  ·rw[h0] at h1;cases h1
  ·exact absurd h1 hD
theorem Inv.Ha (v:Inv P E ops pd w0 C is l f σ fuel A a w X F D L er RC) {j:Nat} {S:List Nat} (hS:∀ k ∈ D,k ∈ S) (hj:j ∈ Region.ready .any ops L) (hjS:j ∉ S):j ∈ Region.ready .any ops (Ds l S):=by
 obtain ⟨h0,o,ho,t7⟩:=mem_ready.1 hj;have a_:j < ops.size:=(bS.1 ho).1;refine mem_ready.2 ⟨?_,o,ho,λe he hb=>?_⟩
 ·rw[E4,aV (λh=>hjS h.1),wW (by rw[v.KL];exact a_)];rw[wW (by rw[v.CH];exact a_)] at h0
  cases hh:l.getD j false with
  | false=>rfl
  | true=>rw[(v.hL j).2 (.inl hh)] at h0;cases h0
 ·rw[E4];have h1:=t7 e he hb;rcases (v.hL _).1 h1 with h2 | h2
  ·split
   ·rfl
   ·exact h2
  ·have a_:e.on < L.size:=by
    rcases cG e.on L.size with h' | h'
    ·exact h'
    ·simp[dX h'] at h1
   rw[aR ⟨hS _ h2,by rw[v.KL,<- v.CH];exact a_⟩]
theorem Inv.KM (v:Inv P E ops pd w0 C is l f σ fuel A a w X F D L er RC) {j:Nat} (h:L.getD j true=false):j ∉ D/\l.getD j false=false/\l.getD j true=false:=by
 have a_:j < L.size:=by
  rcases cG j L.size with h' | h'
  ·exact h'
  ·simp[dX h'] at h
 rw[wW a_] at h
 have h1:l.getD j false=false:=by
  cases hh:l.getD j false with
  | false=>rfl
  | true=>rw[(v.hL j).2 (.inl hh)] at h;cases h
 have h2:j ∉ D:=λhD=>by
  rw[(v.hL j).2 (.inr hD)] at h;cases h
 exact ⟨h2,h1,by rw[wW (by rw[v.KL,<- v.CH];exact a_)];exact h1⟩
theorem Inv.next (v:Inv P E ops pd w0 C (i::is) l f σ (fuel+1) A a w X F D L er RC) (hD:i ∉ D) (hr:i ∈ Region.ready .any ops L) {C2:Ctx} {f2:Bool} {mT:St} {A2:Cells} {a2:Act} {w2:World} {F2:Nat->FP}
  (h2:Rel P C2 A2 X mT a2 w2 F2) (hp:PF P E ops A2 a2 w2 D X) (hS2:(∀ d,rH E ops d=true->(L.setIfInBounds i true).getD d false=false)->Ext w0 w2 (λ_ _=>0)) (hf2:f2=true->w2=w0/\pd=[]) {RC2:List (Nat×Nat×Nat×Nat×List Value)} (hrc:∀ e ∈ RC2,RE ops er (L.setIfInBounds i true) a2 w2 e) :
  Inv P E ops pd w0 C2 is (l.setIfInBounds i true) f2 mT fuel A2 a2 w2 X F2 D (L.setIfInBounds i true) er RC2:=by
 obtain ⟨_,o,ho,_⟩:=mem_ready.1 hr;have a_:i < ops.size:=(bS.1 ho).1;have CI:i < l.size:=by rw[v.KL];exact a_
 have CJ:i < L.size:=by rw[v.CH];exact a_
 refine ⟨h2,hp,v.nd,v.M6,λj hj=>?_,λj hj=>?_,λj hj=>?_,?_,E2 v.cl hr,hS2,hf2,by simpa using v.KL,by simpa using v.CH,λk=>?_,(cS.1 v.W4).2,λk hk=>?_,λk hk=>?_,hrc⟩
 ·rw[getD_set_ne false (λe=>by subst e;exact hD hj)];exact v.dl j hj
 ·rcases aY.1 (v.rh j hj) with e | e
  ·subst e;exact absurd hj hD
  ·exact e
 ·rcases v.cov j hj with h | h
  ·exact .inl ((i7 CI).2 (.inr h))
  ·rcases aY.1 h with e | e
   ·exact .inl ((i7 CI).2 (.inl e))
   ·exact .inr e
 ·have:=v.cnt;simp only[fK,hD,eF,aI,aJ,bM] at this;omega
 ·rw[i7 CJ,i7 CI,v.hL];exact or_assoc.symm
 ·rcases v.W5 k hk with h | h
  ·exact .inl ((i7 CI).2 (.inr h))
  ·rcases aY.1 h with e | e
   ·exact .inl ((i7 CI).2 (.inl e))
   ·exact .inr e
 ·rw[getD_set_ne false (λe=>by subst e;exact (cS.1 v.W4).1 hk)];exact v.io k (aW _ hk)
theorem Inv.UH (v:Inv P E ops pd w0 C (i::is) l f σ fuel A a w X F D L er RC) (hD:i ∈ D) (un:i ∉ is) {mT:St} {X2:FP} {F2:Nat->FP} (h2:Rel P C A X2 mT a w F2) (hp:PF P E ops A a w (D.erase i) X2) :
  Inv P E ops pd w0 C is (l.setIfInBounds i true) f mT fuel A a w X2 F2 (D.erase i) L er RC:=by
 have CJ:i < L.size:=by
  have h1:=(v.hL i).2 (.inr hD);rcases cG i L.size with h' | h'
  ·exact h'
  ·simp[dX h'] at h1
 have CI:i < l.size:=by rw[v.KL,<- v.CH];exact CJ
 have Dl:∀ k,k ∈ D.erase i↔k≠i/\k ∈ D:=λk=>v.nd.mem_erase_iff;refine ⟨h2,hp,v.nd.erase _,λj hj=>v.M6 j ((Dl j).1 hj).2,λj hj=>?_,λj hj=>?_,λj hj=>?_,?_,v.cl,v.hS,v.hf,by simpa using v.KL,v.CH,λk=>?_,(cS.1 v.W4).2,λk hk=>?_,λk hk=>?_,v.rc⟩
 ·obtain ⟨h3,h4⟩:=(Dl j).1 hj;rw[getD_set_ne false (λe=>h3 e.symm)];exact v.dl j h4
 ·obtain ⟨h3,h4⟩:=(Dl j).1 hj;rcases aY.1 (v.rh j h4) with e | e
  ·exact absurd e h3
  ·exact e
 ·rcases v.cov j hj with h | h
  ·exact .inl ((i7 CI).2 (.inr h))
  ·rcases aY.1 h with e | e
   ·exact .inl ((i7 CI).2 (.inl e))
   ·exact .inr e
 ·have:=v.cnt;simp only[fK,hD,fG,aG,aF,aS] at this;refine bG (fW (cN List.length (List.filter_congr λk hk=>?_))) this;have:k≠i:=λe=>by subst e;exact un hk
  simp only[Dl,this,ne_eq,eF,dE]
 ·rw[v.hL,i7 CI,Dl];constructor
  ·rintro (h | h)
   ·exact .inl (.inr h)
   ·by_cases hk:k=i
    ·exact .inl (.inl hk)
    ·exact .inr ⟨hk,h⟩
  ·rintro ((h | h) | h)
   ·subst h;exact .inr hD
   ·exact .inl h
   ·exact .inr h.2
 ·rcases v.W5 k hk with h | h
  ·exact .inl ((i7 CI).2 (.inr h))
  ·rcases aY.1 h with e | e
   ·exact .inl ((i7 CI).2 (.inl e))
   ·exact .inr e
 ·rw[getD_set_ne false (λe=>by subst e;exact un hk)];exact v.io k (aW _ hk)
theorem unl {j:Nat} (a_:j < L.size) {k:Nat} (hu:(L.setIfInBounds j true).getD k false=false):L.getD k false=false:=by
 cases hl:L.getD k false with
 | false=>rfl
 | true=>rw[(i7 a_).2 (.inr hl)] at hu;cases hu
theorem Inv.Ba (v:Inv P E ops pd w0 C is l f σ fuel A a w X F D L er RC) (xC:CG E ops pd er=true) {j:Nat} {o':Oper} (hj:ops[j]?=some o') (uF:L.getD j false=false) {a2:Act} {w2:World}
  (ht:∀ d,o'.dst≠some d->tmp a2 d=tmp a d) (hh:∀ e ∈ RC,DV ops (L.setIfInBounds j true) e.2.1->Has w2 e.2.2.1 e.2.2.2.1 e.2.2.2.2):∀ e ∈ RC,RE ops er (L.setIfInBounds j true) a2 w2 e:=by
 intro e he;obtain ⟨h1,h2,o,t,x,d,h3,h4,h5,h6,h7,h8⟩:=v.rc e he;obtain ⟨_,_,o1,t1,x1,d1,g1,_,g2,g3,_,g4⟩:=xD xC h1;rw[h3] at g1;injection g1 with g1;subst g1;rw[h4] at g2;injection g2 with _ g2;injection g2 with g2;subst g2;rw[h5] at g3;injection g3 with g3;subst g3;have jx:j≠e.1:=λe'=>by rw[e'] at uF;rw[h2] at uF;cases uF
 obtain ⟨k1,k2⟩:=g4 j o' hj jx
 have k3:o'.dst≠some x:=λe'=>by
  have:=wV v.cl _ _ _ (k2 e') h2;rw[this] at uF;cases uF
 exact ⟨h1,by rw[getD_set_ne false jx];exact h2,o,t,x,d,h3,h4,h5,by rw[ht x k3];exact h6,by rw[ht d k1];exact h7,hh e he⟩
theorem Inv.still (v:Inv P E ops pd w0 C (i::is) l f σ fuel A a w X F D L er RC) (xC:CG E ops pd er=true) {iV:Nat} (Tc:Kc E.er iV=er) {o':Oper} (hj:ops[i]?=some o') (uF:L.getD i false=false) {C2:Ctx} {A2:Cells} {X2:FP} {mT:St} {a2:Act} {w2:World} {F2:Nat->FP} (h2:Rel P C2 A2 X2 mT a2 w2 F2)
  (ht:∀ d,o'.dst≠some d->tmp a2 d=tmp a d) (eo:H7 o'.op=false->Ext w w2 (λ_ _=>0)) (Mc:Kd E iV ops.toList i o' is mT=true):∀ e ∈ RC,DV ops (L.setIfInBounds i true) e.2.1->Has w2 e.2.2.1 e.2.2.2.1 e.2.2.2.2:=by
 intro e he hu;obtain ⟨g1,g2,o,t,x,d,g3,g4,g5,g6,g7,g8⟩:=v.rc e he;have CJ:i < L.size:=by rw[v.CH];exact (bS.1 hj).1
 have huL:DV ops L e.2.1:=hu.imp id λhu=>by
  cases hl:L.getD e.2.1 false with
  | false=>rfl
  | true=>rw[(i7 CJ).2 (.inr hl)] at hu;cases hu
 cases hm:H7 o'.op with
 | false=>exact (g8 huL).ext (eo hm)
 | true=>
  simp only[Kd,hm,Bool.true_or,aN,dP,Ua,Tc,bH] at Mc;have:=Mc _ g1;obtain ⟨W6,ny,o1,t1,x1,d1,k1,_,k2,k3,_,k4⟩:=xD xC g1;rw[g3] at k1;injection k1 with k1;subst k1;rw[g4] at k2;injection k2 with _ k2;injection k2 with k2;subst k2;rw[g5] at k3;injection k3 with k3;subst k3;have jx:i≠e.1:=λe'=>by rw[e'] at uF;rw[g2] at uF;cases uF
  have hl:l.getD e.1 false=true:=((v.hL e.1).1 g2).resolve_right λhD=>W6 (v.M6 _ hD)
  have Y5:is.any (Nat.beq e.1)=false:=by
   cases hb:is.any (Nat.beq e.1) with
   | false=>rfl
   | true=>
    have:=v.io e.1 (aW _ (rI.1 hb));rw[hl] at this;cases this
  have Y6:(is.any (Nat.beq e.2.1)||Nat.ble ops.toList.length e.2.1)=true:=by
   rcases cG e.2.1 ops.size with h9 | h9
   ·have acD:=huL.resolve_left Bys
    have hui:e.2.1≠i:=λe'=>by
     have:=hu.resolve_left Bys;rw[(i7 CJ).2 (.inl e')] at this;cases this
    rcases v.W5 _ h9 with IJ | IJ
    ·rw[(v.hL _).2 (.inl IJ)] at acD;cases acD
    ·rcases aY.1 IJ with W7 | W7
     ·exact absurd W7 hui
     ·rw[rI.2 W7,Bool.true_or]
   ·have:Nat.ble ops.toList.length e.2.1=true:=by simpa using h9
    rw[this,Bool.or_true]
  rw[Y5,Y6,aN,dP,dP,dN,g3] at this;simp only at this;obtain ⟨q1,q2⟩:=k4 i o' hj jx
  have q3:o'.dst≠some x:=λe'=>by
   have:=wV v.cl _ _ _ (q2 e') g2;rw[this] at uF;cases uF
  have hx:tmp a2 x=.pointer (some ⟨e.2.2.1,e.2.2.2.1,none⟩):=by rw[ht x q3];exact g6
  obtain ⟨z1,z2⟩:=W3 h2 this g4 g5 hx;rw[ht d q1,g7] at z1;exact z1
theorem Inv.early (hE:uq P E) (yX:G_ E ops pd=true) {iV:Nat} (W6:pk E.pd iV=pd) (xC:CG E ops pd er=true) (t7:Ub E iV ops.toList is σ=true) (hC:∀ b i,C.A0 b i->C.F0 b i=0)
  (v:Inv P E ops pd w0 C is l f σ (fuel+1) A a w X F D L er RC) {j:Nat} (hj:j ∈ pd) (hr:j ∈ Region.ready .any ops L) {S:Array Bool->World->Prop}
  (hS:∀ w',Ext w w' (λ_ _=>0)->((∀ d,rH E ops d=true->(L.setIfInBounds j true).getD d false=false)->Ext w0 w' (λ_ _=>0))->S (L.setIfInBounds j true) w')
  (next:∀ (a':Act) (w':World) (X':FP),Inv P E ops pd w0 C is l f σ fuel A a' w' X' F (j::D) (L.setIfInBounds j true) er RC->wB P .any ops Q S fuel (L.setIfInBounds j true) a' w') :
  wpOp P ops Q j (λa' w'=>S (L.setIfInBounds j true) w'/\wB P .any ops Q S fuel (L.setIfInBounds j true) a' w') a w:=by
 obtain ⟨o,d,s,ho,hg,hd,hs,jx⟩:=DX yX hj;have CJ:j < L.size:=by rw[v.CH];exact (bS.1 ho).1
 obtain ⟨hjD,hjl,_⟩:=v.KM (mem_ready.1 hr).1;have Y7:j ∈ is:=(v.cov j hj).resolve_left (by rw[hjl];simp)
 have bf:LT σ d=true:=by
  unfold Ub at t7;rw[W6] at t7;have:=bH.1 t7 j hj;rw[dN,ho,rI.2 Y7] at this
  simpa [hd] using this
 obtain ⟨val,w',Fj,jL,eo,h2,hPS⟩:=Y4 (o:=o) v.h hE.ti hs bf
 have wC:(∀ d,rH E ops d=true->(L.setIfInBounds j true).getD d false=false)->Ext w0 w' (λ_ _=>0):=λIL=>(v.hS λd' uC=>by
  cases hh:L.getD d' false with
  | false=>rfl
  | true=>rw[<-IL d' uC,(i7 CJ).2 (.inr hh)]).trans eo (λ_ _ _ _=>rfl)
 have hw:Region.wanted o (yielded ops a.tmps)=true:=by simp[Region.wanted,hg]
 unfold wpOp;simp only[ho,hw,aJ];refine .inl (pq jL ⟨hS w' eo wC,?_⟩);rw[hd];have hdn:d < σ.n:=(M3 bf).1
 refine next _ _ (λb i=>X b i+Fj b i) ⟨h2,⟨o,d,s,Fj,X,ho,hd,hs,?_,λb i=>aH _,?_⟩,cS.2 ⟨hjD,v.nd⟩,?_,?_,?_,v.cov,?_,E2 v.cl hr,wC,λhf=>?_,v.KL,by simpa using v.CH,λk=>?_,v.W4,v.W5,v.io,v.Ba xC ho (by have:=(mem_ready.1 hr).1;rw[wW CJ] at this;exact this) (λd' uC=>by rw[pp,aV (λe=>uC (by rw[hd,e.1]))]) (λe he hu=>by
  obtain ⟨_,_,_,_,_,_,_,_,_,_,_,q⟩:=v.rc e he
  exact (q (hu.imp id λhu=>unl CJ hu)).ext eo)⟩
 ·have:tmp (a.put (some d) val) d=val:=by rw[pp,v.h.size,aR ⟨rfl,hdn⟩]
  rw[this];exact hPS
 ·refine PF.nD (λ_ _ h=>h) (λb i ha u hu=>eo.cell b i (yW hu) rfl u hu) eo.wg D (λk hk o' d' Du uC=>?_) (λb i hp=>⟨λu hu=>eo.cell b i (yW hu) rfl u hu,eo.Bc b i (v.h.k9 b i (.inl Bys))⟩) v.pf;have:d'≠d:=λe=>jx k o' Du (λe'=>by subst e';exact hjD hk) (by rw[uC,e]);rw[pp,aV (λh=>this h.1.symm)]
 ·intro k hk;rcases aY.1 hk with e | e
  ·subst e;exact hj
  ·exact v.M6 k e
 ·intro k hk;rcases aY.1 hk with e | e
  ·subst e;exact hjl
  ·exact v.dl k e
 ·intro k hk;rcases aY.1 hk with e | e
  ·subst e;exact Y7
  ·exact v.rh k e
 ·have:=RD hjD is Y7;have:=v.cnt;omega
 ·have:=(v.hf hf).2;rw[this] at hj;cases hj
 ·rw[i7 CJ,v.hL,aY];constructor
  ·rintro (h | h | h)
   ·exact .inr (.inl h)
   ·exact .inl h
   ·exact .inr (.inr h)
  ·rintro (h | h | h)
   ·exact .inr (.inl h)
   ·exact .inl h
   ·exact .inr (.inr h)
theorem W8 (hE:uq P E) {iV:Nat} (dp:∀ o ∈ ops.toList,sL P o.op=true) {K:St->Option R} (hP:∀ c a w,¬ Q (.panic c) a w) (E3:Region.noSelect ops=true) (yX:G_ E ops pd=true) (W6:pk E.pd iV=pd) {er:List (Nat×Nat)} (Tc:Kc E.er iV=er) (xC:CG E ops pd er=true) :
  ∀ (is:List Nat) (l:Array Bool) (f:Bool) {C:Ctx} {σ:St},(∀ a w,Nx P C K x a w->Q .normal a w)->(∀ b i,C.A0 b i->C.F0 b i=0)->CF E iV ops pd is l f=true->GI E iV ops.toList is σ K=some x ->
   ∀ (fuel:Nat) {A:Cells} {a:Act} {w:World} {X:FP} {F:Nat->FP} {D:List Nat} {L:Array Bool} {RC:List (Nat×Nat×Nat×Nat×List Value)},Inv P E ops pd w0 C is l f σ fuel A a w X F D L er RC->wB P .any ops Q (SD E ops w0 C RC) fuel L a w:=by
 intro is
 induction is with
 | nil=>
  intro l f C σ hQ hC hg hk fuel A a w X F D L RC v;simp only[CF,bD] at hg
  have hD:D=[]:=by
   cases D with
   | nil=>rfl
   | cons j D=>have:=v.rh j (by simp);cases this
  subst hD
  have hr:Region.ready .any ops L=[]:=by
   rw[List.eq_nil_iff_forall_not_mem];intro j hj;have:=v.Ha (S:=[]) (λ_ h=>h) hj (by simp);rw[Ds,hg] at this;cases this
  have hq:=hQ a w ⟨σ,hk,A,F,v.h.less λ_ _=>aZ _⟩
  cases fuel with
  | zero=>exact ⟨hr,hq⟩
  | succ fuel=>exact ⟨λ_=>hq,by rw[hr];simp⟩
 | cons i is ih=>
  intro l f C σ hQ hC hg hk;simp only[GI] at hk;split at hk
  ·cases hk
  rename_i t7;simp only[CF] at hg
  cases hi:ops[i]? with
  | none=>rw[hi] at hg;cases hg
  | some o=>
  rw[dN,hi] at hk;rw[hi] at hg;simp only at hk hg;have OZ:i < ops.size:=(bS.1 hi).1;have rP:o ∈ ops.toList:=bI (i:=i) (by simpa using hi)
  have UH:∀ (fuel:Nat) {A:Cells} {a:Act} {w:World} {X:FP} {F:Nat->FP} {D:List Nat} {L:Array Bool} {RC:List (Nat×Nat×Nat×Nat×List Value)},Inv P E ops pd w0 C (i::is) l f σ fuel A a w X F D L er RC->i ∈ D->wB P .any ops Q (SD E ops w0 C RC) fuel L a w:=by
   intro fuel A a w X F D L RC v hD;have Er:=v.M6 i hD;rw[rI.2 Er] at hg;simp only[aD,cH] at hg;obtain ⟨⟨⟨un,_⟩,_⟩,hg⟩:=hg;have un:i ∉ is:=λhm=>by rw[rI.2 hm] at un;cases un
   obtain ⟨o',d',s',Du,hgd,uC,hs',_⟩:=DX yX Er;rw[hi] at Du;injection Du with Du;subst Du;obtain ⟨o2,d,s,Fi,X',g1,g2,g3,g4,g5,g6⟩:=PF.take D hD v.pf;rw[hi] at g1;injection g1 with g1;subst g1;simp only[GH,hgd] at hk;split at hk
   ·cases hk
   rw[Y3 g3,g2] at hk;split at hk;rotate_left
   ·cases hk
   obtain ⟨F2,h2⟩:=v.h.cg (some d) g4.slot g5 g4.whole;rw[Pe] at h2;exact ih _ f hQ hC hg hk fuel (v.UH hD un h2 g6)
  intro fuel
  induction fuel with
  | zero=>
   intro A a w X F D L RC v;by_cases hD:i ∈ D
   ·exact UH 0 v hD
   ·have:=v.cnt;simp[fK,hD] at this
  | succ fuel ihf=>
  intro A a w X F D L RC v;by_cases hD:i ∈ D
  ·exact UH _ v hD
  have KN:∀ e ∈ RC,DV ops L e.2.1->Has w e.2.2.1 e.2.2.2.1 e.2.2.2.2:=λe he=>by obtain ⟨_,_,_,_,_,_,_,_,_,_,_,q⟩:=v.rc e he;exact q
  have aeM:∀ w',Ext w w' (λ_ _=>0)->∀ (l':Array Bool),(∀ k,l'.getD k false=false->L.getD k false=false)->((∀ d,rH E ops d=true->l'.getD d false=false)->Ext w0 w' (λ_ _=>0))->SD E ops w0 C RC l' w':=λw' um l' yx hh=>⟨hh,(λb i ha u hu=>by
   have:=v.h.ext.cell b i (yW hu) (hC b i ha) u hu
   exact um.cell b i (yW this) rfl u this),λe he hu=>(KN e he (hu.imp id (yx _))).ext um⟩
  have W9:∀ j,j ∈ pd->j ∈ Region.ready .any ops L->wpOp P ops Q j (λa' w'=>SD E ops w0 C RC (L.setIfInBounds j true) w'/\wB P .any ops Q (SD E ops w0 C RC) fuel (L.setIfInBounds j true) a' w') a w:=λj hj hr=>
   v.early hE yX W6 xC t7 hC hj hr (λw' um hh=>aeM w' um _ (λk hk=>unl (by rw[v.CH];obtain ⟨_,oj,KJ,_⟩:=mem_ready.1 hr;exact (bS.1 KJ).1) hk) hh) (λa' w' X' v'=>ihf v')
  have Pg:SD E ops w0 C RC L w:=⟨v.hS,(λb i ha u hu=>v.h.ext.cell b i (yW hu) (hC b i ha) u hu),KN⟩
  cases CK:pd.any (Nat.beq i) with
  | true=>
   rw[CK] at hg;simp only[aD,cH,bH] at hg;obtain ⟨⟨⟨un,Dv⟩,Mc⟩,hg⟩:=hg;have va:i ∈ Region.ready .any ops L:=v.Jx (by simpa using Dv) hD;refine ⟨λh0=>(by rw[h0] at va;cases va),λj hj=>W9 j ?_ hj⟩
   by_cases hjS:j ∈ pd.filter (λj=>!Nat.beq i j)
   ·exact (List.mem_filter.1 hjS).1
   ·refine rI.1 (Mc j (v.Ha (λk hk=>List.mem_filter.2 ⟨v.M6 k hk,?_⟩) hj hjS))
    cases hb:Nat.beq i k with
    | false=>rfl
    | true=>rw[cT hb] at hD;exact absurd hk hD
  | false=>
  rw[CK] at hg;simp only at hg;have afM:i ∉ pd:=λhm=>by rw[rI.2 hm] at CK;cases CK
  have Y8:∀ j ∈ D,∀ o' d,ops[j]?=some o'->o'.dst=some d->o.dst≠some d:=λj hj o' d Du uC=>by
   obtain ⟨o2,d2,s2,g1,_,g2,_,g3⟩:=DX yX (v.M6 j hj);rw[Du] at g1;injection g1 with g1;subst g1;rw[uC] at g2;injection g2 with g2;subst g2;exact g3 i o hi (λe=>by subst e;exact hD hj)
  obtain ⟨b,qE,hk,h1,hw⟩:=Pb v.h hk
  have sK:(match (generalizing:=false) b with
    | true=>sV E iV i o qE λσ=>match Kd E iV ops.toList i o is σ with
     | true=>GI E iV ops.toList is σ K
     | false=>none
    | false=>GI E iV ops.toList is (qE.cg o.dst (.s8 [])) K)=some x/\(b=true->Ox E iV i=true->Ow qE o=true):=by
   cases b with
   | true=>
    simp only at hk
    cases hn:(Ox E iV i&&!Ow qE o) with
    | true=>rw[hn] at hk;cases hk
    | false=>
     rw[hn] at hk;exact ⟨hk,λ_ Kx=>by rw[Kx] at hn;simpa using hn⟩
   | false=>exact ⟨hk,λe=>by cases e⟩
  obtain ⟨hk,aeN⟩:=sK
  have zT:∀ (val:Value),∀ j ∈ D,∀ o' d,ops[j]?=some o'->o'.dst=some d->tmp (a.put o.dst val) d=tmp a d:=λval j hj o' d Du uC=>by
   have:=Y8 j hj o' d Du uC
   cases hod:o.dst with
   | none=>rfl
   | some e=>rw[pp,aV (λh=>this (by rw[hod,h.1]))]
  split at hg
  ·rename_i aaI;simp only[aD,dQ,cH,bH,cD] at aaI;obtain ⟨qS,⟨N3,Ph⟩,Dv⟩:=aaI;have va:i ∈ Region.ready .any ops L:=v.Jx (by simpa using Ph) hD;have KO:∀ j oj,ops[j]?=some oj->j≠i->L.getD j true=false->(∀ e ∈ oj.after,Region.binds .any e=true->e.on≠i)->o.apart ops oj=true:=λj oj KJ po uF rD=>Region.free_spec hi N3 j oj KJ po (v.KM uF).2.2 rD;have xF:rH E ops i=false:=by simp[rH,hi,qS]
   have IL:∀ (l':Array Bool),(∀ d,rH E ops d=true->(l'.setIfInBounds i true).getD d false=false)↔∀ d,rH E ops d=true->l'.getD d false=false:=λl'=>by
    constructor
    ·intro hh d hd;have:=hh d hd;rw[getD_set_ne false (λe=>by subst e;rw[xF] at hd;cases hd)] at this;exact this
    ·intro hh d hd;rw[getD_set_ne false (λe=>by subst e;rw[xF] at hd;cases hd)];exact hh d hd
   have hSD:∀ (C:Ctx) (RC:List (Nat×Nat×Nat×Nat×List Value)),(∀ e ∈ RC,(e.1,e.2.1) ∈ er)->∀ l w,SD E ops w0 C RC (l.setIfInBounds i true) w↔SD E ops w0 C RC l w:=λC RC iZ l' w'=>by
    unfold SD;rw[IL];refine and_congr iL (and_congr iL (forall_congr' λe=>forall_congr' λhe=>?_))
    have jx:i≠e.2.1:=λe'=>by
     rcases (xD xC (iZ e he)).2.1 with h | ⟨h,_⟩
     ·omega
     ·rw[<-e',xF] at h;cases h
    unfold DV;rw[getD_set_ne false jx]
   have iZ:∀ e ∈ RC,(e.1,e.2.1) ∈ er:=λe he=>(v.rc e he).1
   have adA:∀ {l':Array Bool} {u:Nat},(∃ j,(j,u) ∈ er)->(DV ops (l'.setIfInBounds i true) u->DV ops l' u):=λ{l' u} ⟨j,hj⟩ hu=>by
    have jx:i≠u:=λe'=>by
     rcases (xD xC hj).2.1 with h | ⟨h,_⟩
     ·omega
     ·rw[<-e',xF] at h;cases h
    unfold DV at hu ⊢
    rwa [getD_set_ne false jx] at hu
   have hS1:(∀ d,rH E ops d=true->(L.setIfInBounds i true).getD d false=false)->Ext w0 w (λ_ _=>0):=λhd=>v.hS ((IL L).1 hd)
   have Jy:L.getD i false=false:=by
    have h0:=(mem_ready.1 va).1;rw[wW (by rw[v.CH];exact OZ)] at h0;exact h0
   have If:∀ (val:Value),∀ e ∈ RC,RE ops er (L.setIfInBounds i true) (a.put o.dst val) w e:=λval=>v.Ba xC hi Jy (λd hd=>by
    cases ho:o.dst with
    | none=>rfl
    | some d'=>rw[pp,aV (λe=>hd (by rw[ho,e.1]))]) (λe he hu=>KN e he (adA ⟨_,iZ e he⟩ hu))
   cases b with
   | true=>
    simp only at hk
    cases acE:Ox E iV i with
    | true=>
     obtain ⟨C',c1,c2,c3,c4,c5⟩:=h1.abm;obtain ⟨C1,f1,f2⟩:=c4.frame;obtain ⟨val,jL,mT,nM,A2,F2,h2⟩:=abn f1 hE (dp o rP) qS (aeN rfl acE) hk;simp only at nM;split at nM;rotate_left
     ·cases nM
     have hC':∀ b i,C'.A0 b i->C'.F0 b i=0:=λb i ha=>c3 b i (by rw[<-c2];exact ha);obtain ⟨e1,e2,e3,e4,e5⟩:=f2 h2
     refine DW (S:=SD E ops w0 C' RC) (λl' w' hs=>⟨hs.1,(λb i ha u hu=>hs.2.1 b i (by rw[c2];exact h1.a0 b i ha) u (by rw[c1];exact h1.ext.cell b i (yW hu) (hC b i ha) u hu)),hs.2.2⟩) _ _ _ _
      (y9 hi (Region.noSelect_spec E3) (λc a w hq=>(hP c _ _ hq).elim) (hSD C' RC iZ) fuel L a w KO va v.cl (.inl ⟨hw,λw' wC=>jL w' λb i ha u hu=>?_⟩) ⟨v.hS,(λb i ha u hu=>by rw[c1] at hu;exact hu),KN⟩
      (ih _ f (λa w ⟨Dn,q1,A3,F3,q2⟩=>hQ a w ⟨Dn,q1,A3,F3,c5 q2⟩) hC' hg nM fuel (v.next hD va e1 (PF.nD e2 e3 e4 D (zT val) e5 v.pf) hS1 v.hf (If val))))
     obtain ⟨l',Ck,uF,wC⟩:=wC;exact wC.2.1 b i (by rw[c2];exact ha) u (by rw[c1];exact hu)
    | false=>
    cases Pi:T_ E iV i with
    | true=>
     obtain ⟨u,N4⟩:∃ u,(i,u) ∈ er:=by
      unfold T_ at Pi;rw[Tc] at Pi;obtain ⟨e,he1,he2⟩:=eX.1 Pi;rw[cT he2];exact ⟨e.2,he1⟩
     obtain ⟨_,hu0,o1,t1,x1,d1,g1,_,g2,g3,g4,_⟩:=xD xC N4;rw[hi] at g1;injection g1 with g1;subst g1;obtain ⟨C1,f1,f2⟩:=h1.frame;obtain ⟨b0,off,aeO,cs,q1,q2,q3,q4⟩:=abp f1 hE (dp o rP) g2 hk;obtain ⟨val,jL,mT,nM,A2,F2,h2⟩:=N2 hE f1 (dp o rP) qS hk
     have OP:val=aeO:=by
      have r1:=jL w λ_=>Ext.refl _ _;have r2:=q4 w q2;rw[r1] at r2;injection r2 with r2 _;injection r2
     subst OP;simp only at nM;split at nM;rotate_left
     ·cases nM
     rename_i N5;obtain ⟨e1,e2,e3,e4,e5⟩:=f2 h2
     have xY:RE ops er (L.setIfInBounds i true) (a.put o.dst val) w (i,u,b0,off,cs):=by
      refine ⟨N4,(i7 (by rw[v.CH];exact OZ)).2 (.inl rfl),o,t1,x1,d1,hi,g2,g3,?_,?_,λ_=>q2⟩
      ·rw[g3,pp,aV (λe=>g4 e.1.symm)];exact q1
      ·simp only[Kd,Pi,Bool.or_true,aN,dP,Ua,Tc,bH] at N5;have h9:=N5 _ N4
       have Y5:is.any (Nat.beq i)=false:=by
        cases hb:is.any (Nat.beq i) with
        | false=>rfl
        | true=>exact absurd (rI.1 hb) (cS.1 v.W4).1
       have Y6:(is.any (Nat.beq u)||Nat.ble ops.toList.length u)=true:=by
        rcases cG u ops.size with k1 | k1
        ·obtain ⟨k2,_,k3⟩:=hu0.resolve_left Bys;rcases v.W5 u k1 with k4 | k4
         ·have k5:=(v.hL u).2 (.inl k4);have:=wV v.cl _ _ _ k3 k5;rw[Jy] at this;cases this
         ·rcases aY.1 k4 with k5 | k5
          ·rw[k5,xF] at k2;cases k2
          ·rw[rI.2 k5,Bool.true_or]
        ·have:Nat.ble ops.toList.length u=true:=by simpa using k1
         rw[this,Bool.or_true]
       rw[Y5,Y6,aN,dP,dP,dN,hi] at h9;simp only at h9;have IJ:=(W3 h2 h9 g2 g3 (b:=b0) (off:=off) (by rw[g3,pp,aV (λe=>g4 e.1.symm)];exact q1)).2;rw[g3] at IJ ⊢;rw[pp,aR ⟨rfl,by simpa [Act.put] using IJ⟩];exact q3
     refine DW (S:=SD E ops w0 C ((i,u,b0,off,cs)::RC)) (λl' w' hs=>⟨hs.1,hs.2.1,λe he=>hs.2.2 e (aW _ he)⟩) _ _ _ _
      (y9 hi (Region.noSelect_spec E3) (λc a w hq=>(hP c _ _ hq).elim) (hSD C _ (λe he=>by rcases aY.1 he with rfl | he;exact N4;exact iZ e he)) fuel L a w KO va v.cl (.inl ⟨hw,λw' wC=>?_⟩) ⟨Pg.1,Pg.2.1,λe he hu=>?_⟩
      (ih _ f hQ hC hg nM fuel (v.next hD va e1 (PF.nD e2 e3 e4 D (zT val) e5 v.pf) hS1 v.hf (λe he=>?_))))
     ·obtain ⟨l',Ck,uF,wC⟩:=wC;refine q4 w' (wC.2.2 _ bB ?_)
      rcases hu0 with k1 | ⟨_,_,k3⟩
      ·exact .inl k1
      ·right;show l'.getD u false=false
       cases hld:l'.getD u false with
       | false=>rfl
       | true=>
        have:=wV Ck _ _ _ k3 hld;rcases cG i l'.size with h' | h'
        ·simp[h'] at this uF;rw[uF] at this;cases this
        ·simp[dX h'] at this
     ·rcases aY.1 he with rfl | he
      ·exact q2
      ·exact KN e he hu
     ·rcases aY.1 he with rfl | he
      ·exact xY
      ·exact If val e he
    | false=>
    obtain ⟨C1,f1,f2⟩:=h1.frame;obtain ⟨val,jL,mT,nM,A2,F2,h2⟩:=N2 hE f1 (dp o rP) qS hk;simp only at nM;split at nM;rotate_left
    ·cases nM
    obtain ⟨e1,e2,e3,e4,e5⟩:=f2 h2;refine y9 hi (Region.noSelect_spec E3) (λc a w hq=>(hP c _ _ hq).elim) (hSD C RC iZ) fuel L a w KO va v.cl (.inl ⟨hw,λw' wC=>jL w' λhr=>?_⟩) Pg (ih _ f hQ hC hg nM fuel (v.next hD va e1 (PF.nD e2 e3 e4 D (zT val) e5 v.pf) hS1 v.hf (If val)))
    rcases Dv with ((Dv | Dv) | Dv) | ⟨ol,aeP⟩
    ·rw[hr] at Dv;cases Dv
    ·rw[acE] at Dv;cases Dv
    ·rw[Pi] at Dv;cases Dv
    ·rw[(v.hf ol).1];obtain ⟨l',Ck,uF,wC⟩:=wC;refine wC.1 λd hd=>?_
     have W_:d < ops.size:=by
      unfold rH at hd;split at hd
      ·rename_i od hod;exact (bS.1 hod).1
      ·cases hd
     rcases aeP d W_ with hh | hh
     ·rw[hd] at hh;cases hh
     ·cases hld:l'.getD d false with
      | false=>rfl
      | true=>
       have:=wV Ck _ _ _ hh hld;rcases cG i l'.size with h' | h'
       ·simp[h'] at this uF;rw[uF] at this;cases this
       ·simp[dX h'] at this
   | false=>
    obtain ⟨F2,h2⟩:=Mb h1 o;exact y9 hi (Region.noSelect_spec E3) (λc a w hq=>(hP c _ _ hq).elim) (hSD C RC iZ) fuel L a w KO va v.cl (v:=undef) (.inr ⟨hw,rfl⟩) Pg (ih _ f hQ hC hg hk fuel (v.next hD va h2 (PF.nD (λ_ _ h=>h) (λ_ _ _ _ h=>h) (λ_ _ h=>h) D (zT undef) (λ_ _ _=>⟨λ_ h=>h,rfl⟩) v.pf) hS1 v.hf (If undef)))
  ·simp only[aD,bH] at hg;obtain ⟨⟨Ph,Mc⟩,hg⟩:=hg;have va:i ∈ Region.ready .any ops L:=v.Jx (by simpa using Ph) hD;have UI:i < L.size:=by rw[v.CH];exact OZ
   have Jy:L.getD i false=false:=by
    have h0:=(mem_ready.1 va).1;rw[wW UI] at h0;exact h0
   refine ⟨λh0=>(by rw[h0] at va;cases va),λj hj=>?_⟩
   by_cases hjp:j ∈ pd
   ·exact W9 j hjp hj
   have ul:i=j:=cT (Mc j (v.Ha v.M6 hj hjp));subst ul;unfold wpOp;simp only[hi,hw]
   have hold:∀ {d},(L.setIfInBounds i true).getD d false=false->L.getD d false=false:=λ{d} hh=>by
    cases hl:L.getD d false with
    | false=>rfl
    | true=>rw[(i7 UI).2 (.inr hl)] at hh;cases hh
   have Jo:(L.setIfInBounds i true).getD i false=true:=(i7 UI).2 (.inl rfl)
   cases b with
   | true=>
    simp only[aJ];obtain ⟨C1,f1,f2⟩:=h1.frame;have Dt:∀ w',(∀ b i,A b i->∀ u,ce w b i=some u->ce w' b i=some u)->∀ b i,C.A0 b i->∀ u,ce C.w0 b i=some u->ce w' b i=some u:=λw' he b i ha u hu=>he b i (v.h.a0 b i ha) u (v.h.ext.cell b i (yW hu) (hC b i ha) u hu)
    cases qS:xq E o.op with
    | true=>
     refine .inl (Oper.wp_mono (λa' w' hn=>?_) (WZ (abo (N2 hE f1 (dp o rP) qS hk))));obtain ⟨ht,hww,mT,nM,A2,F2,h2⟩:=hn;subst hww;simp only at nM;split at nM;rotate_left
     ·cases nM
     obtain ⟨e1,e2,e3,e4,e5⟩:=f2 h2;have wC:(∀ d,rH E ops d=true->(L.setIfInBounds i true).getD d false=false)->Ext w0 w (λ_ _=>0):=λhd=>v.hS λd IL=>hold (hd d IL);exact ⟨⟨wC,Dt _ e3,λe he hu=>KN e he (hu.imp id hold)⟩,ih _ false hQ hC hg nM fuel (v.next hD va e1 (PF.nD e2 e3 e4 D (λj hj o' d Du uC=>ht d (Y8 j hj o' d Du uC)) e5 v.pf) wC (λe=>by cases e) (v.Ba xC hi Jy ht λe he hu=>KN e he (hu.imp id hold)))⟩
    | false=>
    refine .inl (Oper.wp_mono (λa' w' hn=>?_) (WZ (WY hE f1 (dp o rP) qS hk)));obtain ⟨ht,⟨mT,nM,A2,F2,h2⟩,hq⟩:=hn;simp only at nM;split at nM;rotate_left
    ·cases nM
    rename_i N5;obtain ⟨e1,e2,e3,e4,e5⟩:=f2 h2
    have wC:(∀ d,rH E ops d=true->(L.setIfInBounds i true).getD d false=false)->Ext w0 w' (λ_ _=>0):=λhd=>by
     have hqq:quiet E o.op=true:=by
      cases hqq:quiet E o.op with
      | true=>rfl
      | false=>
       have hdj:rH E ops i=true:=by simp[rH,hi,qS,hqq]
       have:=hd i hdj;rw[Jo] at this;cases this
     exact (v.hS λd IL=>hold (hd d IL)).trans (hq hqq) (λ_ _ _ _=>rfl)
    have acF:=v.still xC Tc hi Jy h2 ht (λhm=>hq (quiet_of hk hm qS)) N5;exact ⟨⟨wC,Dt _ e3,acF⟩,ih _ false hQ hC hg nM fuel (v.next hD va e1 (PF.nD e2 e3 e4 D (λj hj o' d Du uC=>ht d (Y8 j hj o' d Du uC)) e5 v.pf) wC (λe=>by cases e) (v.Ba xC hi Jy ht acF))⟩
   | false=>
    simp only[aF,aS];obtain ⟨F2,h2⟩:=Mb h1 o;have wC:(∀ d,rH E ops d=true->(L.setIfInBounds i true).getD d false=false)->Ext w0 w (λ_ _=>0):=λhd=>v.hS λd IL=>hold (hd d IL)
    exact ⟨⟨wC,Pg.2.1,λe he hu=>KN e he (hu.imp id hold)⟩,ih _ false hQ hC hg hk fuel (v.next hD va h2 (PF.nD (λ_ _ h=>h) (λ_ _ _ _ h=>h) (λ_ _ h=>h) D (zT undef) (λ_ _ _=>⟨λ_ h=>h,rfl⟩) v.pf) wC (λe=>by cases e) (v.Ba xC hi Jy (λd hd=>by
     cases ho:o.dst with
     | none=>rfl
     | some d'=>rw[pp,aV (λe=>hd (by rw[ho,e.1]))]) λe he hu=>KN e he (hu.imp id hold)))⟩
end
theorem abq (hE:uq P E) (hm:P.follows .mixedOrders=true) {iV id:Nat} {ops:Array Oper} (dp:∀ o ∈ ops.toList,sL P o.op=true) {is bx:List Nat} (hd:Pd E iV ops is=true) (h:ey P C A σ a w F) {K:St->Option R} (hk:SG σ bx (λσ=>Wk ops.toList σ (pk E.pd iV) λσ=>GI E iV ops.toList is σ K)=some x)
  (hQ:∀ a w,Nx P C K x a w->Q .normal a w) (hP:∀ c a w,¬ Q (.panic c) a w):(Code.region id ops true).wp P Q a w:=by
 simp only[Pd,aD,dL] at hd;obtain ⟨⟨⟨⟨E3,hlen⟩,yX,aeQ⟩,⟨xF,aeR⟩,xC⟩,hg⟩:=hd;have h0:=h.drew;obtain ⟨A1,qE,F1,hk,h1⟩:=aaH bx h0 hk;obtain ⟨mT,F2,hk,h1⟩:=adz (pk E.pd iV) h1 hk;obtain ⟨C',c1,c2,c3,c4,c5⟩:=h1.acC;have hC':∀ b i,C'.A0 b i->C'.F0 b i=0:=λb i ha=>c3 b i (by rw[<-c2];exact ha)
 have S4:∀ k,(Array.replicate ops.size false).getD k false=false:=λk=>by
  by_cases hk:k < ops.size <;> simp[hk]
 refine wp_region_any hm (KI _ _ _ _ (W8 hE dp hP E3 yX rfl rfl xC is _ _ (λa w ⟨Dn,q1,A3,F3,q2⟩=>hQ a w ⟨Dn,q1,A3,F3,c5 q2⟩) hC' hg hk ops.size (w0:=w.drew) (D:=[]) (RC:=[]) ⟨c4,trivial,fV,(λ_ h=>by cases h),(λ_ h=>by cases h),(λ_ h=>by cases h),λj hj=>.inr (rI.1 (bH.1 aeQ j hj)),
  bG (List.length_filter_le _ _) hlen,λj o hj hl=>?_,λ_=>Ext.refl _ _,λhf=>⟨rfl,?_⟩,by simp,by simp,(λk=>by simp),IK xF,λk hk=>.inr (rI.1 (bH.1 aeR k (cD.2 hk))),λk _=>S4 k,λe he=>by cases he⟩))
 ·rw[S4] at hl;cases hl
 ·split at hf
  ·assumption
  ·cases hf
end
end OT
namespace OT
open Go
section
variable {P:Program} {C:Ctx} {A:Cells} {X:FP} {σ:St} {a:Act} {w:World} {F:Nat->FP} {R:Type} {x:R} {E:Env}
theorem Pj (f:Nat->Slot):∀ (live:List Nat) (i:Nat),oF (live.map λj=>(j,f j)) i=if live.any (Nat.beq i) then some (f i) else none
 | [],i=>rfl
 | j::live,i=>by
  simp only[dH,oF,gF];by_cases ul:i=j
  ·simp_all
  ·have h1:Nat.beq j i=false:=by
    grind [Nat.eq_of_beq_eq_true]
   have h2:Nat.beq i j=false:=by
    grind [Nat.eq_of_beq_eq_true]
   simp only[h1,h2,aF,aS,dP,Pj f live i]
theorem CL (live:List Nat) (fr:List (Nat×Md)) (σ:St) (i:Nat):(ge live fr σ).get i=if i < σ.n/\live.any (Nat.beq i)=true then Dj fr i (lE live fr σ i) else .dead:=by
 unfold St.get ge;simp only[Pj];grind [Nat.blt_eq]
theorem E5 (live:List Nat) (fr:List (Nat×Md)) (σ:St) (i:Nat):(ge live fr σ).lC i=[0,0,0,0,0]:=rfl
theorem E6 {s:List Nat} (h:s.length<=5):Below (s.map λ_=>0) [0,0,0,0,0]:=by
 intro j y hj;grind
theorem E7 {live:List Nat} {fr:List (Nat×Md)} {r:Nat} (hr:GJ live fr r=true) {p:Path} {pl:Pl} (hp:place σ a w r p=some pl):place (ge live fr σ) a w r p=some pl:=by
 grind [u9,GJ,place,CL,Dj,lE,et]
theorem Xa {live:List Nat} {fr:List (Nat×Md)} {i:Nat} {G:FP} (hs:dq P A σ a w (tmp a i) (σ.get i) G) (hG:∀ b k,G b k<=1) :
  ∃ G':FP,(∀ b k,G' b k<=G b k)/\∀ A':Cells,(∀ b k,A b k->A' b k)->(∀ b k,1<=G b k->G' b k=0->A' b k)->dq P A' (ge live fr σ) a w (tmp a i) (Dj fr i (lE live fr σ i)) G':=by
 have same:∀ b k,A b k->∀ u,ce w b k=some u->ce w b k=some u:=λ_ _ _ _ h=>h;have dead:Dj fr i .dead=.dead:=by grind [Dj]
 have E8:∀ {s:Slot},(∀ t m H v,s≠.own t m H v)->(∀ t m H v,s≠.box t m H v)->Dj fr i s=s:=λ{s} h1 h2=>by
  grind [Dj]
 cases hg:σ.get i with
 | dead=>exact ⟨λ_ _=>0,λ_ _=>aZ _,λA' _ _=>by simp only[lE,hg,dead];trivial⟩
 | yF=>
  rw[hg] at hs;exact ⟨λ_ _=>0,λ_ _=>aZ _,λA' _ _=>by simp only[lE,hg];rw[E8 (by intros;simp) (by intros;simp)];exact hs⟩
 | val t v=>
  rw[hg] at hs;obtain ⟨cs,h1,h2⟩:=hs;exact ⟨λ_ _=>0,λ_ _=>aZ _,λA' hA _=>by simp only[lE,hg];rw[E8 (by intros;simp) (by intros;simp)];exact ⟨cs,h1,Ro.mono same hA t h2⟩⟩
 | cp t v=>
  rw[hg] at hs;exact ⟨λ_ _=>0,λ_ _=>aZ _,λA' hA _=>by simp only[lE,hg];rw[E8 (by intros;simp) (by intros;simp)];exact Ro.mono same hA (.ptr t) hs⟩
 | own t m H v=>
  rw[hg] at hs;obtain ⟨cs,h1,h2⟩:=hs;have hk:lE live fr σ i=.own t m H v:=by grind [lE]
  rw[hk];unfold Dj;split
  ·exact ⟨G,λ_ _=>aH _,λA' hA _=>⟨cs,h1,ax.mono hA same (λ_ _ h=>h) t h2 (λ_ _=>aH _) (λ_ _ _ _ h=>h)⟩⟩
  ·rename_i m1 hm;simp only;split
   ·rename_i hc;simp only[aD,bD] at hc;obtain ⟨hH,hf⟩:=hc;subst hH;obtain ⟨G1,g1,g2⟩:=ax.fits t hf h2 hG;refine ⟨G1,g1,λA' hA Dw=>?_⟩
    have hr:=g2 A' hA Dw;split
    ·rename_i e;subst e;exact ⟨cs,h1,ax.ro t (iF t) hr⟩
    ·exact ⟨cs,h1,hr⟩
   ·exact ⟨λ_ _=>0,λ_ _=>aZ _,λA' _ _=>trivial⟩
 | box t m H v=>
  rw[hg] at hs;obtain ⟨b,o,L,F1,s1,s2,s3,s4,s5,s6⟩:=hs;have hk:lE live fr σ i=.box t m H v:=by grind [lE]
  rw[hk];unfold Dj;split
  ·exact ⟨G,λ_ _=>aH _,λA' hA _=>⟨b,o,L,F1,s1,s2,s3,s4,s5,ax.mono hA same (λ_ _ h=>h) t s6 (λ_ _=>aH _) (λ_ _ _ _ h=>h)⟩⟩
  ·rename_i m1 hm;simp only;split
   ·rename_i hc;simp only[aD,bD] at hc;obtain ⟨hH,hf⟩:=hc;subst hH;obtain ⟨G1,g1,g2⟩:=ax.fits t hf s6 (λb' k=>by grind);refine ⟨λb' k=>de b o t.sz b' k+G1 b' k,λb' k=>by grind,λA' hA Dw=>⟨b,o,L,G1,s1,s2,s3,s4,λ_ _=>aH _,g2 A' hA λb' k hp hz=>?_⟩⟩
    grind
   ·exact ⟨λ_ _=>0,λ_ _=>aZ _,λA' _ _=>trivial⟩
 | ref r p snap=>
  rw[hg] at hs;refine ⟨λ_ _=>0,λ_ _=>aZ _,λA' _ _=>?_⟩
  simp only[lE,hg];split
  ·rename_i hc;simp only[aD] at hc;rw[E8 (by intros;simp) (by intros;simp)];obtain ⟨pl,h1,h2,h3⟩:=hs.2 hc.1;have hl:snap.length<=5:=by grind
   exact ⟨by grind [E5,E6],λ_=>⟨pl,E7 hc.2 h1,h2,by simpa using h3⟩⟩
  ·rw[dead];trivial
 | ptr r p snap=>
  rw[hg] at hs;refine ⟨λ_ _=>0,λ_ _=>aZ _,λA' _ _=>?_⟩
  simp only[lE,hg];split
  ·rename_i hc;simp only[aD] at hc;rw[E8 (by intros;simp) (by intros;simp)];obtain ⟨pl,b,o,h1,h2,h3,h4⟩:=hs.2 hc.1;have hl:snap.length<=5:=by omega
   exact ⟨by grind [E5,E6],λ_=>⟨pl,b,o,E7 hc.2 h1,h2,h3,by simpa using h4⟩⟩
  ·rw[dead];trivial
 | sub r p snap lo hi=>
  rw[hg] at hs;refine ⟨λ_ _=>0,λ_ _=>aZ _,λA' _ _=>?_⟩
  simp only[lE,hg];split
  ·rename_i hc;simp only[aD] at hc;rw[E8 (by intros;simp) (by intros;simp)];obtain ⟨pl,e,xa,n,cap,xz,cap',h1,h2,h3,h4,h5,h6,h7,h8,h9,IJ,W7⟩:=hs.2 hc.1;have hl:snap.length<=5:=by grind
   exact ⟨by grind [E5,E6],λ_=>⟨pl,e,xa,n,cap,xz,cap',E7 hc.2 h1,h2,h3,h4,h5,h6,h7,h8,h9,IJ,by simpa using W7⟩⟩
  ·rw[dead];trivial
 | s8 xs=>
  rw[hg] at hs;obtain ⟨vs,Fi,h1,h2,h3⟩:=hs;refine ⟨G,λ_ _=>aH _,λA' hA _=>?_⟩
  simp only[lE,hg];rw[E8 (by intros;simp) (by intros;simp)]
  exact ⟨vs,Fi,h1,h2,λj y hy=>by
   obtain ⟨v,g1,g2⟩:=h3 j y hy
   exact ⟨v,g1,g2.imp id λ⟨cs,g3,g4⟩=>⟨cs,g3,ax.mono hA same (λ_ _ h=>h) _ g4 (λ_ _=>aH _) (λ_ _ _ _ h=>h)⟩⟩⟩
theorem Jz (h:ey P C A σ a w F) (live:List Nat) (fr:List (Nat×Md)):G0 P C (ge live fr σ) a w:=by
 have hle:∀ i,i < σ.n->∀ b k,F i b k<=1:=λi hi b k=>by have:=h.qe b k;grind [dz]
 have each:∀ i,∃ G':FP,(∀ b k,i < σ.n->G' b k<=F i b k)/\(¬ i < σ.n->∀ b k,G' b k=0)/\∀ A':Cells,(∀ b k,A b k->A' b k)->(∀ b k,1<=F i b k->G' b k=0->A' b k)->i < σ.n->dq P A' (ge live fr σ) a w (tmp a i) ((ge live fr σ).get i) G':=by
  intro i;by_cases hi:i < σ.n
  ·by_cases hl:live.any (Nat.beq i)=true
   ·obtain ⟨G',g1,g2⟩:=Xa (live:=live) (fr:=fr) (h.jg i hi) (hle i hi);exact ⟨G',λb k _=>g1 b k,λhn=>absurd hi hn,λA' hA Dw _=>by grind [CL]⟩
   ·exact ⟨λ_ _=>0,λ_ _ _=>aZ _,λ_ _ _=>rfl,λA' _ _ _=>by rw[CL,aV (λhc=>hl hc.2)];trivial⟩
  ·exact ⟨λ_ _=>0,λ_ _ _=>aZ _,λ_ _ _=>rfl,λA' _ _ rE=>absurd rE hi⟩
 obtain ⟨F',hF'⟩:=fQ each;have rg:∀ b k,bk σ.n F' b k<=bk σ.n F b k:=λb k=>LU b k λj hj=>(hF' j).1 b k hj;refine ⟨λb k=>A b k\/∃ j,j < σ.n/\1<=F j b k/\F' j b k=0,F',?_⟩
 have hold:∀ {b k j},j < σ.n->1<=F j b k->1<=0+bk σ.n F b k:=λ{b k j} hj hp=>by grind [dz]
 refine ⟨h.size,h.defers,λi hi=>(hF' i).2.2 _ (λ_ _ h=>.inl h) (λb k hp hz=>.inr ⟨i,hi,hp,hz⟩) hi,(λd r p snap hm=>by cases hm),λb k=>by have:=h.qe b k;have:=rg b k;show 0+bk σ.n F' b k<=1;omega,λb k hp ha=>?_,λb k hp=>?_,
  λi=>by rw[E5];rfl,h.ext,λb k hp=>h.own b k (by have:=rg b k;have hp:1<=0+bk σ.n F' b k:=hp;grind),λb k ha=>.inl (h.a0 b k ha),λb k ha=>?_,h.pz,λr t m H v hg hl=>?_,λj k hm R' qf=>?_,h.tab⟩
 ·have hp:1<=0+bk σ.n F' b k:=hp
  rcases ha with ha | ⟨j,hj,h1,h2⟩
  ·exact h.rh b k (by grind) ha
  ·obtain ⟨i,hi,CK⟩:=OA (show 1<=bk σ.n F' b k by omega);have jx:i≠j:=λe=>by grind
   have:=wo F hi hj jx b k;have:=(hF' i).1 b k hi;have:=h.qe b k;omega
 ·rcases hp with hp | (ha | ⟨j,hj,h1,_⟩)
  ·exact h.k9 b k (.inl (by have:=rg b k;have hp:1<=0+bk σ.n F' b k:=hp;grind))
  ·exact h.k9 b k (.inr ha)
  ·exact h.k9 b k (.inl (hold hj h1))
 ·rcases ha with ha | ⟨j,hj,h1,_⟩
  ·exact h.a1 b k ha
  ·exact .inr (h.own b k (hold hj h1))
 ·rw[CL] at hg;split at hg
  ·have:∃ m0 H0 v0,σ.get r=.box t m0 H0 v0:=by
    grind [Dj,lE]
   obtain ⟨m0,H0,v0,Wx⟩:=this;exact h.whole r t m0 H0 v0 Wx hl
  ·cases hg
 ·have Uk:et w (tmp a j) (σ.get j)=some R'\/∃ H0,et w (tmp a j) (σ.get j)=some { R' with H:=H0 }:=by
   rw[CL] at qf;split at qf
   ·unfold Dj at qf;split at qf
    ·grind [lE,et]
    ·split at qf
     ·grind [lE,et]
     ·rename_i t0 m0 H0 v0 hk
      have IH:σ.get j=.box t0 m0 H0 v0:=by
       grind [lE]
      split at qf
      all_goals simp_all [et]
     grind [et]
   grind [et]
  rcases Uk with hr | ⟨H0,hr⟩
  ·exact h.oo j k hm R' hr
  ·have:=h.oo j k hm _ hr;exact this
theorem abr (live:List Nat) (σ:St):Ba live σ=ge live [] σ:=rfl
theorem abs (h:ey P C A σ a w F) (live:List Nat):G0 P C (Ba live σ) a w:=by grind [abr,Jz]
end
end OT
namespace OT
open Go
def QK (P:Program) (C:Ctx) {R:Type} (K:Ex->St->Option R) (fin:St->Option R) (x:R):Exit->Act->World->Prop
 | .normal,a,w=>∃ σ,K .normal σ=some x/\G0 P C σ a w
 | .exit id,a,w=>∃ σ,K (.exit id) σ=some x/\G0 P C σ a w
 | .ret,a,w=>∃ σ,fin σ=some x/\G0 P C σ a w
 | _,_,_=>False
noncomputable def codeOk (P:Program) (E:Env):Code->Bool
 | .skip=>true
 | .region id ops d=>ops.toList.all (λo=>sL P o.op)&&(match d with
  | false=>true
  | true=>P.follows .mixedOrders&&Pd E id ops (pk E.od id))
 | .seq a b=>codeOk P E a&&codeOk P E b
 | .cond c a b=>ei P c&&codeOk P E a&&codeOk P E b
 | .block _ b=>codeOk P E b
 | .loop b=>codeOk P E b
 | .scope b=>codeOk P E b
 | .exit _=>true
 | .ret=>true
 | _=>true
section
variable {P:Program} {C:Ctx} {R:Type} {x:R} {E:Env} {fin:St->Option R} {n:Nat}
theorem abt (hE:uq P E):∀ (c:Code),codeOk P E c=true->∀ {σ:St} {A:Cells} {a:Act} {w:World} {F:Nat->FP} {K:Ex->St->Option R},ey P C A σ a w F->we E n fin c σ K=some x->c.wp P (QK P C K fin x) a w:=by
 intro c
 induction c with
 | skip=>intro _ σ A a w F K h hk;exact wp_skip ⟨σ,hk,A,F,h⟩
 | region id ops d=>
  intro hc σ A a w F K h hk;simp only[codeOk,aD] at hc;have dp:∀ o ∈ ops.toList,sL P o.op=true:=λo ho=>bH.1 hc.1 o ho
  cases d with
  | false=>exact W0 hE dp h hk (λa w ⟨σ',h1,A',F',h2⟩=>by
    obtain ⟨A2,mT,F2,h3,h4⟩:=aaH _ h2 h1
    exact ⟨mT,h3,A2,F2,h4⟩)
  | true=>
   have h2:=hc.2;simp only[aD] at h2;exact abq hE h2.1 dp h2.2 h hk (λa w ⟨σ',h1,h2⟩=>⟨σ',h1,h2⟩) (λc a w hq=>hq)
 | seq a b nE nw=>
  intro hc σ A ac w F K h hk;simp only[codeOk,aD] at hc;refine wp_seq (wp_mono (nE hc.1 h hk) λe a' w' hq=>?_)
  cases e with
  | normal=>obtain ⟨σ',h1,A',F',h2⟩:=hq;exact nw hc.2 h2 h1
  | exit j=>obtain ⟨σ',h1,h2⟩:=hq;exact ⟨σ',h1,h2⟩
  | ret=>exact hq
  | _=>exact hq.elim
 | cond c a b nE nw=>
  intro hc σ A ac w F K h hk;simp only[codeOk,aD] at hc;simp only[we] at hk
  rcases gn h hc.1.1 with hs | ⟨xs,e⟩
  rotate_left
  ·rw[e] at hk;cases hk
  grind [Kp,wp_cond_true,wp_cond_false]
 | block id b ih=>
  intro hc σ A ac w F K h hk;refine wp_block (wp_mono (ih hc h hk) λe a' w' hq=>?_)
  cases e with
  | normal=>exact hq
  | exit j=>
   obtain ⟨σ',h1,h2⟩:=hq;simp only[ai] at h1;simp only[Exit.inBlock];by_cases hj:j=id
   ·subst hj;rw[aR (by simp)] at h1;rw[aR rfl];exact ⟨σ',h1,h2⟩
   ·have:Nat.beq j id=false:=by
     grind [Nat.eq_of_beq_eq_true]
    rw[this,aV (by simp)] at h1;rw[aV hj];exact ⟨σ',h1,h2⟩
  | ret=>exact hq
  | _=>exact hq.elim
 | loop b ih=>
  intro hc σ A ac w F K h hk;simp only[we] at hk
  have key:∀ (m:Nat) (σ:St) (ac:Act) (w:World),G0 P C σ ac w->H8 (we E n fin b) (ge (pk E.lv (tY b)) (Uc E.lf (tY b))) K m σ=some x->Code.rounds P b (QK P C K fin x) m ac w:=by
   intro m
   induction m with
   | zero=>intro σ ac w h hk;cases hk
   | succ m ihm=>
    intro σ ac w h hk;obtain ⟨A',F',h⟩:=h;rw[rounds_succ];refine wp_mono (ih hc h hk) λe a' w' hq=>?_
    cases e with
    | normal=>
     obtain ⟨σ',h1,A2,F2,h2⟩:=hq;exact ihm _ a' w' (Jz h2 _ _) h1
    | exit j=>exact hq
    | ret=>exact hq
    | _=>exact hq.elim
  exact wp_loop_rounds n (key n _ ac w (Jz h _ _) hk)
 | scope b ih=>
  intro hc σ A ac w F K h hk;refine wp_scope_straight (wp_mono (ih hc h hk) λe a' w' hq=>?_)
  cases e with
  | normal=>exact hq
  | exit j=>exact hq
  | ret=>exact hq
  | _=>exact hq.elim
 | exit id=>
  intro hc σ A ac w F K h hk;exact wp_exit ⟨_,hk,abs h _⟩
 | ret=>
  intro hc σ A ac w F K h hk;exact wp_ret ⟨σ,hk,A,F,h⟩
 | _=>grind [we]
end
end OT
namespace OT
open Go
section
variable {P:Program} {C:Ctx} {A:Cells} {X:FP} {σ:St} {a:Act} {w:World} {F:Nat->FP} {R:Type} {x:R} {E:Env}
def E9 (tmps:Array Value):ResultVar->Sem Value
 | .tmp t=>pure (tmps.getD t undef)
 | .cell a t=>do loadVar t (<- asAddr (tmps.getD a undef))
theorem Pk {α:Type} (f:α->Sem Value):∀ (l:List α) (vs:List Value),l.length=vs.length->(∀ (j:Nat) (y:α) (v:Value),l[j]?=some y->vs[j]?=some v->(f y).run P w=.ok v w)->(l.mapM f).run P w=.ok vs w
 | [],[],_,_=>rfl
 | y::l,v::vs,hl,h=>by
  have h0:=h 0 y v rfl rfl;have ih:=Pk f l vs (by simpa using hl) (λj y v hy hv=>h (j+1) y v hy hv);simp_all
 | [],_::_,h,_=>by simp at h
 | _::_,[],h,_=>by simp at h
theorem RF {fn:Func} {tmps:Array Value} {vs:List Value} (hl:fn.results.toList.length=vs.length) (h:∀ (j:Nat) (y:ResultVar) (v:Value),fn.results.toList[j]?=some y->vs[j]?=some v->(E9 tmps y).run P w=.ok v w) :
  (results fn tmps).run P w=.ok (if h:vs.toArray.size=1 then vs.toArray[0] else .tuple vs.toArray) w:=by
 have h1:=Pk (P:=P) (w:=w) (E9 tmps) fn.results.toList vs hl h
 have h2:(fn.results.mapM (E9 tmps)).run P w=.ok vs.toArray w:=by
  have e:fn.results=fn.results.toList.toArray:=by simp
  rw[e,List.mapM_toArray,map_eq_pure_bind,Sem.run_bind,h1,Result.andThen_ok,Sem.run_pure]
 have e:results fn tmps=(do
  let vs <- fn.results.mapM (E9 tmps)
  pure (if h:vs.size=1 then vs[0] else .tuple vs)):=by
  unfold results;congr 1
 simp_all
def JA (E:Env):List (Ty×Md)->List ResultVar->Bool
 | [],[]=>true
 | _::rs,.tmp _::xs=>JA E rs xs
 | (t,_)::rs,.cell _ ty::xs=>(match E.TI ty with
  | some T=>decide (T=t)
  | none=>false)&&JA E rs xs
 | _,_=>false
theorem adB (hE:uq P E) (h:Rel P C A X σ a w F) {rv:ResultVar} {t:Ty} (Cy:∀ b ty,rv=.cell b ty->E.TI ty=some t) {mv:Bool} {K:Md->t.den->St->Option R} (hk:nC σ (Ke σ rv) mv t K=some x) :
  ∃ (tv:Value),(E9 a.tmps rv).run P w=.ok tv w/\∃ (A':Cells) (σ':St) (F':Nat->FP) (m:Md) (v:t.den) (cs:List Value) (Fv:FP),K m v σ'=some x/\(∀ b i,A b i->A' b i)/\Rel P C A' (λb i=>X b i+Fv b i) σ' a w F'/\tv=cu t cs/\ax P w A' t m [] v cs Fv:=by
 cases rv with
 | tmp i=>
  rcases gn h (o:=.tmp i) rfl with hs | ⟨xs,e⟩
  rotate_left
  ·grind [Ke,nC]
  obtain ⟨A',σ',F',m,v,cs,Fv,k1,k2,k3,k4,kr,k5,k6⟩:=vL h hs hk;exact ⟨_,rfl,A',σ',F',m,v,cs,Fv,k1,k2,k3,k5,k6⟩
 | cell i ty=>
  have hT:=Cy i ty rfl;have jz:=hE.ti _ _ hT;simp only[Ke] at hk;split at hk
  ·rename_i t0 m0 H0 v0 hg
   have hi:i < σ.n:=by
    grind [mK]
   have hs:=h.jg i hi;rw[hg] at hs;obtain ⟨b,o,L,F1,s1,s2,s3,s4,s5,s6⟩:=hs
   have ji:place σ a w i []=some ⟨t0,H0,L,some (b,o)⟩:=by
    grind [place,et,gc,bt]
   have N0:dq P A σ a w (cu t0 L) (.ref i [] (σ.lC i)) (λ_ _=>0):=⟨Below.refl _,λ_=>⟨_,ji,rfl,.inr (h.mD i)⟩⟩
   have ht:t0=t:=by
    grind [nC,l7,dn]
   subst ht;obtain ⟨A',σ',F',m,v,cs,Fv,k1,k2,k3,k4,kr,k5,k6⟩:=vL h N0 hk;refine ⟨cu t0 L,?_,A',σ',F',m,v,cs,Fv,k1,k2,k3,k5,k6⟩
   have e:a.tmps.getD i undef=.pointer (some ⟨b,o,none⟩):=s1;grind [Ap,ax.one,E9,asAddr]
  grind [nC]
theorem acG (hE:uq P E) {ts:List Ty} {mv:Nat->Bool} {fin:St->((c9 ts).den->Option R)->Option R}:∀ (rs:List (Ty×Md)) (Ed:List ResultVar) (j:Nat) {σ:St} {A:Cells} {X:FP} {F:Nat->FP} {K:(c9 (rs.map (·.1)++ts)).den->Option R},
  JA E rs Ed=true->Rel P C A X σ a w F->Ud σ ts mv fin rs Ed j K=some x ->
  ∃ (A':Cells) (σ':St) (X':FP) (F':Nat->FP) (E_:List Value) (L:List J8) (Fi:Nat->FP) (pre:(c9 ts).den->(c9 (rs.map (·.1)++ts)).den),(∀ b i,A b i->A' b i)/\Rel P C A' X' σ' a w F'/\fin σ' (λy=>K (pre y))=some x/\(∀ y,lQ rs (pre y)=(L,y)) /\
   E_.length=L.length/\E_.length=Ed.length/\(∀ (k:Nat) (y:ResultVar) (v:Value),Ed[k]?=some y->E_[k]?=some v->(E9 a.tmps y).run P w=.ok v w)/\(∀ b i,X b i+bk L.length Fi b i<=X' b i) /\
   ∀ A2:Cells,(∀ b i,A' b i->A2 b i)->(∀ b i,1<=X' b i->X b i=0->bk L.length Fi b i=0->A2 b i)->∀ k y,L[k]?=some y->∃ v cs,E_[k]?=some v/\v=cu y.t cs/\ax P w A2 y.t y.m [] y.v cs (Fi k):=by
 intro rs
 induction rs with
 | nil=>
  intro Ed j σ A X F K hrv h hk
  cases Ed with
  | nil=>exact ⟨A,σ,X,F,[],[],λ_ _ _=>0,id,λ_ _ h=>h,h,hk,λy=>rfl,rfl,rfl,(λk y v hy=>by cases hy),(λb i=>by simp[bk]),λA2 _ _ k y hy=>by cases hy⟩
  | cons _ _=>cases hrv
 | cons p rs ih=>
  intro Ed j σ A X F K hrv h hk;obtain ⟨t,m⟩:=p
  cases Ed with
  | nil=>cases hk
  | cons rv Ed=>
   simp only[Ud] at hk
   have Cy:∀ b ty,rv=.cell b ty->E.TI ty=some t:=λb ty e=>by
    grind [JA]
   have aeS:JA E rs Ed=true:=by
    cases rv <;> grind [JA]
   obtain ⟨tv,jL,A1,qE,F1,m1,v1,cs,Fv,k1,k2,k3,k4,k5⟩:=adB hE h Cy hk;split at k1
   ·rename_i hm;obtain ⟨A',σ',X',F',E_,L,Fi,pre,g1,g2,g3,g4,g5,g6,g7,g8,g9⟩:=ih Ed (j+1) aeS k3 k1;have yQ:∀ b i,X' b i<=1:=λb i=>by have:=g2.qe b i;omega
    have yY:∃ G:FP,(∀ b i,G b i<=Fv b i)/\∀ A2:Cells,(∀ b i,A1 b i->A2 b i)->(∀ b i,1<=Fv b i->G b i=0->A2 b i)->ax P w A2 t m [] v1 cs G:=by
     by_cases hmm:m1=m
     ·subst hmm;exact ⟨Fv,λ_ _=>aH _,λA2 hA _=>ax.mono hA (λ_ _ _ _ h=>h) (λ_ _ h=>h) t k5 (λ_ _=>aH _) (λ_ _ _ _ h=>h)⟩
     ·rcases hm with hm | hm
      ·grind
      ·exact ax.fits t hm k5 (λb i=>by grind)
    obtain ⟨G,G1,G2⟩:=yY
    have rg:∀ b i,bk (L.length+1) (λk=>match k with | 0=>G | k+1=>Fi k) b i=G b i+bk L.length Fi b i:=λb i=>by
     rw[Nat.add_comm,wr];congr 1
     ·simp[bk]
     grind
    refine ⟨A',σ',X',F',tv::E_,⟨t,m,v1⟩::L,λk=>match k with | 0=>G | k+1=>Fi k,λy=>(v1,pre y),λb i ha=>g1 b i (k2 b i ha),g2,g3,λy=>by grind [lQ],by simp[g5],by simp[g6],λk y v hy hv=>?_,λb i=>?_,λA2 hA Dw k y hy=>?_⟩
    ·grind
    ·grind
    ·have aeT:∀ b i,1<=X' b i->X b i=0->G b i+bk L.length Fi b i=0->A2 b i:=λb i h1 h2 h3=>Dw b i h1 h2 (by grind)
     cases k with
     | zero=>
      grind
     | succ k=>
      refine g9 A2 hA (λb i h1 h2 h3=>aeT b i h1 Bys (by grind)) k y hy
   ·cases k1
theorem Pm {l:List (Nat×Nat×Bool)} {i j:Nat} {c:Bool} (h:Ea l i j c=true):(i,j,c) ∈ l:=by
 induction l <;> grind [Ea,Nat.beq_eq]
def qv (F:Nat->FP):List Nat->FP
 | []=>λ_ _=>0
 | i::l=>λb k=>F i b k+qv F l b k
theorem Fc (F:Nat->FP) (i:Nat) (G:FP) (b k:Nat):∀ (l:List Nat),i ∉ l->qv (g_ F i G) l b k=qv F l b k
 | [],_=>rfl
 | j::l,hj=>by
  simp only[aY,not_or] at hj;simp only[qv,Fc F i G b k l hj.2];rw[show g_ F i G j=F j by grind [g_]]
theorem Td:∀ (l:List Nat) {n:Nat} (F:Nat->FP),l.Nodup->(∀ i ∈ l,i < n)->∀ b k,qv F l b k<=bk n F b k
 | [],n,F,_,_,b,k=>aZ _
 | i::l,n,F,hn,hl,b,k=>by
  have hn':=cS.1 hn;have h1:=Td l (g_ F i λ_ _=>0) hn'.2 (λj hj=>hl j (aW _ hj)) b k;grind [Fc,u7,qv]
theorem Pn {F:Nat->FP} {b k:Nat}:∀ {l:List Nat},1<=qv F l b k->∃ i ∈ l,1<=F i b k
 | [],h=>by simp[qv] at h
 | i::l,h=>by
  simp only[qv] at h;rcases bJ (F i b k) with h0 | h0
  ·obtain ⟨j,hj,hp⟩:=Pn (F:=F) (b:=b) (k:=k) (l:=l) Bys;grind
  grind
def JB:List (PM×Ty)->Bool
 | []=>true
 | _::ps=>JB ps
theorem abu (h:Rel P C A X σ a w F):∀ (j:Nat) (ps:List (PM×Ty)) (es:List Nat) {K:(c9 (lP ps)).den->Option R},JB ps=true->es.Nodup->j+ps.length<=C.args.size->yI σ j ps es K=some x ->
  ∃ (vs:(c9 (lP ps)).den) (us:List Nat) (Gi:Nat->FP),K vs=some x/\(∀ i ∈ us,i ∈ es)/\us.Nodup/\(∀ i ∈ us,i < σ.n)/\(∀ i b k,i ∈ us->Gi i b k<=F i b k) /\
   ∀ A2:Cells,(∀ b k,A b k->A2 b k)->(∀ i b k,i ∈ us->1<=F i b k->Gi i b k=0->A2 b k)->nG P w A2 ps vs (C.args.toList.drop j) (qv Gi us):=by
 intro j ps
 induction ps generalizing j with
 | nil=>intro es K _ _ _ hk;exact ⟨(),[],λ_ _ _=>0,by cases es <;> exact hk,(λi hi=>by cases hi),fV,(λi hi=>by cases hi),(λi b k hi=>by cases hi),λ_ _ _=>trivial⟩
 | cons p ps ih=>
  intro es K hp xF hj hk;obtain ⟨pm,t⟩:=p;have Bt:j+1+ps.length<=C.args.size:=by grind
  have UJ:(C.args.toList.drop j).tail=C.args.toList.drop (j+1):=by rw[List.tail_drop]
  have adC:(C.args.toList.drop j).head?=some (C.args.getD j undef):=by
   simp only[bM] at hj;rw[List.head?_drop,dN,dJ Bys];simp[show j < C.args.size by omega]
  have hF1:∀ i,i < σ.n->∀ b k,F i b k<=1:=λi hi b k=>by have:=h.qe b k;grind [dz]
  cases pm with
  | ro=>
   obtain ⟨vs,us,Gi,g1,g2,g3,g4,g5,g6⟩:=ih (j+1) es hp xF Bt hk;exact ⟨vs,us,Gi,g1,g2,g3,g4,g5,λA2 hA Dw=>by grind [nG]⟩
  | fix f=>
   obtain ⟨vs,us,Gi,g1,g2,g3,g4,g5,g6⟩:=ih (j+1) es hp xF Bt hk;exact ⟨vs,us,Gi,g1,g2,g3,g4,g5,λA2 hA Dw=>by grind [nG]⟩
  | tw f=>
   obtain ⟨vs,us,Gi,g1,g2,g3,g4,g5,g6⟩:=ih (j+1) es hp xF Bt hk;exact ⟨vs,us,Gi,g1,g2,g3,g4,g5,λA2 hA Dw=>by grind [nG]⟩
  | nK f=>
   obtain ⟨vs,us,Gi,g1,g2,g3,g4,g5,g6⟩:=ih (j+1) es hp xF Bt hk;exact ⟨vs,us,Gi,g1,g2,g3,g4,g5,λA2 hA Dw=>by grind [nG]⟩
  | ke m0 m=>
   cases es with
   | nil=>cases hk
   | cons i es=>
    have Po:=cS.1 xF;simp only[yI] at hk;split at hk
    ·rename_i t' m' H v hg;split at hk
     ·rename_i hc;simp only[aD,bD,dQ,bP] at hc;obtain ⟨⟨hH,hm⟩,EV⟩:=hc;subst hH;obtain ⟨e,hk⟩:=dn hk;subst e;obtain ⟨vs,us,Gi,g1,g2,g3,g4,g5,g6⟩:=ih (j+1) es hp Po.2 Bt hk
      have hi:i < σ.n:=by
       grind [mK]
      have hs:=h.jg i hi;rw[hg] at hs;obtain ⟨b,o,L,F1,s1,s2,s3,s4,s5,s6⟩:=hs;have afN:=h.pz i j (Pm EV);have hiu:i ∉ us:=λhu=>Po.1 (g2 i hu)
      have yY:∃ G:FP,(∀ b k,G b k<=F1 b k)/\∀ A2:Cells,(∀ b i,A b i->A2 b i)->(∀ b i,1<=F1 b i->G b i=0->A2 b i)->ax P w A2 t' m [] v L G:=by
       rcases hm with hm | hm
       ·subst hm;exact ⟨F1,λ_ _=>aH _,λA2 hA _=>ax.mono hA (λ_ _ _ _ h=>h) (λ_ _ h=>h) t' s6 (λ_ _=>aH _) (λ_ _ _ _ h=>h)⟩
       ·exact ax.fits t' hm s6 (λb' k=>by grind)
      obtain ⟨G,G1,G2⟩:=yY;refine ⟨(v,vs),i::us,g_ Gi i λb' k=>de b o t'.sz b' k+G b' k,g1,λi' rE=>?_,cS.2 ⟨hiu,g3⟩,λi' rE=>?_,λi' b' k rE=>?_,λA2 hA Dw=>?_⟩
      ·grind
      ·grind
      ·by_cases hii:i'=i
       ·grind [g_]
       ·simp only[g_,aV hii];grind
      ·refine ⟨λb' k=>de b o t'.sz b' k+G b' k,qv Gi us,λb' k=>?_,⟨b,o,L,G,by grind,s2,s3,λ_ _=>aH _,G2 A2 hA λb' k hp hz=>?_⟩,?_⟩
       ·grind [qv,Fc,g_]
       ·grind [g_]
       ·rw[UJ];refine g6 A2 hA λi' b' k rE hp hz=>Dw i' b' k (aW _ rE) hp ?_;have jx:i'≠i:=λe=>by grind
        simp only[g_,aV jx];exact hz
     ·cases hk
    ·cases hk
  | lT m=>
   cases es with
   | nil=>cases hk
   | cons i es=>
    have Po:=cS.1 xF;simp only[yI] at hk
    have main:∀ (t':Ty) (m':Md) (H:List Path) (v:t'.den),(σ.get i=.own t' m' H v\/σ.get i=.box t' m' H v)->(if H.isEmpty&&(decide (m'=m)||fits m' m)&&Ea σ.aT i j true then jR t' t v λv=>yI σ (j+1) ps es λvs=>K (v,vs) else none)=some x ->
      ∃ (vs:(c9 (lP ((PM.lT m,t)::ps))).den) (us:List Nat) (Gi:Nat->FP),K vs=some x/\(∀ i' ∈ us,i' ∈ i::es)/\us.Nodup/\(∀ i ∈ us,i < σ.n)/\(∀ i b k,i ∈ us->Gi i b k<=F i b k) /\
       ∀ A2:Cells,(∀ b k,A b k->A2 b k)->(∀ i b k,i ∈ us->1<=F i b k->Gi i b k=0->A2 b k)->nG P w A2 ((PM.lT m,t)::ps) vs (C.args.toList.drop j) (qv Gi us):=by
     intro t' m' H v hg hk;split at hk
     ·rename_i hc;simp only[aD,bD,dQ,bP] at hc;obtain ⟨⟨hH,hm⟩,EV⟩:=hc;subst hH;obtain ⟨e,hk⟩:=dn hk;subst e;obtain ⟨vs,us,Gi,g1,g2,g3,g4,g5,g6⟩:=ih (j+1) es hp Po.2 Bt hk
      have hi:i < σ.n:=by
       grind [mK]
      have hs:=h.jg i hi
      have iT:∃ (cs:List Value) (F1:FP),cu t' cs=C.args.getD j undef/\(∀ b k,F1 b k<=F i b k)/\ax P w A t' m' [] v cs F1:=by
       have hl:=h.oo i j (Pm EV);rcases hg with hg | hg
       ·rw[hg] at hs hl;obtain ⟨cs,h1,h2⟩:=hs;have:=hl _ rfl;grind [lW,ax.length,ax.one]
       ·rw[hg] at hs hl;obtain ⟨b,o,L,F1,s1,s2,s3,s4,s5,s6⟩:=hs;rw[s1] at hl;have:=hl _ rfl;grind [gc]
      obtain ⟨rF,F1,aeU,hF,s6⟩:=iT;have hiu:i ∉ us:=λhu=>Po.1 (g2 i hu)
      have yY:∃ G:FP,(∀ b k,G b k<=F1 b k)/\∀ A2:Cells,(∀ b i,A b i->A2 b i)->(∀ b i,1<=F1 b i->G b i=0->A2 b i)->ax P w A2 t' m [] v rF G:=by
       rcases hm with hm | hm
       ·subst hm;exact ⟨F1,λ_ _=>aH _,λA2 hA _=>ax.mono hA (λ_ _ _ _ h=>h) (λ_ _ h=>h) t' s6 (λ_ _=>aH _) (λ_ _ _ _ h=>h)⟩
       ·exact ax.fits t' hm s6 (λb' k=>by grind)
      obtain ⟨G,G1,G2⟩:=yY;refine ⟨(v,vs),i::us,g_ Gi i G,g1,λi' rE=>?_,cS.2 ⟨hiu,g3⟩,λi' rE=>?_,λi' b' k rE=>?_,λA2 hA Dw=>?_⟩
      ·grind
      ·grind
      ·by_cases hii:i'=i
       ·subst hii;simp only[g_,aJ];grind
       ·simp only[g_,aV hii];grind
      ·refine ⟨G,qv Gi us,λb' k=>?_,⟨rF,by rw[adC,aeU],G2 A2 hA λb' k hp hz=>?_⟩,?_⟩
       ·simp only[qv,Fc Gi i _ b' k us hiu];simp only[g_,aJ];exact aH _
       ·refine Dw i b' k bB (by grind) ?_;simp only[g_,aJ];exact hz
       ·rw[UJ];refine g6 A2 hA λi' b' k rE hp hz=>Dw i' b' k (aW _ rE) hp ?_;have jx:i'≠i:=λe=>by grind
        simp only[g_,aV jx];exact hz
     ·cases hk
    split at hk
    ·rename_i t' m' H v hg;exact main t' m' H v (.inl hg) hk
    ·rename_i t' m' H v hg;exact main t' m' H v (.inr hg) hk
    ·cases hk
end
end OT
namespace OT
open Go
section
variable {P:Program} {w:World} {A:Cells} {R:Type} {x:R} {E:Env}
theorem x_:∀ (ps:List (PM×Ty)) (v:(c9 (ps.map (·.2))).den),(jn ps v).length=ps.length
 | [],_=>rfl
 | (.ro,t)::ps,v=>by cases t <;> simp[jn,x_ ps v.2]
 | (.fix f,t)::ps,v=>by cases t <;> simp[jn,x_ ps v.2]
 | (.ke m m',t)::ps,v=>by simp[jn,x_ ps v.2]
 | (.lT m,t)::ps,v=>by simp[jn,x_ ps v.2]
 | (.tw m,t)::ps,v=>by simp[jn,x_ ps v.2]
 | (.nK m,t)::ps,v=>by simp[jn,x_ ps v.2]
theorem JC:∀ (ps:List (PM×Ty)) {v:(c9 (ps.map (·.2))).den} {xs:List Value} {G:FP},qc P w A O3 ps v xs G->xs.length=ps.length
 | [],_,_,_,h=>by have h:_=[]:=h;rw[h];rfl
 | (pm,t)::ps,_,_,_,h=>by
  obtain ⟨y,ys,F1,F2,rfl,_,_,h2⟩:=h;simp[JC ps h2]
theorem abv:∀ (ps:List (PM×Ty)) {v:(c9 (ps.map (·.2))).den} {xs:List Value} {G:FP},qc P w A O3 ps v xs G->JB ps=true ->
  ∃ Fi:Nat->FP,(∀ b k,bk ps.length Fi b k<=G b k)/\∀ i s,(jn ps v)[i]?=some s->∃ y,xs[i]?=some y/\(∀ σ a,dq P A σ a w y s (Fi i))/\(∀ t m H v,s=.box t m H v->(i,i,false) ∈ wm 0 ps) /\
   ((i,i,true) ∈ wm 0 ps->∃ t m H v,s=.own t m H v):=by
 have main:∀ (ps:List (PM×Ty)) (n:Nat) {v:(c9 (ps.map (·.2))).den} {xs:List Value} {G:FP},qc P w A O3 ps v xs G->JB ps=true ->
   ∃ Fi:Nat->FP,(∀ b k,bk ps.length Fi b k<=G b k)/\∀ i s,(jn ps v)[i]?=some s->∃ y,xs[i]?=some y/\(∀ σ a,dq P A σ a w y s (Fi i))/\(∀ t m H v,s=.box t m H v->(n+i,n+i,false) ∈ wm n ps) /\
    ((n+i,n+i,true) ∈ wm n ps->∃ t m H v,s=.own t m H v):=by
  have a_:∀ (ps:List (PM×Ty)) (n j k:Nat) (c:Bool),(j,k,c) ∈ wm n ps->n<=j/\j=k:=by
   intro ps
   induction ps with
   | nil=>intro n j k c h;cases h
   | cons p ps ih=>
    intro n j k c h;obtain ⟨pm,t⟩:=p
    cases pm with
    | ro=>have:=ih (n+1) j k c h;omega
    | fix f=>have:=ih (n+1) j k c h;omega
    | nK m=>have:=ih (n+1) j k c h;omega
    | ke m m'=>
     rcases aY.1 h with e | h
     all_goals grind
    | tw m=>
     rcases aY.1 h with e | h
     all_goals grind
    | lT m=>
     rcases aY.1 h with e | h
     all_goals grind
  intro ps
  induction ps with
  | nil=>intro n v xs G h _;exact ⟨λ_ _ _=>0,λb k=>aZ _,λi s hs=>by cases hs⟩
  | cons p ps ih=>
   intro n v xs G h hp;obtain ⟨pm,t⟩:=p;obtain ⟨y,ys,F1,F2,rfl,hs,ha,hr⟩:=h;have hp':JB ps=true:=hp;obtain ⟨Fi,g1,g2⟩:=ih (n+1) hr hp'
   obtain ⟨s0,hs0,Y9,acm,iU⟩:∃ s0,jn ((pm,t)::ps) v=s0::jn ps v.2/\(∀ σ a,dq P A σ a w y s0 F1)/\(∀ t' m' H' v',s0=.box t' m' H' v'->∃ m,(∃ m',pm=.ke m m')\/pm=.tw m)/\((∃ m,pm=.lT m)->∃ t' m H v,s0=.own t' m H v):=by
    cases pm with
    | ro=>
     obtain ⟨cs,h1,h2⟩:=ha
     cases t with
     | ptr e=>
      refine ⟨.cp e v.1,rfl,λσ a=>?_,(λ_ _ _ _ e=>by cases e),λ⟨m,e⟩=>by cases e⟩
      have hl:=Ro.length _ h2
      match cs,hl with
      | [u],_=>
       rw[ee _ _ rfl] at h1;subst h1;exact h2
     | _=>exact ⟨.val _ v.1,rfl,λσ a=>⟨cs,h1,h2⟩,(λ_ _ _ _ e=>by cases e),λ⟨m,e⟩=>by cases e⟩
    | fix f=>
     obtain ⟨⟨cs,h1,h2⟩,h3⟩:=ha
     cases t with
     | fn=>
      refine ⟨.val .fn (f,v.1.2),rfl,λσ a=>⟨cs,h1,?_⟩,(λ_ _ _ _ e=>by cases e),λ⟨m,e⟩=>by cases e⟩
      grind
     | _=>exact ⟨.dead,rfl,λσ a=>trivial,(λ_ _ _ _ e=>by cases e),λ⟨m,e⟩=>by cases e⟩
    | ke m m'=>
     obtain ⟨b,o,L,F3,h1,h2,h3,h4,h5,h6⟩:=ha;exact ⟨.box t m [] v.1,rfl,λσ a=>⟨b,o,L,F3,h1,h2,h3,h4,h5,h6⟩,λ_ _ _ _ _=>⟨m,.inl ⟨m',rfl⟩⟩,λ⟨m,e⟩=>by cases e⟩
    | tw m=>
     obtain ⟨b,o,L,F3,h1,h2,h3,h4,h5,h6⟩:=ha;exact ⟨.box t m [] v.1,rfl,λσ a=>⟨b,o,L,F3,h1,h2,h3,h4,h5,h6⟩,λ_ _ _ _ _=>⟨m,.inr rfl⟩,λ⟨m,e⟩=>by cases e⟩
    | lT m=>
     obtain ⟨cs,h1,h2⟩:=ha;exact ⟨.own t m [] v.1,rfl,λσ a=>⟨cs,h1,h2⟩,(λ_ _ _ _ e=>by cases e),λ_=>⟨_,_,_,_,rfl⟩⟩
    | nK m=>
     obtain ⟨H,cs,hH,h1,h2⟩:=ha;obtain rfl:=bD.1 hH;exact ⟨.own t m [] v.1,rfl,λσ a=>⟨cs,h1,h2⟩,(λ_ _ _ _ e=>by cases e),λ_=>⟨_,_,_,_,rfl⟩⟩
   refine ⟨λk=>match k with | 0=>F1 | k+1=>Fi k,λb k=>?_,λi s hi=>?_⟩
   ·have:bk (ps.length+1) (λk=>match k with | 0=>F1 | k+1=>Fi k) b k=F1 b k+bk ps.length Fi b k:=by
     rw[Nat.add_comm,wr];grind [bk]
    grind
   ·rw[hs0] at hi
    cases i with
    | zero=>
     injection hi with hi;subst hi;refine ⟨y,rfl,Y9,λt' m' H' v' e=>?_,λhm=>?_⟩
     ·obtain ⟨m,⟨_,rfl⟩ | rfl⟩:=acm t' m' H' v' e
      ·exact bB
      ·exact bB
     ·refine iU ?_
      cases pm with
      | lT m=>exact ⟨m,rfl⟩
      | ro=>have:=a_ ps (n+1) _ _ _ hm;omega
      | fix f=>have:=a_ ps (n+1) _ _ _ hm;omega
      | nK m=>have:=a_ ps (n+1) _ _ _ hm;omega
      | ke m m'=>
       rcases aY.1 hm with e | hm
       all_goals grind
      | tw m=>
       rcases aY.1 hm with e | hm
       all_goals grind
    | succ i=>
     obtain ⟨y',q1,q2,q3,q4⟩:=g2 i s hi;have Y_:n+1+i=n+(i+1):=by omega
     rw[Y_] at q3 q4;refine ⟨y',q1,q2,λt' m' H' v' e=>?_,λhm=>q4 ?_⟩
     ·have:=q3 t' m' H' v' e
      cases pm with
      | ro=>exact this
      | fix f=>exact this
      | nK m=>exact this
      | ke m m'=>exact aW _ this
      | tw m=>exact aW _ this
      | lT m=>exact aW _ this
     ·cases pm with
      | ro=>exact hm
      | fix f=>exact hm
      | nK m=>exact hm
      | ke m m'=>
       rcases aY.1 hm with e | hm
       all_goals grind
      | tw m=>
       rcases aY.1 hm with e | hm
       all_goals grind
      | lT m=>
       rcases aY.1 hm with e | hm
       all_goals grind
 intro ps v xs G h hp;obtain ⟨Fi,g1,g2⟩:=main ps 0 h hp;exact ⟨Fi,g1,λi s hi=>by grind⟩
theorem Pp:∀ (ps:List (PM×Ty)) (n j k:Nat) (c:Bool),(j,k,c) ∈ wm n ps->n<=j/\j=k/\j < n+ps.length:=by
 intro ps
 induction ps with
 | nil=>intro n j k c h;cases h
 | cons p ps ih=>
  intro n j k c h;obtain ⟨pm,t⟩:=p;simp only[bM]
  cases pm with
  | ro=>have:=ih (n+1) j k c h;omega
  | fix f=>have:=ih (n+1) j k c h;omega
  | nK m=>have:=ih (n+1) j k c h;omega
  | ke m m'=>
   rcases aY.1 h with e | h
   all_goals grind
  | tw m=>
   rcases aY.1 h with e | h
   all_goals grind
  | lT m=>
   rcases aY.1 h with e | h
   all_goals grind
theorem Pq:∀ (ss:List Slot) (n i:Nat),oF (Ci n ss) i=if n<=i then ss[i - n]? else none
 | [],n,i=>by simp[Ci,oF]
 | s::ss,n,i=>by
  simp only[Ci,oF,Pq ss (n+1) i];by_cases hi:n=i
  ·simp_all
  grind [Nat.eq_of_beq_eq_true]
theorem Za {g:uQ} {v:(c9 (g.ps.map (·.2))).den} {xs:List Value} {F0:FP} {n:Nat} (h:qc P w A O3 g.ps v xs F0) (hp:JB g.ps=true) (hn:g.ps.length<=n) (h1:∀ b i,F0 b i<=1) (h2:∀ b i,1<=F0 b i->¬ A b i) (h3:∀ b i,1<=F0 b i\/A b i->b < w.heap.size) (JD:xO P w F0) :
  ∃ F,ey P { w0:=w,A0:=A,F0:=F0,args:=xs.toArray } A (Ec g.ps v n) { tmps:=xs.toArray++Array.replicate (n - xs.toArray.size) undef,defers:=[] } w F:=by
 obtain ⟨Fi,g1,g2⟩:=abv g.ps h hp;have hlen:=JC g.ps h;have hil:=x_ g.ps v
 have yR:∀ i,(Ec g.ps v n).get i=if i < n then (match (jn g.ps v)[i]? with | some s=>s | none=>.dead) else .dead:=λi=>by
  grind [St.get,Ec,Pq,Nat.blt_eq]
 have aeV:∀ i (y:Value),xs[i]?=some y->tmp { tmps:=xs.toArray++Array.replicate (n - xs.toArray.size) undef,defers:=[] } i=y:=λi y hy=>by
  have hi:=(aM.1 hy).1;simp_all [tmp,dY]
 have rg:∀ b k,bk n (λi=>if i < g.ps.length then Fi i else λ_ _=>0) b k<=F0 b k:=λb k=>by
  have e:n=g.ps.length+(n - g.ps.length):=by omega
  rw[e,wr];have e1:=congrFun (congrFun (yJ (n:=g.ps.length) (f:=λi=>if i < g.ps.length then Fi i else λ_ _=>0) (g:=Fi) (λj hj=>by grind)) b) k;grind [ns]
 refine ⟨λi=>if i < g.ps.length then Fi i else λ_ _=>0,?_,rfl,λi hi=>?_,(λd r p snap hm=>by cases hm),λb k=>?_,λb k hp=>?_,λb k hp=>?_,λi=>rfl,Ext.refl _ _,λb k hp=>?_,λ_ _ h=>h,λ_ _ h=>.inl h,λj k hm=>?_,λr t m H v' hg hl=>?_,λj k hm R hR=>?_,JD⟩
 ·grind [Ec]
 ·rw[yR];have hi:i < n:=hi;rw[aR hi]
  cases hs:(jn g.ps v)[i]? with
  | none=>trivial
  | some s=>
   grind
 ·have:=rg b k;have:=h1 b k;show 0+bk n _ b k<=1;omega
 ·have hp:1<=0+bk n (λi=>if i < g.ps.length then Fi i else λ_ _=>0) b k:=hp;grind
 ·refine h3 b k (hp.imp (λhp=>?_) id);have hp:1<=0+bk n (λi=>if i < g.ps.length then Fi i else λ_ _=>0) b k:=hp;grind
 ·have hp:1<=0+bk n (λi=>if i < g.ps.length then Fi i else λ_ _=>0) b k:=hp;grind
 ·obtain ⟨_,rfl,hj⟩:=Pp g.ps 0 j k false hm;simp_all
 ·exfalso;rw[yR] at hg;split at hg
  ·cases hs:(jn g.ps v)[r]? with
   | none=>grind
   | some s=>
    rw[hs] at hg;obtain ⟨y,_,_,q3,_⟩:=g2 r s hs;exact hl r (q3 t m H v' hg)
  ·cases hg
 ·obtain ⟨_,rfl,hj⟩:=Pp g.ps 0 j k true hm;have Bt:j < (jn g.ps v).length:=by omega
  have hs:=aB Bt;obtain ⟨y,q1,q2,_,q4⟩:=g2 j _ hs;obtain ⟨t,m,H,v',e⟩:=q4 hm;have hjn:j < n:=by omega
  rw[yR,aR hjn,hs] at hR;simp only[e,et,aQ] at hR;subst hR;rw[aeV j y q1];have h2:=q2 (Ec g.ps v n) { tmps:=#[],defers:=[] };rw[e] at h2;obtain ⟨cs,c1,c2⟩:=h2;have:=lW (ax.length _ c2) (ax.one _ c2);simp_all
noncomputable def N6 (P:Program) (E:Env) (fn:Func) (ps:List (PM×Ty)) (rs:List (Ty×Md)) (es:List Nat):Bool:=
 codeOk P E (GK fn)&&JA E rs fn.results.toList&&JB ps&&Nat.ble ps.length fn.ntmps&&decide es.Nodup
theorem NQ (hE:uq P E) {f:FuncId} {fn:Func} (hf:P.funcs[f]?=some fn) (hb:fn.body.isSome=true) {g:uQ} (hh:∀ v H,g.Eb v H=true->H=[]) {es fr:List Nat} (bf:N6 P E fn g.ps g.rs es=true) (hF:∀ v out,g.F v=some out->∃ k,NZ E k fn g.ps g.rs es fr v=some out):Sound P f g:=by
 intro w A F0 v xs lO h1 h2 h3 JD out mL;replace lO:=lO.none (hh v);obtain ⟨k,hk⟩:=hF v out mL;simp only[N6,aD,dL,bP] at bf;obtain ⟨⟨⟨⟨aaJ,hrv⟩,yX⟩,hnt⟩,xF⟩:=bf;obtain ⟨c,hc⟩:=eB.1 hb;have hbo:GK fn=c:=by simp[GK,hc]
 rw[hbo] at aaJ;obtain ⟨F,Y9⟩:=Za lO yX hnt h1 h2 h3 JD;unfold NZ at hk;rw[hbo] at hk;have hxl:=JC g.ps lO
 have zW:∀ (a':Act) (w':World) (σ':St),Oy g.ps g.rs es fn.results.toList (mvs fr) σ'=some out->G0 P { w0:=w,A0:=A,F0:=F0,args:=xs.toArray } σ' a' w' ->
   a'.defers=[]/\∃ rv,(results fn a'.tmps).run P w'=.ok rv w'/\(∃ Dx,Ending.returned rv=.returned Dx/\Ext w w' F0/\∃ (A':Cells) (G GR GM:FP),(∀ b i,A b i->A' b i)/\(∀ b i,A' b i->A b i\/1<=F0 b i\/w.heap.size<=b) /\
    (∀ b i,1<=G b i->1<=F0 b i\/w.heap.size<=b)/\(∀ b i,G b i<=1)/\(∀ b i,1<=G b i->¬ A' b i)/\(∀ b i,1<=G b i\/A' b i->b < w'.heap.size)/\(∀ b i,GR b i+GM b i<=G b i) /\
    nx P w' A' (lQ g.rs out).1 Dx GR/\nG P w' A' g.ps (lQ g.rs out).2 xs GM):=by
  intro a' w' σ' ho hr;obtain ⟨A1,F1,hr⟩:=hr;unfold Oy at ho;obtain ⟨A2,mT,X2,F2,E_,L,Fi,pre,r1,r2,r3,r4,r5,r6,r7,r8,r9⟩:=acG hE g.rs fn.results.toList 0 hrv hr ho;obtain ⟨vs,us,Gi,m1,m2,m3,m4,m5,m6⟩:=abu r2 0 g.ps es yX xF (by simp[hxl]) r3;have aeW:pre vs=out:=Option.some.inj m1;have oT:lQ g.rs out=(L,vs):=by rw[<-aeW,r4]
  have Xb:∀ b i,bk L.length Fi b i<=X2 b i:=λb i=>by grind
  have aeX:∀ b i,qv Gi us b i<=qv F2 us b i:=λb i=>by
   have:∀ l:List Nat,(∀ j ∈ l,j ∈ us)->qv Gi l b i<=qv F2 l b i:=by
    intro l
    induction l <;> grind [qv]
   grind
  have hGM:∀ b i,qv Gi us b i<=bk mT.n F2 b i:=λb i=>bG (aeX b i) (Td us F2 m3 m4 b i);refine ⟨r2.defers,_,RF (by rw[r6]) r7,_,rfl,r2.ext,?_⟩
  obtain ⟨A3,sH⟩:∃ A3:Cells,∀ b i,A3 b i↔(A2 b i\/(1<=X2 b i+bk mT.n F2 b i/\bk L.length Fi b i+qv Gi us b i=0)):=⟨λb i=>A2 b i\/(1<=X2 b i+bk mT.n F2 b i/\bk L.length Fi b i+qv Gi us b i=0),λ_ _=>iL⟩
  have acH:∀ b i,A2 b i->A3 b i:=λb i h=>(sH b i).2 (.inl h);have yQ:∀ b i,X2 b i+bk mT.n F2 b i<=1:=λb i=>r2.qe b i;refine ⟨A3,λb i=>bk L.length Fi b i+qv Gi us b i,bk L.length Fi,qv Gi us,λb i ha=>acH b i (r2.a0 b i ha),λb i ha=>?_,λb i hp=>?_,λb i=>?_,λb i hp ha=>?_,λb i hp=>?_,λ_ _=>aH _,?_,?_⟩
  ·rcases (sH b i).1 ha with ha | ⟨hp,_⟩
   ·exact r2.a1 b i ha
   ·exact .inr (r2.own b i hp)
  ·have hp:1<=bk L.length Fi b i+qv Gi us b i:=hp;exact r2.own b i (by grind)
  ·grind
  ·have hp:1<=bk L.length Fi b i+qv Gi us b i:=hp
   rcases (sH b i).1 ha with ha | ⟨_,hz⟩
   ·exact r2.rh b i (by grind) ha
   ·omega
  ·rcases hp with hp | ha
   ·have hp:1<=bk L.length Fi b i+qv Gi us b i:=hp;exact r2.k9 b i (.inl (by grind))
   ·rcases (sH b i).1 ha with ha | ⟨hp,_⟩
    ·exact r2.k9 b i (.inr ha)
    ·exact r2.k9 b i (.inl hp)
  ·rw[oT]
   have UK:=r9 A3 acH (λb i hx _ hz=>(sH b i).2 (.inr ⟨by omega,by
    grind⟩))
   show nx P w' A3 L _ _
   match L,r5,UK with
   | [],_,_=>trivial
   | [y],hl,UK=>
    match E_,hl with
    | [u],_=>
     obtain ⟨u',cs,e1,e2,e3⟩:=UK 0 y rfl;injection e1 with e1;subst e1;refine ⟨cs,by simpa using e2,e3.le λb i=>by simp[bk]⟩
   | y::z::L,hl,UK=>
    refine ⟨E_.toArray,Fi,?_,λ_ _=>aH _,λj q hq=>?_⟩
    all_goals grind
  grind [dz,Pn,wo]
 refine calls_of_wp hf hc (wp_mono (abt hE c aaJ Y9 hk) λe a' w' hq=>?_)
 cases e with
 | normal=>obtain ⟨σ',h4,h5⟩:=hq;exact zW a' w' σ' h4 h5
 | ret=>obtain ⟨σ',h4,h5⟩:=hq;exact zW a' w' σ' h4 h5
 | exit j=>obtain ⟨σ',h4,h5⟩:=hq;cases h4
 | _=>exact hq.elim
end
end OT
namespace OT
open Go
def Pr (w:World):Cells:=λb _=>b < w.heap.size
def DY:Ty->Bool
 | .int _ | .bool | .str | .unit=>true
 | .pair a b=>DY a&&DY b
 | .aa e=>DY e
 | _=>false
def uG:(T:Ty)->T.den->Prop
 | .int k,n=>k.min<=qR k n/\qR k n<=k.max
 | .str,s=>List.length s<=maxLen
 | .pair a b,v=>uG a v.1/\uG b v.2
 | .aa e,v=>List.length v<=maxLen/\∀ x ∈ (v:List e.den),uG e x
 | _,_=>True
def Xc:(ps:List (PM×Ty))->(c9 (ps.map (·.2))).den->Prop
 | [],_=>True
 | (_,T)::ps,v=>uG T v.1/\Xc ps v.2
section
variable {P:Program} {w:World} {H:Type} {enc:TypeId×Value->H}
theorem JE {T:Ty} {i:TypeId} (h:bn P T (.inl i)=true):P.cellsOf i=T.sz:=by
 obtain ⟨inf,h1,h2,_⟩:=lG (lX h);grind [Program.cellsOf]
theorem Zb {a:Addr} {k:Nat} {u:Value} (h:w.cell? (a.add k)=some u) (hk:k=0\/a.spot=none):a.spot=none:=by
 rcases hk with rfl | hk
 ·unfold Addr.add at h;rw[aR rfl] at h;unfold World.cell? at h;split at h
  all_goals simp_all
 ·exact hk
theorem abw:∀ (T:Ty),DY T=true ->
  (∀ i,bn P T (.inl i)=true->∀ fuel cs x,DataW.trod enc P w 0 (λ_=>true) true fuel i cs=some x->∃ v:T.den,uG T v/\Ro P w (Pr w) T v cs) /\
  (∀ fs off,bn P T (.inr (fs,off))=true->∀ n (cs:List Value),cs.length=off+T.sz->(∀ f ∈ fs,∃ x,DataW.trod enc P w 0 (λ_=>true) true n f.type ((cs.drop f.offset).take (P.cellsOf f.type))=some x)->∃ v:T.den,uG T v/\Ro P w (Pr w) T v (cs.drop off)):=by
 intro T
 induction T with
 | int k=>
  intro _;refine ⟨λi hl fuel cs x h=>?_,λfs off hl=>by simp[bn] at hl⟩
  obtain ⟨n,rfl,_,hwf⟩:=DataW.trod_int (qI hl) h;simp only[Lit.wf,aD,bP] at hwf
  cases k with
  | u8=>
   have h1:qR .u8 (UInt8.ofInt n)=n:=by
    have:=L6 .u8 n (λ_=>by
     have h1:(0:Int)<=n:=hwf.1;have h2:n<=(255:Int):=hwf.2
     omega)
    exact this
   refine ⟨(UInt8.ofInt n:UInt8),?_,?_⟩
   ·show IntKind.u8.min<=qR .u8 (UInt8.ofInt n)/\qR .u8 (UInt8.ofInt n)<=IntKind.u8.max;grind
   ·show [Value.int .u8 n]=[Value.int .u8 (qR .u8 (UInt8.ofInt n))]
    rw[h1]
  | _=>exact ⟨n,hwf,rfl⟩
 | bool=>
  intro _;refine ⟨λi hl fuel cs x h=>?_,λfs off hl=>by simp[bn] at hl⟩
  have hu:P.underlying i=some .bool:=by
   grind [bn]
  obtain ⟨b,rfl,_⟩:=DataW.trod_bool hu h;exact ⟨b,trivial,rfl⟩
 | str=>
  intro _;refine ⟨λi hl fuel cs x h=>?_,λfs off hl=>by simp[bn] at hl⟩
  obtain ⟨s,rfl,_,Xd⟩:=DataW.trod_string (nF hl) h;exact ⟨s.data.toList,(by show s.data.toList.length<=maxLen;simp_all),by simp only[Ro]⟩
 | unit=>
  intro _;refine ⟨λi hl fuel cs x h=>?_,λfs off hl n cs hlen _=>⟨(),trivial,?_⟩⟩
  ·simp only[bn,aD] at hl;have h2:=hl.2;split at h2
   ·rename_i fs hu;obtain ⟨xs,n,_,_,hlen,_⟩:=DataW.trod_struct hu h
    have nt:P.cellsOf i=0:=by
     grind [lG,Program.cellsOf,Ty.sz]
    rw[nt] at hlen;exact ⟨(),trivial,by grind [Ro]⟩
   ·cases h2
  grind [Ro,List.drop_of_length_le,Ty.sz]
 | pair a b nE nw=>
  intro ha;simp only[DY,aD] at ha
  have acI:∀ fs off,bn P (.pair a b) (.inr (fs,off))=true->∀ n (cs:List Value),cs.length=off+(Ty.pair a b).sz->(∀ f ∈ fs,∃ x,DataW.trod enc P w 0 (λ_=>true) true n f.type ((cs.drop f.offset).take (P.cellsOf f.type))=some x)->∃ v:(Ty.pair a b).den,uG (.pair a b) v/\Ro P w (Pr w) (.pair a b) v (cs.drop off):=by
   intro fs off hl n cs hlen hf
   cases fs with
   | nil=>simp[bn] at hl
   | cons f r=>
    simp only[bn,aD,eP,dL] at hl;obtain ⟨⟨⟨ho,_⟩,h1⟩,h2⟩:=hl;simp only[Ty.sz] at hlen;obtain ⟨x,hx⟩:=hf f bB;rw[ho,JE h1] at hx;obtain ⟨v1,o1,r1⟩:=(nE ha.1).1 _ h1 _ _ _ hx;obtain ⟨v2,o2,r2⟩:=(nw ha.2).2 r (off+a.sz) h2 n cs Bys (λf' hf'=>hf f' (aW _ hf'));exact ⟨(v1,v2),⟨o1,o2⟩,r1,by simp_all⟩
  refine ⟨λi hl fuel cs x h=>?_,acI⟩
  have hl0:=hl;simp only[bn,aD] at hl;have h2:=hl.2;split at h2
  ·rename_i fs hu;split at h2
   ·rename_i f r Kr
    have h3:bn P (.pair a b) (.inr (f::r,0))=true:=by
     grind [bn]
    obtain ⟨xs,n,_,_,hlen,hxl,abx⟩:=DataW.trod_struct hu h;rw[JE hl0] at hlen
    have:=acI (f::r) 0 h3 n cs Bys (λf' hf'=>by
     rw[<-Kr] at hf';obtain ⟨j,hj,e⟩:=cK.1 hf';have Bt:j < fs.size:=by simpa using hj
     have:=abx j f' (by grind)
     grind)
    simpa using this
   ·cases h2
  ·cases h2
 | aa e ih=>
  intro ha;simp only[DY] at ha;refine ⟨λi hl fuel cs x h=>?_,λfs off hl=>by simp[bn] at hl⟩
  obtain ⟨el,hu,nt,hle⟩:=vV hl
  rcases DataW.trod_slice hu h with ⟨rfl,_⟩ | ⟨a,len,cap,elems,rest,n,_,rfl,_,_,hlc,hcm,rW,Zc,rG,_⟩
  ·exact ⟨[],⟨aZ _,λx hx=>by cases hx⟩,none,0,rfl,aH _,λ_=>rfl,λad e=>by cases e⟩
  ·rw[JE hle] at Zc rG
   have nI:∀ k y,(w.cells? 0 (a.add (k*e.sz)) e.sz).bind (DataW.trod enc P w 0 (λ_=>true) true n el)=some y->∃ cc,w.cells? 0 (a.add (k*e.sz)) e.sz=some cc/\DataW.trod enc P w 0 (λ_=>true) true n el cc=some y:=λk y hk=>by
    cases hc:w.cells? 0 (a.add (k*e.sz)) e.sz <;> grind
   have aaK:0 < cap->a.spot=none:=λJu=>by
    have O0:∃ cc,w.cells? 0 (a.add (0*e.sz)) e.sz=some cc:=by
     by_cases hlen:0 < len
     ·have h0:=Zc 0 hlen;rw[aB Bys] at h0;obtain ⟨cc,h1,_⟩:=nI 0 _ h0;grind
     ·obtain rfl:len=0:=by omega
      obtain ⟨zH,yp⟩:=rG rfl;have h0:=yp 0 Bys;rw[aB Bys] at h0;obtain ⟨cc,h1,_⟩:=nI (0+0) _ h0;grind
    obtain ⟨cc,h1⟩:=O0;obtain ⟨_,vM,h2⟩:=World.cells?_some h1;grind [Addr.add,Zb]
   have each:∀ k:Fin len,∃ v:e.den,uG e v/\∃ L:List Value,L.length=e.sz/\(∀ j u,L[j]?=some u->ce w a.block (a.off+k.val*e.sz+j)=some u/\Pr w a.block (a.off+k.val*e.sz+j))/\Ro P w (Pr w) e v L:=λk=>by
    have h0:=Zc k.val k.isLt;rw[aB (by grind)] at h0;obtain ⟨cc,h1,h2⟩:=nI k.val _ h0;obtain ⟨v,ho,hv⟩:=(ih ha).1 _ hle _ _ _ h2;obtain ⟨_,vM,h3⟩:=World.cells?_some h1;refine ⟨v,ho,cc,vM,λj u hu=>?_,hv⟩
    have hj:=(aM.1 hu).1;have h4:=h3 j Bys;rw[hu] at h4;have oT:=aaK (by grind);obtain ⟨b,off,sp⟩:=a;simp only at oT;subst oT;rw[qG,qG] at h4;have h5:ce w b (off+k.val*e.sz+j)=some u:=H9 h4 (Ro.one e hv u (bI hu));exact ⟨h5,yW h5⟩
   obtain ⟨f,hf⟩:=fQ each;refine ⟨List.ofFn f,⟨by simp;omega,λx hx=>?_⟩,some a,cap,by simp,by simpa using hlc,(λe=>by cases e),λad e=>?_⟩
   ·grind
   injection e with e;subst e;refine ⟨aaK,λk y hk=>?_⟩
   rw[List.getElem?_ofFn] at hk;split at hk
   ·rename_i a_;injection hk with hk;subst hk;exact (hf ⟨k,a_⟩).2
   ·cases hk
 | _=>grind [DY]
theorem arg_val {T:Ty} (ha:DY T=true) {i:TypeId} (hl:bn P T (.inl i)=true) {r:Reach} {b0:Nat} {v:Value} (h:Value.okWide P w r b0 i v):v=cu T v.cells.toList:=by
 cases T with
 | int k=>
  have hu:=qI hl;cases v <;> simp[Value.okWide,Cell.okWide,Cell.ok,hu] at h <;> simp[cu,isAgg,Value.cells]
 | bool=>
  have hu:P.underlying i=some .bool:=by
   grind [bn]
  cases v <;> simp[Value.okWide,Cell.okWide,Cell.ok,hu] at h <;> simp[cu,isAgg,Value.cells]
 | str=>
  have hu:=nF hl;cases v <;> simp[Value.okWide,Cell.okWide,Cell.ok,hu] at h <;> simp[cu,isAgg,Value.cells]
 | aa e=>
  obtain ⟨el,hu,_⟩:=vV hl;cases v <;> simp[Value.okWide,Cell.okWide,Cell.ok,hu] at h <;> simp[cu,isAgg,Value.cells]
 | unit=>
  simp only[bn,aD] at hl;have h2:=hl.2;split at h2
  ·rename_i fs hu;simp only[Value.okWide,hu] at h;obtain ⟨cs,rfl,_⟩:=h;simp[cu,isAgg,Value.cells]
  ·cases h2
 | pair a b=>
  simp only[bn,aD] at hl;have h2:=hl.2;split at h2
  ·rename_i fs hu;simp only[Value.okWide,hu] at h;obtain ⟨cs,rfl,_⟩:=h;simp[cu,isAgg,Value.cells]
  ·cases h2
 | _=>simp[DY] at ha
def Dy (P:Program):List (PM×Ty)->List TypeId->Bool
 | [],[]=>true
 | (.ro,T)::ps,t::ts=>DY T&&bn P T (.inl t)&&P.readableRec t&&Nat.blt t P.types.size&&Dy P ps ts
 | _,_=>false
theorem Te:∀ (ps:List (PM×Ty)) (ts:List TypeId) (args:List Value) (ds:List (DataW H)) (p:List MemPlace) {b0:Nat},Dy P ps ts=true->DataW.TrodAll enc P w 0 (λ_=>true) true ts args ds p ->
  (∀ (j:Nat) t v,ts[j]?=some t->args[j]?=some v->Value.okWide P w .any b0 t v)->∃ v,Xc ps v/\qc P w (Pr w) O3 ps v args (λ_ _=>0)
 | [],[],args,ds,p,b0,_,h,_=>by
  cases args with
  | nil=>exact ⟨(),trivial,rfl⟩
  | cons _ _=>simp[DataW.TrodAll] at h
 | (.ro,T)::ps,t::ts,args,ds,p,b0,hl,h,bf=>by
  simp only[Dy,aD] at hl
  cases args with
  | nil=>simp[DataW.TrodAll] at h
  | cons v args=>
   cases ds with
   | nil=>simp[DataW.TrodAll] at h
   | cons d ds=>
    obtain ⟨p1,q1,⟨fuel,h1⟩,h2,_⟩:=h;obtain ⟨x,hox,hx⟩:=(abw T hl.1.1.1.1).1 t hl.1.1.1.2 _ _ _ h1;obtain ⟨xs,aeY,hxs⟩:=Te ps ts args ds q1 (b0:=b0) hl.2 h2 (λj t' v' ht hv=>bf (j+1) t' v' ht hv);exact ⟨(x,xs),⟨hox,aeY⟩,v,args,λ_ _=>0,λ_ _=>0,rfl,λ_ _=>aH _,⟨_,arg_val hl.1.1.1.1 hl.1.1.1.2 (bf 0 t v rfl rfl),hx⟩,hxs⟩
theorem M7 (wh:laidOutB P=true) {W W':World} (hb:RowKit.Below W.heap.size W W') {sp:Nat->Bool}:∀ (ps:List (PM×Ty)) (ts:List TypeId) (args:List Value) (ds:List (DataW H)) (p:List MemPlace),Dy P ps ts=true->DataW.TrodAll enc P W 0 (λ_=>true) true ts args ds p ->
  (∀ x ∈ p,x.block < W.heap.size)->(∀ x ∈ p,sp x.block=true)->DataW.TrodAll enc P W' 0 sp true ts args ds p
 | [],[],args,ds,p,_,h,_,_=>by
  grind [DataW.TrodAll]
 | (.ro,T)::ps,t::ts,args,ds,p,hl,h,a_,oT=>by
  simp only[Dy,aD] at hl
  cases args with
  | nil=>simp[DataW.TrodAll] at h
  | cons v args=>
   cases ds with
   | nil=>simp[DataW.TrodAll] at h
   | cons d ds=>
    obtain ⟨p1,q1,h1,h2,rfl⟩:=h;have ht:t < P.types.size:=by simp_all
    exact ⟨p1,q1,WideElems.Trod_stays wh hl.1.1.2 ht h1 (λx hx=>hb.same (a_ x (List.mem_append_left _ hx))) (λx hx=>oT x (List.mem_append_left _ hx)),
     M7 wh hb ps ts args ds q1 hl.2 h2 (λx hx=>a_ x (List.mem_append_right _ hx)) (λx hx=>oT x (List.mem_append_right _ hx)),rfl⟩
theorem Xe {f:FuncId} {cap:Bool} {ps:List (PM×Ty)} {Fn:(c9 (ps.map (·.2))).den->Option (c9 ([((Ty.bool,an .bool):Ty×Md)].map (·.1)++lP ps)).den} (hs:Sound P f { cap:=cap,ps:=ps,rs:=[(.bool,an .bool)],F:=Fn }) (UL:∀ v,Xc ps v->∃ u,Fn v=some (true,u))
  {ts:List TypeId} (hl:Dy P ps ts=true) {args:List Value} {ds:List (DataW H)} {p:List MemPlace} (hA:DataW.TrodAll enc P w 0 (λ_=>true) true ts args ds p) {b0:Nat} (bf:∀ (j:Nat) t v,ts[j]?=some t->args[j]?=some v->Value.okWide P w .any b0 t v) (ht:xO P w λ_ _=>0) :
  Calls P f args.toArray w λe W'=>e=.returned (.bool true)/\RowKit.Below w.heap.size w W':=by
 obtain ⟨v,hov,hv⟩:=Te ps ts args ds p hl hA bf;obtain ⟨u,hu⟩:=UL v hov;refine (hs w (Pr w) (λ_ _=>0) v args hv (λ_ _=>aZ _) (λb i h=>by omega) (λb i h=>?_) ht _ hu).mono λe W' h=>?_
 ·rcases h with h | h
  ·omega
  ·exact h
 ·obtain ⟨rv,rfl,eo,A',G,GR,GM,_,_,_,_,_,_,_,wb,_⟩:=h;obtain ⟨cs,h1,h2⟩:=wb;simp only[lQ] at h1 h2;have h2:cs=[.bool true]:=h2;subst h2;exact ⟨by rw[h1];rfl,eo.os,eo.tape,eo.output,eo.size,λb hb=>eo.obj b hb λ_=>rfl⟩
theorem Zd {C:Checked} {f:Func} {s:ChangeSpec} {W W':World} {args:Array Value} {ds:List (DataW H)} {p:List MemPlace} {apart fresh handsOn:Bool} (wh:laidOutB P=true) {ps:List (PM×Ty)} {ts:List TypeId} (hts:f.params.toList=ts) (hl:Dy P ps ts=true) {tb:TypeId} (hr:f.resultTypes=#[tb]) (hu:P.underlying tb=some .bool)
  (adD:s.vars=[]) (hW:DataW.Whole enc P f.params.toList s.vars apart W args.toList ds [] p) (hA:DataW.TrodAll enc P W 0 (λ_=>true) true ts args.toList ds p) (hfn:s.fn H (ds++[])={ results:=[.lit (.bool true)],args:=ds }) (hb:RowKit.Below W.heap.size W W') :
  s.post enc P f apart fresh handsOn false W args (.bool true) W':=by
 have a_:∀ x ∈ p,x.block < W.heap.size:=λx hx=>by simpa using hW.lt x hx
 refine ⟨ds,[],p,[],p,[],hW,?_,?_,?_,World.keptBut_mono (λx hx=>⟨hx,.inr (.inl hx)⟩) (hb.frame (· ∈ p)),λe=>by cases e⟩
 ·rw[hfn,hr];exact ⟨[],[],RowKit.shut_bool hu true,rfl,rfl⟩
 ·grind [M7]
 ·rw[hfn,adD];rfl
end
end OT
namespace OT
open Go
def UM (P:Program) (l:List (Nat×Ty)):Bool:=l.all λp=>bn P p.2 (.inl p.1)
def N7 (P:Program) (l:List (Nat×Ty)):Bool:=l.all λp=>!(p.2.o9&&isAgg p.2)||(s9 P p.2 (.inl p.1)&&(P.eqGuardType P.depth p.1 == false)&&Nat.ble (dep p.2) 10000)
theorem JF {α:Type}:∀ {l:List (Nat×α)} {i:Nat} {x:α},oF l i=some x->(i,x) ∈ l
 | (k,y)::l,i,x,h=>by
  simp only[oF] at h;split at h
  ·simp_all
  ·exact aW _ (JF h)
def Hc (P:Program) (l:List (Nat×uQ)):Prop:=∀ f g,oF l f=some g->Sound P f g/\vW P f g.cap
theorem ak (P:Program):Hc P []:=λf g h=>by cases h
theorem aby {P:Program} {f:Nat} {g:uQ} {l:List (Nat×uQ)} (h1:Sound P f g) (h2:vW P f g.cap) (h3:Hc P l):Hc P ((f,g)::l):=λf' g' h=>by
 simp only[oF] at h;split at h
 ·simp_all
 ·exact h3 f' g' h
theorem acJ {P:Program} {E:Env} {tl:List (Nat×Ty)} {gl:List (Nat×uQ)} (h1:E.TI=oF tl) (h2:E.G=oF gl) (h3:UM P tl=true) (h4:N7 P tl=true) (h5:Hc P gl):uq P E where
 ti i T h:=by rw[h1] at h;exact bH.1 h3 _ (JF h)
 eq i T h hq ha:=by
  rw[h1] at h;have:=bH.1 h4 _ (JF h);simp_all
 fn f g h:=by rw[h2] at h;exact h5 f g h
def Ok (P:Program) (f:FuncId) (g:uQ):Prop:=Sound P f g/\vW P f g.cap
theorem fc {P:Program} {f:Nat} {g:uQ} {l:List (Nat×uQ)} (h:Ok P f g) (h3:Hc P l):Hc P ((f,g)::l):=aby h.1 h.2 h3
def Ps (fn:Func) (cap:Bool):Bool:=!(fn.name == "runtime.NumGoroutine")&&!fn.body.isNone&&Nat.beq fn.nfree (match cap with | true=>1 | false=>0)
noncomputable def okB (P:Program) (E:Env) (fn:Func) (ps:PQ) (rs:RQ) (es:List Nat) (cap:Bool) (tl:TL):Bool:=(UM P tl&&N7 P tl)&&(Ps fn cap&&N6 P E fn ps rs es)
theorem adE {P:Program} {E:Env} {f:FuncId} {fn:Func} (hf:P.funcs[f]?=some fn) {g:uQ} (hh:∀ v H,g.Eb v H=true->H=[]) {es fr:List Nat} {tl:TL} {gl:GL} (h1:E.TI=oF tl) (h2:E.G=oF gl) (bf:okB P E fn g.ps g.rs es g.cap tl=true) (hg:Hc P gl) (hF:∀ v,g.F v=lift λk=>NZ E k fn g.ps g.rs es fr v):Ok P f g:=by
 simp only[okB,Ps,aD,cH,eP] at bf;obtain ⟨⟨a1,a2⟩,⟨⟨b1,b2⟩,b3⟩,c⟩:=bf
 have hb:fn.body.isSome=true:=by
  simp_all
 exact ⟨NQ (acJ h1 h2 a1 a2 hg) hf hb hh c λv out h=>Wl (by rw[<-hF];exact h),fn,hf,b1,b2,b3⟩
structure FD where
 fn:Func
 tl:TL
 ps:PQ
 rs:RQ
 gl:GL:=[]
 es:List Nat:=[]
 fr:List Nat:=[]
 cap:Bool:=false
 fz:List (Nat×Nat×Nat):=[]
 lv:List (Nat×List Nat):=[]
 lx:List (Nat×List Nat):=[]
 lf:List (Nat×List (Nat×Md)):=[]
 od:List (Nat×List Nat):=[]
 ar:List (Nat×List Nat):=[]
 bx:List (Nat×List Nat):=[]
 pd:List (Nat×List Nat):=[]
 er:List (Nat×List (Nat×Nat)):=[]
noncomputable def FD.E (D:FD):Env:={ TI:=oF D.tl,G:=oF D.gl,fz:=D.fz,lv:=D.lv,lx:=D.lx,lf:=D.lf,od:=D.od,ar:=D.ar,bx:=D.bx,pd:=D.pd,er:=D.er }
noncomputable def FD.W (D:FD) (k:Nat) (a:(c9 (D.ps.map (·.2))).den):Option (c9 (D.rs.map (·.1)++lP D.ps)).den:=NZ D.E k D.fn D.ps D.rs D.es D.fr a
noncomputable def FD.F (D:FD) (a:(c9 (D.ps.map (·.2))).den):Option (c9 (D.rs.map (·.1)++lP D.ps)).den:=lift λk=>D.W k a
noncomputable def FD.sig (D:FD):uQ:={ cap:=D.cap,ps:=D.ps,rs:=D.rs,F:=D.F }
noncomputable def FD.fin (D:FD):St->Option (c9 (D.rs.map (·.1)++lP D.ps)).den:=Oy D.ps D.rs D.es D.fn.results.toList (mvs D.fr)
noncomputable def FD.K0 (D:FD):KT (c9 (D.rs.map (·.1)++lP D.ps)).den:=acb D.fin
noncomputable def FD.N (D:FD) (k:Nat) (p:List Nat):St->KT (c9 (D.rs.map (·.1)++lP D.ps)).den->Option (c9 (D.rs.map (·.1)++lP D.ps)).den:=we D.E k D.fin (sub p (GK D.fn))
noncomputable def FD.L (D:FD) (k:Nat) (p live:List Nat) (Dj:List (Nat×Md)) (K:KT (c9 (D.rs.map (·.1)++lP D.ps)).den) (σ:St):Option (c9 (D.rs.map (·.1)++lP D.ps)).den:=H8 (D.N k p) (ge live Dj) K k σ
theorem ap {P:Program} {D:FD} {f:FuncId} (hf:P.funcs[f]?=some D.fn) (ht:(UM P D.tl&&N7 P D.tl)=true) (bf:(Ps D.fn D.cap&&N6 P D.E D.fn D.ps D.rs D.es)=true) (hg:Hc P D.gl):Ok P f D.sig:=
 adE (hh:=λ_ _ h=>bD.1 h) (es:=D.es) (fr:=D.fr) (tl:=D.tl) (gl:=D.gl) (E:=D.E) hf rfl rfl (by rw[okB,ht,dV];exact bf) hg λ_=>rfl
end OT
namespace OT
open Go
theorem bh {n:Int} (h:-9223372036854775808<=n/\n<=9223372036854775807):ag n=n:=by
 grind [ag,IntKind.wrap_i64]
theorem au:maxLen=9223372036854775807:=by simp[maxLen]
theorem qV {V R:Type} {B:(V->Option R)->V->Option R} (f:V->R) (I:V->Prop) (μ:V->Nat)
  (h:∀ v,I v->∀ self,B self v=some (f v)\/∃ v',B self v=self v'/\f v'=f v/\I v'/\μ v' < μ v):∀ (k:Nat) (v:V),I v->μ v < k->am B k v=some (f v)
 | 0,v,_,hk=>by omega
 | k+1,v,hI,hk=>by
  show B (am B k) v=some (f v)
  rcases h v hI (am B k) with h1 | ⟨v',h1,h2,h3,h4⟩
  ·exact h1
  ·rw[h1,qV f I μ h k v' h3 Bys,h2]
def CM {α:Type} (e:α->α->Bool) (xs ys:List α):Bool:=(xs.zip ys).all λp=>e p.1 p.2
theorem Xf {α:Type} (e:α->α->Bool) (xs ys:List α) (i:Nat) (hx:i < xs.length) (hy:i < ys.length):CM e (xs.drop i) (ys.drop i)=(e xs[i] ys[i]&&CM e (xs.drop (i+1)) (ys.drop (i+1))):=by
 grind [CM,List.drop_eq_getElem_cons,List.zip_cons_cons]
theorem JG {α:Type} {B:(Int->Option (Bool×Unit))->Int->Option (Bool×Unit)} {xs ys:List α} (e:α->α->Bool) (hlen:xs.length=ys.length) (yc:xs.length<=maxLen)
  (iZ:∀ (i:Nat) (hx:i < xs.length) (hy:i < ys.length) self,B self (i:Int)=if e xs[i] ys[i]=true then self (ag ((i:Int)+1)) else some (false,()))
  (mL:∀ self,B self (xs.length:Int)=some (true,())):∀ k,xs.length < k->am B k 0=some (CM e xs ys,()):=by
 intro k hk
 have h:=qV (B:=B) (λv=>(CM e (xs.drop v.toNat) (ys.drop v.toNat),())) (λv=>0<=v/\v<=(xs.length:Int)) (λv=>xs.length - v.toNat) (λv hv self=>by
  obtain ⟨h0,h1⟩:=hv;obtain ⟨i,rfl⟩:=cV h0;simp only[aC];by_cases hi:i < xs.length
  ·have hy:i < ys.length:=by omega
   rw[Xf e xs ys i hi hy,iZ i hi hy];cases he:e xs[i] ys[i] <;> grind [bh,au]
  ·have rE:i=xs.length:=by omega
   simp_all [CM]) k 0 ⟨by omega,by omega⟩ (by simpa using hk)
 simpa using h
theorem Xg {α:Type} {B:((List α×Int)->Option (List α×Unit))->(List α×Int)->Option (List α×Unit)} {xs:List α} (yc:xs.length<=maxLen)
  (iZ:∀ (i:Nat) (hx:i < xs.length) (acc:List α) self,acc.length=xs.length->B self (acc,(i:Int))=self (acc.set i xs[i],ag ((i:Int)+1)))
  (mL:∀ acc self,B self (acc,(xs.length:Int))=some (acc,())) (z:α):∀ k,xs.length < k->am B k (List.replicate xs.length z,0)=some (xs,()):=by
 intro k hk;refine qV (B:=B) (λ_=>(xs,())) (λv=>0<=v.2/\v.2<=(xs.length:Int)/\v.1.length=xs.length/\∀ j,j < v.2.toNat->v.1[j]?=xs[j]?) (λv=>xs.length - v.2.toNat) (λv hv self=>?_) k _ ⟨by simp,by simp,by simp,by simp⟩ (by simpa using hk);obtain ⟨acc,i⟩:=v;obtain ⟨h0,h1,h2,h3⟩:=hv;simp only at h0 h1 h2 h3;obtain ⟨i,rfl⟩:=cV h0;simp only[aC] at h3 ⊢;by_cases hi:i < xs.length
 ·right;have hw:ag ((i:Int)+1)=((i+1:Nat):Int):=by grind [bh,au]
  refine ⟨(acc.set i xs[i],((i+1:Nat):Int)),by grind,trivial,⟨by omega,by grind,by simpa using h2,λj hj=>?_⟩,?_⟩
  all_goals grind
 ·have rE:i=xs.length:=by omega
  subst rE;left;rw[mL]
  have:acc=xs:=eE λj=>by
   grind
  rw[this]
end OT
namespace OT
open Go
theorem CN {V R:Type} (B:(V->Option R)->V->Option R) (k:Nat) (v:V):am B (k+1) v=B (am B k) v:=rfl
def nu {α:Type} (f:α->Nat):List α->Nat
 | []=>0
 | x::xs=>f x+nu f xs
theorem Pt {α:Type} (f:α->Nat):∀ (xs:List α) (x:α),x ∈ xs->f x<=nu f xs
 | y::xs,x,h=>by
  simp only[nu];rcases aY.1 h with rfl | h
  ·omega
  ·have:=Pt f xs x h;omega
 | [],_,h=>by cases h
theorem AS {α:Type} (f:α->Nat) (h:∀ x,f x=0):∀ (xs:List α),nu f xs=0
 | []=>rfl
 | x::xs=>by simp[nu,h x,AS f h xs]
theorem Tf {α:Type} (f:α->Nat):∀ (xs:List α),nu (λx=>32*(f x+1)) xs=32*(xs.length+nu f xs)
 | []=>rfl
 | x::xs=>by simp only[nu,Tf f xs,bM];omega
def zz:(t:Ty)->t.den->Nat
 | .str,v=>List.length v
 | .pair a b,v=>zz a v.1+zz b v.2
 | .aa e,v=>List.length v+nu (zz e) v
 | _,_=>0
theorem KP {e:Ty} {xs:List e.den} {x:e.den} (h:x ∈ xs):zz e x+1<=zz (.aa e) xs:=by
 have:=Pt (zz e) xs x h;have:1<=xs.length:=List.length_pos_of_mem h;show _<=List.length xs+_;omega
theorem y_ {e:Ty} (xs:List e.den):xs.length<=zz (.aa e) xs:=Nat.le_add_right _ _
theorem Tg {e:Ty} (x:e.den) (xs:List e.den):zz (.aa e) (x::xs)=zz e x+1+zz (.aa e) xs:=by
 grind [zz,nu]
def nH (n:Int) (z:Nat):Int:=if (z:Int)<=n then n - z else -1
theorem abz {α:Type} {B:((Int×Int)->Option (Int×Unit))->(Int×Int)->Option (Int×Unit)} {xs:List α} (yc:xs.length<=maxLen) (z:α->Nat)
  (iZ:∀ (i:Nat) (hx:i < xs.length) (n:Int) self,0<=n->n<=1048576->B self (n,(i:Int))=if nH n (z xs[i]) < 0 then some (-1,()) else self (nH n (z xs[i]),ag ((i:Int)+1)))
  (mL:∀ n self,B self (n,(xs.length:Int))=some (n,())) (n:Int) (h0:0<=n) (h1:n<=1048576) :
  ∀ k,xs.length < k->am B k (n,0)=some (nH n (nu z xs),()):=by
 have main:∀ (m i:Nat) (n:Int),xs.length - i=m->i<=xs.length->0<=n->n<=1048576->∀ k,m < k->am B k (n,(i:Int))=some (nH n (nu z (xs.drop i)),()):=by
  intro m
  induction m with
  | zero=>
   intro i n hm hi h0 h1 k hk;have rE:i=xs.length:=by omega
   subst rE;cases k <;> grind [am,nH,nu]
  | succ m ih=>
   intro i n hm hi h0 h1 k hk;have a_:i < xs.length:=by omega
   rw[cP a_];simp only[nu]
   cases k with
   | zero=>omega
   | succ k=>
    show B (am B k) _=_;rw[iZ i a_ n _ h0 h1];by_cases hz:(z xs[i]:Int)<=n
    ·have e:nH n (z xs[i])=n - (z xs[i]:Int):=aR hz;have aeZ:¬ (n - (z xs[i]:Int) < 0):=by omega
     have hw:ag ((i:Int)+1)=((i+1:Nat):Int):=by grind [bh,au]
     rw[e,aV aeZ,hw,ih (i+1) _ Bys Bys Bys Bys k Bys];grind [nH]
    grind [nH]
 intro k hk
 simpa using main xs.length 0 n Bys Bys h0 h1 k hk
theorem abA {n:Int} {a b:Nat} (h:(a:Int)<=n):nH (n - a) b=nH n (a+b):=by
 grind [nH]
theorem za {α:Type} (xs:List α) (i:Nat) (a:α) (h:i < xs.length):(xs.set i a)[i]?=some a:=by simp[h]
def mS:Int:=4611686018427387904
def chain {α:Type} (E:α->Int->α->Int->Prop) (W:α->Nat):List α->Int->List α->Int->Prop
 | [],k,ys,k'=>ys=[]/\k'=k
 | x::xs,k,ys,k'=>∃ y M8 k1,ys=y::M8/\0<=k/\k+W x<=mS/\k<=k1/\k1<=k+W x/\E x k y k1/\chain E W xs k1 M8 k'
theorem Xh {α:Type} {B:((List α×Int×Int)->Option (Int×List α×Unit))->(List α×Int×Int)->Option (Int×List α×Unit)} {xs:List α} (yc:xs.length<=maxLen) (E:α->Int->α->Int->Prop) (W:α->Nat)
  (hE:∀ x ∈ xs,∀ k:Int,0<=k->k+W x<=mS->∃ y k',k<=k'/\k'<=k+W x/\E x k y k')
  (iZ:∀ (i:Nat) (acc:List α) (k:Int) self (x y:α) (k':Int),i < acc.length->acc[i]?=some x->0<=k->k+W x<=mS->k<=k'->k'<=k+W x->E x k y k'->B self (acc,k,(i:Int))=self (acc.set i y,k',ag ((i:Int)+1)))
  (mL:∀ (acc:List α) (k:Int) self,B self (acc,k,(acc.length:Int))=some (k,acc,())) (k:Int) (h0:0<=k) (h1:k+nu W xs<=mS) :
  ∃ ys k',k<=k'/\k'<=k+nu W xs/\ys.length=xs.length/\chain E W xs k ys k'/\∀ f,xs.length < f->am B f (xs,k,0)=some (k',ys,()):=by
 have main:∀ (rest pre:List α) (k:Int),(pre++rest).length<=maxLen->(∀ x ∈ rest,x ∈ xs)->0<=k->k+nu W rest<=mS ->
   ∃ ys k',k<=k'/\k'<=k+nu W rest/\ys.length=rest.length/\chain E W rest k ys k'/\∀ f,rest.length < f->am B f (pre++rest,k,(pre.length:Int))=some (k',pre++ys,()):=by
  intro rest
  induction rest with
  | nil=>
   intro pre k hm _ h0 h1;refine ⟨[],k,gX _,by simp[nu],rfl,⟨rfl,rfl⟩,λf hf=>?_⟩
   cases f with
   | zero=>simp at hf
   | succ f=>
    simp only[cR];exact mL pre k _
  | cons x rest ih=>
   intro pre k hm hx h0 h1;simp only[nu] at h1;obtain ⟨y,k1,g1,g2,g3⟩:=hE x (hx x bB) k h0 Bys;obtain ⟨ys,k',i1,i2,i3,i4,i5⟩:=ih (pre++[y]) k1 (by simpa using hm) (λz hz=>hx z (aW _ hz)) Bys Bys;refine ⟨y::ys,k',by omega,by grind [nu],by simp[i3],⟨y,ys,k1,rfl,h0,by omega,g1,g2,g3,i4⟩,λf hf=>?_⟩
   cases f with
   | zero=>omega
   | succ f=>
    show B (am B f) _=_;have hlen:pre.length < (pre++x::rest).length:=by simp
    rw[iZ pre.length (pre++x::rest) k _ x y k1 hlen (by simp) h0 Bys g1 g2 g3];grind [au,bh]
 obtain ⟨ys,k',i1,i2,i3,i4,i5⟩:=main xs [] k (by simpa using yc) (λx h=>h) h0 h1;grind
theorem Xi {α:Type} {ys:List α} {B:((Int×Int)->Option (Int×Unit))->(Int×Int)->Option (Int×Unit)} {xs:List α} {k k':Int} (yc:ys.length<=maxLen) {E:α->Int->α->Int->Prop} {W:α->Nat} (hc:chain E W xs k ys k')
  (iZ:∀ (i:Nat) (k:Int) self (x y:α) (k':Int),i < ys.length->ys[i]?=some y->0<=k->k+W x<=mS->k<=k'->k'<=k+W x->E x k y k'->B self (k,(i:Int))=self (k',ag ((i:Int)+1)))
  (mL:∀ (k:Int) self,B self (k,(ys.length:Int))=some (k,())):∀ f,ys.length < f->am B f (k,0)=some (k',()):=by
 have main:∀ (xs M8 pre:List α) (k:Int),pre++M8=ys->chain E W xs k M8 k'->∀ f,M8.length < f->am B f (k,(pre.length:Int))=some (k',()):=by
  intro xs
  induction xs with
  | nil=>
   intro M8 pre k hp hc f hf;obtain ⟨rfl,rfl⟩:=hc;cases f <;> grind [am]
  | cons x xs ih=>
   intro M8 pre k hp hc f hf;obtain ⟨y,ys2,k1,rfl,c1,c2,c3,c4,c5,c6⟩:=hc
   cases f with
   | zero=>omega
   | succ f=>
    show B (am B f) _=_;have hl:pre.length < ys.length:=by grind
    rw[iZ pre.length k _ x y k1 hl (by grind) c1 c2 c3 c4 c5]
    have hw:ag ((pre.length:Int)+1)=(((pre++[y]).length:Nat):Int):=by
     grind [au,bh]
    grind
 intro f hf
 simpa using main xs ys [] k rfl hc f hf
end OT
namespace OT
open Go
theorem Th {e:Ty} {W:List e.den->Nat->Option (List e.den×Unit)} {z:e.den} {f:e.den->Option (e.den×Unit)}
  (hW:∀ x k,W x k=if 0<=(x.length:Int)/\(x.length:Int)<=(x.length:Int)/\(x.length:Int)<=(b9:Int) then (am (λ(self:(List e.den×Int)->Option (List e.den×Unit)) v=>bif decide (v.2 < (x.length:Int)) then (if 0<=v.2 then ((x[v.2.toNat]?).bind λa=>(f a).bind λr=>if 0<=v.2/\v.2 < (v.1.length:Int) then ((v.1[v.2.toNat]?).bind λ_=>self (v.1.set v.2.toNat r.1,ag (v.2+(1:Int)))) else none) else none) else some (v.1,())) k (List.replicate (x.length:Int).toNat z,(0:Int))) else none)
  (hf:∀ a,zz e a<=1048576->f a=some (a,())) (x:List e.den) (h:zz (.aa e) x<=1048576):lift (W x)=some (x,()):=by
 have hl:x.length<=1048576:=bG (y_ (e:=e) x) h;refine ah (k:=x.length+1) λk hk=>(hW x k).trans ?_;have hc:0<=(x.length:Int)/\(x.length:Int)<=(x.length:Int)/\(x.length:Int)<=(b9:Int):=by grind [b9]
 simp only[hc,cI,aJ,aC];refine Xg (xs:=x) (by rw[au];omega) (λi hi acc self ha=>?_) (λacc self=>?_) _ k Bys
 ·have a_:(i:Int) < (x.length:Int):=by omega
  have Me:(i:Int) < (acc.length:Int):=by omega
  simp only[a_,Me,aI,aO,aK,cI,aJ,aC,aB hi,aB (show i < acc.length by omega),aA,hf x[i] (by have:=KP (e:=e) (aP hi);omega)]
 ·simp
theorem Ti {e:Ty} {W:List e.den->Nat->Option (Bool×Unit)} {f:e.den->e.den->Option (Bool×Unit)}
  (hW:∀ x k,W x k=bif !decide ((x.length:Int)=(x.length:Int)) then some (false,()) else am (λ(self:Int->Option (Bool×Unit)) v=>bif decide (v < (x.length:Int)) then (if 0<=v then ((x[v.toNat]?).bind λa=>if 0<=v then ((x[v.toNat]?).bind λb=>(f a b).bind λr=>bif !r.1 then some (false,()) else self (ag (v+(1:Int)))) else none) else none) else some (true,())) k (0:Int))
  (hf:∀ a,zz e a<=4611686018427387904->f a a=some (true,())) (x:List e.den) (h:zz (.aa e) x<=4611686018427387904):lift (W x)=some (true,()):=by
 have hl:x.length<=4611686018427387904:=bG (y_ (e:=e) x) h;refine ah (k:=x.length+1) λk hk=>(hW x k).trans ?_;simp only[aI,aN,aE];have:=λB h1 h2=>JG (B:=B) (xs:=x) (ys:=x) (λ_ _=>true) rfl (by rw[au];omega) h1 h2 k Bys;rw[show CM (λ_ _=>true) x x=true by simp[CM]] at this;refine this _ (λi hi hj self=>?_) (λself=>?_)
 ·have a_:(i:Int) < (x.length:Int):=by omega
  simp only[a_,aI,aO,aK,aJ,aC,aB hi,aA,aN,aE,hf x[i] (by have:=KP (e:=e) (aP hi);omega)]
 ·simp
theorem szG {e:Ty} {W:List e.den->Int->Nat->Option (Int×Unit)} {f:e.den->Int->Option (Int×Unit)}
  (hW:∀ x n k,W x n k=bif decide (ag (n - (x.length:Int)) < (0:Int)) then some ((-1:Int),()) else am (λ(self:Int×Int->Option (Int×Unit)) v=>bif decide (v.2 < (x.length:Int)) then (if 0<=v.2 then ((x[v.2.toNat]?).bind λa=>(f a v.1).bind λr=>bif decide (r.1 < (0:Int)) then some ((-1:Int),()) else self (r.1,ag (v.2+(1:Int)))) else none) else some (v.1,())) k (ag (n - (x.length:Int)),(0:Int)))
  (hf:∀ a n,uG e a->0<=n->n<=1048576->f a n=some (nH n (zz e a),())) (x:List e.den) (n:Int) (hx:uG (.aa e) x) (h0:0<=n) (h1:n<=1048576):lift (W x n)=some (nH n (zz (.aa e) x),()):=by
 obtain ⟨hl,rW⟩:=hx;have yx:=hl;rw[au] at yx;have hw:ag (n - (List.length x:Int))=n - (List.length x:Int):=bh Bys;have hz:zz (.aa e) x=List.length x+nu (zz e) x:=rfl;by_cases hc:n - (List.length x:Int) < 0
 ·rw[show nH n (zz (.aa e) x)=-1 from aV Bys];refine ah (k:=0) λk _=>(hW x n k).trans ?_;grind
 ·rw[show nH n (zz (.aa e) x)=nH (n - (List.length x:Int)) (nu (zz e) x) by grind [abA]];refine ah (k:=List.length x+1) λk hk=>(hW x n k).trans ?_;simp only[hw,hc,aG,aE];refine abz (xs:=x) hl (zz e) (λi hi m self hm0 Ee=>?_) (λm self=>?_) _ Bys Bys k Bys
  all_goals grind
theorem Ze {e:Ty} {W:List e.den->Int->Nat->Option (Int×Unit)} (hz:∀ a:e.den,zz e a=0)
  (hW:∀ x n k,W x n k=bif decide (ag (n - (x.length:Int)) < (0:Int)) then some ((-1:Int),()) else some (ag (n - (x.length:Int)),())) (x:List e.den) (n:Int) (hx:uG (.aa e) x) (h0:0<=n) (h1:n<=1048576):lift (W x n)=some (nH n (zz (.aa e) x),()):=by
 obtain ⟨hl,rW⟩:=hx;have yx:=hl;rw[au] at yx;have hw:ag (n - (List.length x:Int))=n - (List.length x:Int):=bh Bys;have hz:zz (.aa e) x=List.length x:=by show List.length x+nu _ _=_;grind [AS]
 refine ah (k:=0) λk _=>(hW x n k).trans ?_;grind [nH]
theorem mkC {α:Type} (z:α->Nat) {W:List α->Int->Nat->Option (Int×List α×Unit)} (E:α->Int->α->Int->Prop) {S:(List α×Int×Int->Option (Int×List α×Unit))->List α×Int×Int->Option (Int×List α×Unit)}
  (hW:∀ x k f,W x k f=am (λself v=>bif decide (v.2.2 < (v.1.length:Int)) then S self v else some (v.2.1,v.1,())) f (x,k,(0:Int)))
  (hE:∀ (x:α) (k:Int),0<=k->k+32*(((z x:Nat):Int)+1)<=mS->∃ y k',k<=k'/\k'<=k+32*(((z x:Nat):Int)+1)/\E x k y k')
  (iZ:∀ (i:Nat) (acc:List α) (k:Int) self (x y:α) (k':Int),i < acc.length->acc[i]?=some x->0<=k->k+32*(((z x:Nat):Int)+1)<=mS->k<=k'->k'<=k+32*(((z x:Nat):Int)+1)->E x k y k'->(i:Int) < (acc.length:Int)->S self (acc,k,(i:Int))=self (acc.set i y,k',ag ((i:Int)+1)))
  (x:List α) (k:Int) (h0:0<=k) (h1:k+32*((x.length+nu z x:Nat):Int)<=mS):∃ (k':Int) (y:List α),lift (W x k)=some (k',y,())/\y.length<=4611686018427387904/\chain E (λx=>32*(z x+1)) x k y k'/\k<=k'/\k'<=k+32*((x.length+nu z x:Nat):Int):=by
 have hB:mS=4611686018427387904:=rfl;have hs:nu (λx:α=>32*(z x+1)) x=32*(x.length+nu z x):=Tf z x
 obtain ⟨ys,k',g1,g2,g3,g4,g5⟩:=Xh (B:=λself v=>bif decide (v.2.2 < (v.1.length:Int)) then S self v else some (v.2.1,v.1,())) (xs:=x) (by rw[au];omega) E (λx:α=>32*(z x+1)) (λx hx k h0 h1=>by
   grind) (λi acc k self x y k' hi hx h0 h1 h2 h3 hE=>by
   grind) (λacc k self=>by simp) k h0 (by rw[hs];omega)
 exact ⟨k',ys,ah (k:=x.length+1) λf hf=>(hW x k f).trans (g5 f Bys),by omega,g4,g1,by grind⟩
theorem Tj {α:Type} (z:α->Nat) {W:List α->Int->Nat->Option (Int×List α×Unit)} (E:α->Int->α->Int->Prop) {S:(List α×Int×Int->Option (Int×List α×Unit))->List α×Int×Int->Option (Int×List α×Unit)}
  (hW:∀ x k f,W x k f=am (λself v=>bif decide (v.2.2 < (v.1.length:Int)) then S self v else some (v.2.1,v.1,())) f (x,k,(0:Int)))
  (hE:∀ (x:α) (k:Int),0<=k->k+32*(((z x:Nat):Int)+1)<=mS->∃ y k',k<=k'/\k'<=k+32*(((z x:Nat):Int)+1)/\E x k y k')
  (iZ:∀ (i:Nat) (acc:List α) (k:Int) self (x y:α) (k':Int),i < acc.length->acc[i]?=some x->0<=k->k+32*(((z x:Nat):Int)+1)<=mS->k<=k'->k'<=k+32*(((z x:Nat):Int)+1)->E x k y k'->(i:Int) < (acc.length:Int)->S self (acc,k,(i:Int))=self (acc.set i y,k',ag ((i:Int)+1)))
  (x:List α) (k:Int) (h0:0<=k) (h1:k+32*((x.length+nu z x:Nat):Int)<=mS):∃ (k':Int) (y:List α),lift (W x k)=some (k',y,())/\k<=k'/\k'<=k+32*((x.length+nu z x:Nat):Int):=by
 obtain ⟨k',y,a,b,c,d⟩:=mkC z E hW hE iZ x k h0 h1;grind
theorem Tl {α:Type} (z:α->Nat) {W:List α->Int->Nat->Option (Int×List α×Unit)} {W2:List α->Int->Nat->Option (Int×Unit)} (E:α->Int->α->Int->Prop) {S:(List α×Int×Int->Option (Int×List α×Unit))->List α×Int×Int->Option (Int×List α×Unit)} {S2:List α->Int->(Int×Int->Option (Int×Unit))->Int×Int->Option (Int×Unit)}
  (hW:∀ x k f,W x k f=am (λself v=>bif decide (v.2.2 < (v.1.length:Int)) then S self v else some (v.2.1,v.1,())) f (x,k,(0:Int)))
  (hW2:∀ y k f,W2 y k f=am (λself v=>bif decide (v.2 < (y.length:Int)) then S2 y k self v else some (v.1,())) f (k,(0:Int)))
  (hE:∀ (x:α) (k:Int),0<=k->k+32*(((z x:Nat):Int)+1)<=mS->∃ y k',k<=k'/\k'<=k+32*(((z x:Nat):Int)+1)/\E x k y k')
  (iZ:∀ (i:Nat) (acc:List α) (k:Int) self (x y:α) (k':Int),i < acc.length->acc[i]?=some x->0<=k->k+32*(((z x:Nat):Int)+1)<=mS->k<=k'->k'<=k+32*(((z x:Nat):Int)+1)->E x k y k'->(i:Int) < (acc.length:Int)->S self (acc,k,(i:Int))=self (acc.set i y,k',ag ((i:Int)+1)))
  (Uj:∀ (k0:Int) (i:Nat) (ys:List α) (k:Int) self (x y:α) (k':Int),i < ys.length->ys[i]?=some y->0<=k->k+32*(((z x:Nat):Int)+1)<=mS->k<=k'->k'<=k+32*(((z x:Nat):Int)+1)->E x k y k'->(i:Int) < (ys.length:Int)->S2 ys k0 self (k,(i:Int))=self (k',ag ((i:Int)+1)))
  (x:List α) (k:Int) (h0:0<=k) (h1:k+32*((x.length+nu z x:Nat):Int)<=mS):∃ (k':Int) (y:List α),lift (W x k)=some (k',y,())/\lift (W2 y k)=some (k',())/\k<=k'/\k'<=k+32*((x.length+nu z x:Nat):Int):=by
 obtain ⟨k',y,a,b,c,d⟩:=mkC z E hW hE iZ x k h0 h1;refine ⟨k',y,a,ah (k:=y.length+1) λf hf=>(hW2 y k f).trans ?_,d⟩
 exact Xi (B:=λself v=>bif decide (v.2 < (y.length:Int)) then S2 y k self v else some (v.1,())) (by rw[au];omega) c (λi k self x y' k' hi hx h0 h1 h2 h3 hE=>by
   grind) (λk self=>by simp) f Bys
end OT
namespace OT
open Go
def bq {S O α:Type} (f:Nat->S->α->Sum O S) (fin:S->O):Nat->List α->S->O
 | _,[],s=>fin s
 | i,x::xs,s=>match f i s x with
  | .inl o=>o
  | .inr s'=>bq f fin (i+1) xs s'
theorem ci {V S O α:Type} {B:(V->Option O)->V->Option O} (xs:List α) (enc:S->Int->V) (f:Nat->S->α->Sum O S) (fin:S->O) (I:Nat->S->Prop) (yc:xs.length<=maxLen)
  (iZ:∀ (i:Nat) (hi:i < xs.length) (s:S) self,I i s->B self (enc s (i:Int))=match f i s xs[i] with | .inl o=>some o | .inr s'=>self (enc s' (ag ((i:Int)+1))))
  (hI:∀ (i:Nat) (hi:i < xs.length) (s s':S),I i s->f i s xs[i]=.inr s'->I (i+1) s')
  (mL:∀ (s:S) self,I xs.length s->B self (enc s (xs.length:Int))=some (fin s)) (s:S) (h0:I 0 s):∀ k,xs.length < k->am B k (enc s 0)=some (bq f fin 0 xs s):=by
 have main:∀ (m i:Nat) (s:S),xs.length - i=m->i<=xs.length->I i s->∀ k,m < k->am B k (enc s (i:Int))=some (bq f fin i (xs.drop i) s):=by
  intro m
  induction m with
  | zero=>
   intro i s hm hi hs k hk;have rE:i=xs.length:=by omega
   subst rE;cases k <;> grind [am,bq]
  | succ m ih=>
   intro i s hm hi hs k hk;have a_:i < xs.length:=by omega
   cases k <;> grind [am,List.drop_eq_getElem_cons,bq,bh,au]
 intro k hk
 simpa using main xs.length 0 s Bys Bys h0 k hk
theorem tE {O α:Type} (p:α->Bool) (bad:O) (fin:Unit->O):∀ (xs:List α) (i:Nat),bq (λ_ _ x=>if p x then .inr () else .inl bad) fin i xs ()=if xs.all p then fin () else bad
 | [],_=>rfl
 | x::xs,i=>by
  simp only[bq,eC];by_cases h:p x=true
  ·simp[h,tE p bad fin xs (i+1)]
  ·simp[h]
def nO {α:Type} (c:α->Int):List α->Int
 | []=>0
 | x::xs=>if c x=0 then nO c xs else c x
theorem BC {O α:Type} (c:α->Int) (bad:Int->O) (fin:Unit->O):∀ (xs:List α) (i:Nat),bq (λ_ _ x=>if c x=0 then .inr () else .inl (bad (c x))) fin i xs ()=if nO c xs=0 then fin () else bad (nO c xs)
 | [],_=>rfl
 | x::xs,i=>by
  simp only[bq,nO];by_cases h:c x=0
  ·simp[h,BC c bad fin xs (i+1)]
  ·simp[h]
theorem Xj {R:Type} (a:Option R):both a a=a:=by simp[both]
theorem B8 {R α:Type} {v:List α} {a b r:Option R} (h1:v=[]->a=r) (h2:b=r):Ce v a b=r:=by
 cases v <;> grind [Ce,Xj]
theorem cv {n:Nat} (h:n<=200000000000):n<=b9:=by grind [b9]
end OT
namespace OT
open Go
def wX:Ty->Bool
 | .int _ | .bool | .str | .unit=>true
 | .pair a b=>wX a&&wX b
 | _=>false
def oV:(t:Ty)->t.den->List Value
 | .int k,v=>[.int k (qR k v)]
 | .bool,v=>[.bool v]
 | .str,v=>[.string ⟨List.toArray v⟩]
 | .unit,_=>[]
 | .pair a b,v=>oV a v.1++oV b v.2
 | _,_=>[]
section
variable {P:Program} {w:World} {A:Cells}
theorem vO:∀ (t:Ty),wX t=true->∀ (v:t.den),Ro P w A t v (oV t v):=by
 intro t
 induction t <;> grind [wX,Ro.length,Ro,oV]
theorem Pu:∀ (t:Ty),wX t=true->∀ {v:t.den} {cs:List Value},Ro P w A t v cs->cs=oV t v:=by
 intro t
 induction t with
 | pair a b nE nw=>
  intro h v cs hr;simp only[wX,aD] at h;have h1:=nE h.1 hr.1;have h2:=nw h.2 hr.2;rw[<-dA a.sz cs,h1,h2];rfl
 | int k=>intro _ v cs h;exact h
 | bool=>intro _ v cs h;exact h
 | str=>intro _ v cs h;exact h
 | unit=>intro _ v cs h;exact h
 | _=>grind [wX]
theorem AT:∀ (t:Ty),wX t=true->t.flat=true:=by
 intro t
 induction t <;> grind [wX,Ty.flat]
end
theorem Pv {w:World} {b i:Nat} {u:Value} {c:Array Value} {e:TypeId} {fr:Nat×Nat} (h:w.heap[b]?=some (.cells c e fr)) (hu:ce w b i=some u):c[i]?=some u:=by
 unfold ce at hu;simp only[h,World.cell?] at hu
 cases hc:c[i]? with
 | none=>grind
 | some v=>
  simp only[hc,fP,aF,aS,aA] at hu;rw[(GN hu).1]
theorem RG {w:World} {b i:Nat} {u:Value} {c:Array Value} {e:TypeId} {fr:Nat×Nat} (h:w.heap[b]?=some (.cells c e fr)) (hg:c[i]?=some u) (hu:u.oneCell'=true):ce w b i=some u:=by
 grind [H9,World.cell?]
end OT
namespace OT
open Go Go.Sort
instance afu (e:Ty):Inhabited e.den:=⟨e.zero⟩
noncomputable def BD (e:Ty) (cs:e.den×e.den×Unit->Option (Int×Unit)) (v:List e.den):Option (List e.den):=open Classical in
 if List.length v<=b9 then (if h:∃ cf:e.den->e.den->Int,(∀ x y,cs (x,y,())=some (cf x y,()))/\SWO (Go.Proofs.ltOf cf) then some (pdq (Go.Proofs.ltOf h.choose) v.toArray 0 v.toArray.size (Lib.bitLen v.toArray.size) true true).toList else none) else none
theorem Pw {e:Ty} {cs:e.den×e.den×Unit->Option (Int×Unit)} {cf:e.den->e.den->Int} (h1:∀ x y,cs (x,y,())=some (cf x y,())) (h2:SWO (Go.Proofs.ltOf cf)) (v:List e.den) (hl:List.length v<=b9):BD e cs v=some (pdq (Go.Proofs.ltOf cf) v.toArray 0 v.toArray.size (Lib.bitLen v.toArray.size) true true).toList:=by
 have hex:∃ cf:e.den->e.den->Int,(∀ x y,cs (x,y,())=some (cf x y,()))/\SWO (Go.Proofs.ltOf cf):=⟨cf,h1,h2⟩
 have he:hex.choose=cf:=by
  grind
 grind [BD]
theorem UN {e:Ty} {cs:e.den×e.den×Unit->Option (Int×Unit)} {v r:List e.den} (h:BD e cs v=some r):∃ cf:e.den->e.den->Int,(∀ x y,cs (x,y,())=some (cf x y,()))/\SWO (Go.Proofs.ltOf cf)/\List.length v<=b9/\r=(pdq (Go.Proofs.ltOf cf) v.toArray 0 v.toArray.size (Lib.bitLen v.toArray.size) true true).toList:=by
 grind [Pw,BD]
theorem Px {α:Type} [Inhabited α] {lt:α->α->Bool} (h:SWO lt) (v:List α):(pdq lt v.toArray 0 v.toArray.size (Lib.bitLen v.toArray.size) true true).toList.Perm v/\(pdq lt v.toArray 0 v.toArray.size (Lib.bitLen v.toArray.size) true true).toList.Pairwise λx y=>lt y x=false:=by
 have hs:=pdq_sorts lt h v.toArray 0 v.toArray.size (Lib.bitLen v.toArray.size) true true (aZ _) (aH _) (Or.inl rfl);generalize pdq lt v.toArray 0 v.toArray.size (Lib.bitLen v.toArray.size) true true=p at hs ⊢;obtain ⟨⟨h1,h2,h3⟩,h4⟩:=hs;refine ⟨?_,?_⟩
 ·grind [Array.extract_size]
 ·rw[cW];intro i j hi hj ul;have Bt:j < p.size:=by simpa using hj
  have:=h4 i j (aZ _) ul Bys;grind
section
variable {P:Program}
theorem Zf {w w':World} (h:Ext w w' (λ_ _=>0)):∃ q os,w'=grow (w.drewN q) os:=by
 refine ⟨w'.drawn - w.drawn,w'.heap.extract w.heap.size w'.heap.size,?_⟩
 have hh:w'.heap=w.heap++w'.heap.extract w.heap.size w'.heap.size:=by
  apply Array.ext_getElem?;intro i;by_cases hi:i < w.heap.size
  ·rw[h.obj i hi λ_=>rfl,dY hi]
  grind
 have h1:=h.os;have h2:=h.tape;have h3:=h.output;have h4:=h.drawn
 cases w with
 | mk heap tape drawn os output=>
  cases w' <;> grind [grow,World.drewN,World.mk.injEq]
theorem Zg {α:Type} [Inhabited α] {enc:α->List Value} {k b m:Nat} {dk:Array α} {os:Array Obj} {w:World} {F0:FP} (h:xO P w F0) (hb:1<=F0 b 0):xO P (Go.Proofs.sortWorldK enc k w b 0 m dk os) λ_ _=>0:=λe=>by
 obtain ⟨⟨w0,g,hw⟩,hs,hf⟩:=h e;grind [Go.Proofs.sortWorldK,grow,Go.Sort.putRowK,Go.Sort.putRow,Go.Sort.mapBlock,Go.Sort.ahead]
theorem Zh {e:Ty} (hs:wX e=true) (ha:isAgg e=true) {g:Nat} {cF:e.den×e.den×Unit->Option (Int×Unit)} (hg:Sound P g { ps:=[(.ro,e),(.ro,e)],rs:=[(.int .i64,an (.int .i64))],F:=cF }) {cf:e.den->e.den->Int} (hc:∀ x y,cF (x,y,())=some (cf x y,())) (b size:Nat) (w:World) (ht:∀ m dk os,xO P (Go.Proofs.sortWorldK (oV e) e.sz w b 0 m dk os) λ_ _=>0):Go.Proofs.CmpLays P g #[] (oV e) e.sz cf b 0 size w:=by
 intro m os dk _ x y
 have lO:qc P (Go.Proofs.sortWorldK (oV e) e.sz w b 0 m dk os) (λ_ _=>False) O3 [(.ro,e),(.ro,e)] (x,y,()) [.agg (oV e x).toArray,.agg (oV e y).toArray] (λ_ _=>0):=
  ⟨_,_,λ_ _=>0,λ_ _=>0,rfl,λ_ _=>aH _,⟨oV e x,by simp[cu,ha],vO e hs x⟩,_,_,λ_ _=>0,λ_ _=>0,rfl,λ_ _=>aH _,⟨oV e y,by simp[cu,ha],vO e hs y⟩,rfl⟩
 refine (hg _ (λ_ _=>False) (λ_ _=>0) (x,y,()) _ lO (λ_ _=>aZ _) (λ_ _ h=>by omega) (λ_ _ h=>by grind) (ht _ _ _) (cf x y,()) (hc x y)).mono ?_;rintro ex w' ⟨rv,rfl,eo,A',G,GR,GM,_,_,_,_,_,_,_,wb,_⟩;obtain ⟨cs,h1,h2⟩:=wb;refine ⟨?_,Zf eo⟩
 have h2:cs=[.int .i64 (cf x y)]:=h2;rw[h1,h2];rfl
theorem abB {ρ:Go.Shelf.Ren} (L:Go.Proofs.SlLaysF0.n6 P ρ) {e:Ty} (hs:wX e=true) (ha:isAgg e=true) (hl:bn P e (.inl (ρ.t 24))=true) (h1:1<=e.sz) {g:Nat} {cF:e.den×e.den×Unit->Option (Int×Unit)}
  (hg:Ok P g { ps:=[(.ro,e),(.ro,e)],rs:=[(.int .i64,an (.int .i64))],F:=cF }) (he:vW P (ρ.f 6) false) :
  Ok P (ρ.f 6) { ps:=[(.lT (aj (.aa e)),.aa e),(.fix g,.fn)],rs:=[],F:=λv=>(BD e cF v.1).map λr=>(r,()) }:=by
 refine ⟨?_,he⟩
 intro w A F0 v xs lO hle xp CO JD out mL;obtain ⟨vs,⟨fg,fv⟩,⟨⟩⟩:=v;obtain ⟨x,O2,F1,F2,rfl,hF,⟨cs,rfl,iT⟩,x2,ae0,F3,F4,rfl,S_,⟨⟨d9,rfl,hfn⟩,ae1⟩,t6⟩:=lO;have t6:ae0=[]:=t6;subst t6;have hfg:fg=g:=ae1 rfl;subst hfg;obtain ⟨Bb,rfl,fn,afO,afP⟩:=hfn
 have adF:Bb=#[]:=by
  obtain ⟨fn',k1,_,_,k4⟩:=hg.2;grind
 subst adF;have Pa:cu .fn [.func (.func fg) #[] #[]]=.func (.func fg) #[] #[]:=rfl;have mL:(BD e cF vs).map (λr=>(r,()))=some out:=mL
 cases aaL:BD e cF vs with
 | none=>grind
 | some r=>
 rw[aaL] at mL;injection mL with mL;subst mL;obtain ⟨cf,hc,hO,oU,hr⟩:=UN aaL;have UO:=Px hO vs;rw[<-hr] at UO;have aaA:=iT;simp only[ax,hole,bT,aF,aS,aj,u0,Md.own,aJ] at iT;obtain ⟨xa,cap,rfl,g2,g3,g4,g5⟩:=iT;have Kv:cu (.aa e) [.slice xa (List.length vs) cap]=.slice xa (List.length vs) cap:=rfl;rw[Pa,Kv]
 have zX:∀ (w':World) (F1':FP),Ext w w' F0->(∀ b i,F1' b i<=F1 b i)->ax P w' A (.aa e) (aj (.aa e)) [] r [.slice xa (List.length vs) cap] F1' ->
   ∃ rv,Ending.returned (.tuple #[])=.returned rv/\Ext w w' F0/\∃ (A':Cells) (G GR GM:FP),(∀ b i,A b i->A' b i)/\(∀ b i,A' b i->A b i\/1<=F0 b i\/w.heap.size<=b)/\(∀ b i,1<=G b i->1<=F0 b i\/w.heap.size<=b)/\(∀ b i,G b i<=1)/\(∀ b i,1<=G b i->¬ A' b i)/\(∀ b i,1<=G b i\/A' b i->b < w'.heap.size)/\(∀ b i,GR b i+GM b i<=G b i) /\
   nx P w' A' [] rv GR/\nG P w' A' [(.lT (aj (.aa e)),.aa e),(.fix fg,.fn)] (r,()) [.slice xa (List.length vs) cap,.func (.func fg) #[] #[]] GM:=λw' F1' eo hF1 hrp=>
  ⟨_,rfl,eo,A,F0,λ_ _=>0,F0,λ_ _ h=>h,λ_ _ h=>.inl h,λ_ _ h=>.inl h,hle,xp,λb i h=>bX (CO b i h) eo.size,λb i=>by grind,trivial,F1',F2,λb i=>by grind,⟨_,rfl,hrp⟩,trivial⟩
 by_cases h0:List.length vs=0
 ·have IM:vs=[]:=bF h0
  have hrn:r=[]:=by
   have:=UO.1.length_eq;grind
  rw[h0];refine (Go.Proofs.AnyF.slices_SortFunc_none L xa cap (.func (.func fg) #[] #[]) w).mono ?_;rintro ex w' ⟨rfl,hw⟩;rw[hw];rw[h0] at zX;refine zX w F1 (Ext.refl _ _) (λ_ _=>aH _) ?_;grind
 ·cases xa with
  | none=>grind
  | some ad=>
   obtain ⟨q1,q2,q3,Fi,q4,q5⟩:=g5 ad rfl;obtain ⟨b,off,sp⟩:=ad;simp only at q1 q2 q3 q4 q5;subst q1;subst q2;obtain ⟨c,el,fr,c1,c2,c3,c4⟩:=q3;have hb:=(bS.1 c1).1;have nt:vs.toArray.size=List.length vs:=by simp
   have Py:List.length vs*e.sz<=cap*e.sz:=aX _ g2;have Ju:1<=List.length vs*e.sz:=fJ (show 1<=List.length vs by omega) h1
   have nI:∀ (i:Nat) (y:e.den),vs[i]?=some y->Has w b (i*e.sz) (oV e y):=λi y hy=>by
    obtain ⟨L0,l1,l2,l3⟩:=q5 i y hy;have:=Pu e hs (ax.flat e (AT e hs) l3);grind
   have hH:Go.Sort.HoldsK (oV e) e.sz w b 0 vs.toArray:=by
    intro j hj;rw[Go.Sort.size_flatK,nt] at hj;rw[bE,Go.Sort.get_flatK _ _ _ _ (by grind)];have hi:j / e.sz < List.length vs:=by rw[fA h1];exact hj
    have hy:=aB hi;have hm:=Nat.mod_lt j h1
    have rW:(oV e (vs[j / e.sz]))[j % e.sz]?=some ((oV e (vs[j / e.sz]))[j % e.sz]!):=by
     have hlen:=Ro.length e (vO (P:=P) (w:=w) (A:=A) e hs (vs[j / e.sz]));grind
    have hce:=nI _ _ hy _ _ rW;have hdm:j / e.sz*e.sz+j % e.sz=j:=by grind [Nat.div_add_mod]
    rw[hdm] at hce;have qu:=Ro.one e (vO (P:=P) (w:=w) (A:=A) e hs (vs[j / e.sz])) _ (bI rW);have Pz:=sy hce qu;refine ⟨?_,?_⟩
    ·grind
    ·simp only[World.frozen?,c1];have:=c3 j Bys;grind
   have hb0:1<=F0 b 0:=by
    grind [de]
   have UP:=Go.Proofs.AnyQ.slices_SortFunc_eq L e.sz (λw=>by rw[yq hl,ha]) (λw=>run_sizeOf hl) (oV e) (λy=>Ro.length e (vO (P:=P) (w:=w) (A:=A) e hs y)) (λy u hu=>Ro.one e (vO (P:=P) (w:=w) (A:=A) e hs y) u hu) cf hO fg #[] b 0 cap vs.toArray w
    (λargs w=>G8 hg.2 args) (Zh hs ha hg.1 hc b _ w λm dk os=>Zg JD hb0) hH hb (by grind [b9])
   rw[nt] at UP;refine UP.mono ?_;rintro ex w' ⟨rfl,n,os,rfl⟩;rw[nt] at hr;have Dv:(pdq (Go.Proofs.ltOf cf) vs.toArray 0 (List.length vs) (Lib.bitLen (List.length vs)) true true)=r.toArray:=by rw[hr]
   rw[Dv];have yM:r.length=List.length vs:=UO.1.length_eq
   have hold:∀ b',b' < w.heap.size->b'≠b->(Go.Proofs.sortWorldK (oV e) e.sz w b 0 n r.toArray os).heap[b']?=w.heap[b']?:=λb' vN jx=>by
    grind [Go.Proofs.sortWorldK,grow,Go.Sort.putRowK,Go.Sort.putRow,Go.Sort.mapBlock,Go.Sort.ahead]
   have xY:(Go.Proofs.sortWorldK (oV e) e.sz w b 0 n r.toArray os).heap[b]?=some (.cells (Go.Sort.putCells id 0 (Go.Sort.flatK (oV e) e.sz r.toArray) c) el fr):=by
    simp only[Go.Proofs.sortWorldK,grow,Go.Sort.putRowK,Go.Sort.putRow,Go.Sort.mapBlock,Go.Sort.ahead];rw[dY (by simpa using hb),gB,aR rfl,c1];rfl
   have qD:(Go.Sort.putCells id 0 (Go.Sort.flatK (oV e) e.sz r.toArray) c).size=c.size:=by simp[Go.Sort.putCells]
   have eo:Ext w (Go.Proofs.sortWorldK (oV e) e.sz w b 0 n r.toArray os) F0:=by
    have iU:∀ i,i < cap*e.sz->1<=F0 b i:=λi hi=>by
     grind [de]
    refine ⟨?_,λb' i vN hz u hu=>?_,λb' m hm=>?_,λb' i vN=>?_,rfl,rfl,rfl,λb' vN hz=>?_,Nat.le_add_right _ _⟩
    ·grind
    ·by_cases MW:b'=b
     ·subst MW;have hi:¬ i < cap*e.sz:=λhi=>by grind
      exfalso;have:=Pv c1 hu;grind
     grind [Cj]
    ·by_cases MW:b'=b
     ·subst MW;obtain ⟨c',e',f',m1,m2,m3⟩:=hm;rw[c1] at m1;injection m1 with m1;injection m1 with m1 m4 m5;subst m1;subst m4;subst m5;exact ⟨_,_,_,xY,by grind,m3⟩
     ·have vN:b' < w.heap.size:=hm.lt;grind [yZ]
    ·by_cases MW:b'=b
     ·grind [World.frozen?]
     grind [Aq]
    grind
   refine zX _ F1 eo (λ_ _=>aH _) ?_;simp only[ax,hole,bT,aF,aS,aj,u0,Md.own,aJ];refine ⟨some ⟨b,0,none⟩,cap,by rw[yM],by grind,g3,(λe=>by cases e),λad e2=>?_⟩
   injection e2 with e2;subst e2;refine ⟨rfl,rfl,⟨_,_,_,xY,by grind,c3,c4⟩,λ_ _ _=>0,λb' i=>?_,λi y hy=>?_⟩
   ·have h3:=q4 b' i
    have h4:bk (List.length r) (λ_ _ _=>0) b' i=0:=by
     generalize List.length r=nn
     induction nn <;> grind [bk]
    grind
   ·refine ⟨oV e y,Ro.length e (vO (P:=P) (w:=w) (A:=A) e hs y),λj u hu=>?_,?_⟩
    ·have hj:=(aM.1 hu).1;have hlen:=Ro.length e (vO (P:=P) (w:=w) (A:=A) e hs y);have hi:=(aM.1 hy).1
     have ul:i*e.sz+j < r.length*e.sz:=by
      have:=aX e.sz (show i+1<=r.length from hi);grind
     have hdiv:(i*e.sz+j) / e.sz=i:=(Go.Sort.blk_iff e.sz i _ h1).1 ⟨by omega,by omega⟩;have afQ:(i*e.sz+j) % e.sz=j:=by grind [Nat.mod_eq_sub_div_mul]
     have yR:(Go.Sort.putCells id 0 (Go.Sort.flatK (oV e) e.sz r.toArray) c)[i*e.sz+j]?=some u:=by
      have a_:i*e.sz+j < c.size:=by grind
      grind [Go.Sort.putCells,Go.Sort.size_flatK,Go.Sort.get_flatK]
     have qu:=Ro.one e (vO (P:=P) (w:=w) (A:=A) e hs y) _ (bI hu);grind [RG]
    grind [Ro.flat,AT,vO]
end
end OT
