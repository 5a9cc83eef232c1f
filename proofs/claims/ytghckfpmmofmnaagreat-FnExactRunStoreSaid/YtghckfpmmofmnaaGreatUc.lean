/- The proof's parts, merged: Maps  made, asked, turned.. No conditions but those that each states. -/
import Derived.Test.YtghckfpmmofmnaaGreatUb
import Derived.MapKept
import Derived.WideMake
import Derived.OrdersHeld
import Derived.LoopN
import Derived.Scope
import Derived.ProofKit
import Derived.Deep.Slices
import Derived.Laws.BitsLemmas
import Derived.Shelf.SlSortCmp.NoneTotal
set_option linter.unusedVariables false
set_option linter.unusedSimpArgs false
namespace OT
open Go
section
variable {P:Program} {w:World} {A:Cells}
def Mr:Value->Bool
 | .int _ _ | .bool _ | .string _=>true
 | _=>false
theorem Ro.simple:∀ (t:Ty) {v:t.den} {cs:List Value},t.oZ=true->Ro P w A t v cs->∀ x ∈ cs,Mr x=true:=by
 intro t
 induction t with
 | int k=>intro v cs _ h x hx;simp only[Ro] at h;subst h;simp at hx;subst hx;rfl
 | bool=>intro v cs _ h x hx;simp only[Ro] at h;subst h;simp at hx;subst hx;rfl
 | str=>intro v cs _ h x hx;simp only[Ro] at h;subst h;simp at hx;subst hx;rfl
 | unit=>grind [Ro]
 | pair a b nL nw=>
  intro v cs he h x hx;simp only[Ty.oZ,aD] at he;rw[<-cE a.sz cs] at hx;rcases bG.1 hx with hx | hx
  ·exact nL he.1 h.1 x hx
  ·exact nw he.2 h.2 x hx
 | arr n e ih=>
  intro v cs he h x hx;obtain ⟨_,hv,hl,hr⟩:=h;obtain ⟨j,hj,rfl⟩:=dE.1 hx
  have hs:0 < e.sz:=by
   grind
  have hi:j / e.sz < n:=by
   rw[fI hs];omega
  have h1:=hr (j / e.sz) _ (aB Bys);refine ih he h1 _ (fJ.2 ⟨j % e.sz,?_⟩);grind [Nat.mod_lt,Nat.div_add_mod]
 | _=>grind [Ty.oZ]
theorem RZ {x:Value} (h:Mr x=true) (n:Nat):Instr.sameBits n x x=true:=by
 cases x <;> simp[Mr] at h <;> cases n <;> simp[Instr.sameBits,MapKept.bytes_beq]
theorem Xl {t:Ty} {v:t.den} {cs:List Value} (ha:isAgg t=true) (he:t.oZ=true) (h:Ro P w A t v cs):Instr.sameBits 10000 (c_ t cs) (c_ t cs)=true:=by
 have hs:=Ro.simple t he h;simp only[c_,ha,aK,Instr.sameBits,beq_self_eq_true,eJ,bJ];rintro ⟨x,y⟩ sT;have hz:(x,y) ∈ cs.zip cs:=by simpa using sT
 have Tp:x=y/\x ∈ cs:=by
  clear h hs sT
  induction cs with
  | nil=>simp at hz
  | cons c cs ih=>
   grind [List.zip_cons_cons]
 grind [RZ]
theorem PG:∀ (t:Ty),(∀ (i:TypeId) (d:Nat) (e:Bool) (v:t.den) (cs:List Value),bj P t (.inl i)=true->sU P t (.inl i)=true->dep t<=d->Ro P w A t v cs->(Instr.checkKey e d i (c_ t cs)).run P w=.ok () w) /\
  (∀ (fs:List Field) (off d:Nat) (e:Bool) (v:t.den) (xs:Array Value),bj P t (.inr (fs,off))=true->sU P t (.inr fs)=true->dep t<=d+1->Ro P w A t v (xs.toList.drop off) ->
   (forIn fs PUnit.unit λf _=>(if f.name ≠ "_" then do
     let x <- part f.type xs f.offset
     Instr.checkKey e d f.type x
     pure (ForInStep.yield PUnit.unit)
    else pure (ForInStep.yield PUnit.unit):Sem (ForInStep PUnit))).run P w=.ok () w):=by
 intro t
 induction t with
 | int k=>
  refine ⟨λi d e v cs hl he hd h=>?_,λfs off d e v xs hl=>by simp[bj] at hl⟩
  simp only[Ro] at h;subst h
  cases d with
  | zero=>simp[dep] at hd
  | succ d=>rw[ef _ _ rfl];simp[Instr.checkKey,run_underlying (ru hl)]
 | bool=>
  refine ⟨λi d e v cs hl he hd h=>?_,λfs off d e v xs hl=>by simp[bj] at hl⟩
  simp only[Ro] at h;subst h
  have hu:P.underlying i=some .bool:=by
   grind [bj]
  cases d <;> simp_all [dep,Instr.checkKey,run_underlying]
 | str=>
  refine ⟨λi d e v cs hl he hd h=>?_,λfs off d e v xs hl=>by simp[bj] at hl⟩
  simp only[Ro] at h;subst h;cases d <;> simp_all [dep,Instr.checkKey,run_underlying,nM]
 | unit=>
  refine ⟨λi d e v cs hl he hd h=>?_,λfs off d e v xs hl he hd h=>?_⟩
  ·simp only[Ro] at h;subst h;simp only[bj,aD] at hl;have h3:=hl.2;split at h3
   ·rename_i fs hu;have DH:fs.toList=[]:=bH.1 h3
    cases d with
    | zero=>simp[dep] at hd
    | succ d=>
     show (Instr.checkKey e (d+1) i (.agg #[])).run P w=_;simp_all [Instr.checkKey,run_underlying]
   ·cases h3
  simp_all [bj]
 | pair a b nL nw=>
  have second:∀ (fs:List Field) (off d:Nat) (e:Bool) (v:(Ty.pair a b).den) (xs:Array Value),bj P (.pair a b) (.inr (fs,off))=true->sU P (.pair a b) (.inr fs)=true->dep (.pair a b)<=d+1->Ro P w A (.pair a b) v (xs.toList.drop off) ->
    (forIn fs PUnit.unit λf _=>(if f.name ≠ "_" then do
      let x <- part f.type xs f.offset
      Instr.checkKey e d f.type x
      pure (ForInStep.yield PUnit.unit)
     else pure (ForInStep.yield PUnit.unit):Sem (ForInStep PUnit))).run P w=.ok () w:=by
   intro fs off d e v xs hl he hd h1
   cases fs with
   | nil=>simp_all
   | cons f r=>
    simp only[bj,aD,eU,dR] at hl;simp only[sU,aD,bne_iff_ne,ne_eq] at he;simp only[dep] at hd;obtain ⟨W8,W9⟩:=h1;have p1:=wt (P:=P) (w:=w) hl.1.2 (cs:=xs) (off:=off) (Ro.length _ W8);have e1:=nL.1 f.type d e v.1 _ hl.1.2 he.1.2 Bys W8;rw[dD] at W9;have e2:=nw.2 r (off+a.sz) d e v.2 xs hl.2 he.2 Bys W9;simp_all
  refine ⟨λi d e v cs hl he hd h=>?_,second⟩
  simp only[bj,aD] at hl;simp only[sU,aD,cD] at he;have h3:=hl.2;have h4:=he.2;split at h3
  ·rename_i fs hu;rw[hu] at h4;simp only at h4;split at h3
   ·rename_i f r KG;rw[KG] at h4;simp only at h4
    cases d with
    | zero=>grind [dep]
    | succ d=>
     show (Instr.checkKey e (d+1) i (.agg cs.toArray)).run P w=_;rw[Instr.checkKey];simp only[Sem.run_bind,run_underlying hu,Result.andThen_ok];rw[<-Array.forIn_toList,KG];have:=second (f::r) 0 d e v cs.toArray (by grind [bj]) (by grind [sU]) hd (by simpa using h);rw[this];rfl
   ·cases h3
  ·cases h3
 | arr n e ih=>
  refine ⟨λi d em v cs hl he hd h=>?_,λfs off d em v xs hl=>by simp[bj] at hl⟩
  simp only[bj,aD] at hl;have h3:=hl.2;simp only[sU] at he;split at h3
  ·rename_i n' el hu;simp only[aD,eU,dR] at h3;obtain ⟨⟨rfl,_⟩,hle⟩:=h3;rw[hu] at he;simp only at he;obtain ⟨inf,i1,i2,_⟩:=lG (mJ hle);have ot:P.cellsOf el=e.sz:=by grind [Program.cellsOf]
   obtain ⟨_,l1,_,r1⟩:=h
   cases d with
   | zero=>simp[dep] at hd
   | succ d=>
    simp only[dep] at hd;show (Instr.checkKey em (d+1) i (.agg cs.toArray)).run P w=_;rw[Instr.checkKey];simp only[Sem.run_bind,run_underlying hu,Result.andThen_ok,Std.Legacy.Range.forIn_eq_forIn_range',Std.Legacy.Range.size,Nat.sub_zero,Nat.add_one_sub_one,Nat.div_one]
    have key:∀ (m j:Nat),j+m=n->(forIn (List.range' j m) PUnit.unit λi _=>(do
       let x <- part el cs.toArray (i*(<- Go.sizeOf el))
       Instr.checkKey em d el x
       pure (ForInStep.yield PUnit.unit):Sem (ForInStep PUnit))).run P w=.ok () w:=by
     intro m
     induction m with
     | zero=>simp_all
     | succ m ihm=>
      intro j hj;have a1:=r1 j _ (aB (l:=v) (i:=j) Bys);have p1:=wt (P:=P) (w:=w) hle (cs:=cs.toArray) (off:=j*e.sz) (Ro.length _ a1);have e1:=ih.1 el d em _ _ hle he Bys a1;rw[iJ];simp only[List.forIn_cons,Sem.run_bind,run_sizeOf hle,p1,e1,Result.andThen_ok,Sem.run_pure];grind
    simp_all
  ·cases h3
 | _=>grind [sU]
def ES (P:Program) (w:World) (A:Cells) (k v:Ty) (es:List (Value×Value)) (m:List (k.den×v.den)):Prop:=
 es.length=m.length/\∀ (i:Nat) (y:k.den×v.den),m[i]?=some y->∃ (kc vc:List Value),es[i]?=some (c_ k kc,c_ v vc)/\Ro P w A k y.1 kc/\Ro P w A v y.2 vc
structure Oz (P:Program) (k:Ty) (i:TypeId):Prop where
 lay:bj P k (.inl i)=true
 agg:isAgg k=true
 oZ:k.oZ=true
 flat:k.flat=true
 sU:sU P k (.inl i)=true
 dep:dep k<=9000
theorem Ms {k v:Ty} {i:TypeId} (h:bj P (.map k v) (.inl i)=true):∃ ki vi,P.underlying i=some (.map ki vi)/\Oz P k ki/\bj P v (.inl vi)=true/\zvB P v vi=true:=by
 simp only[bj,aD] at h;have h2:=h.2;split at h2
 ·rename_i ki vi hu;simp only[aD,acq,dR] at h2;obtain ⟨⟨⟨h3,h4⟩,⟨⟨⟨⟨h5,h6⟩,h7⟩,h8⟩,h9⟩⟩,IT⟩:=h2;exact ⟨ki,vi,hu,⟨h3,h5,h6,h7,h8,h9⟩,h4,IT⟩
 ·cases h2
theorem Xm {k v:Ty} {ki:TypeId} (K:Oz P k ki) {x:k.den} {xc:List Value} (hx:Ro P w A k x xc):∀ (es:List MapEntry) (m:List (k.den×v.den)) (i:Nat),ES P w A k v (es.map λe=>(e.key,e.val)) m ->
  (Instr.findAsking ki (c_ k xc) es i).run P w=.ok ((m.findIdx? λy=>k.eq x y.1).bind λj=>(es[j]?).map λe=>(i+j,e.val)) w:=by
 intro es
 induction es with
 | nil=>
  simp_all [Instr.findAsking]
 | cons e es ih=>
  intro m i h
  cases m with
  | nil=>have:=h.1;simp at this
  | cons y m=>
   obtain ⟨kc,vc,h1,h2,h3⟩:=h.2 0 y rfl;simp only[dX,dJ,aP,bO] at h1;have heq:(Op.equal ki (c_ k xc) (c_ k kc)).run P w=.ok (k.eq x y.1) w:=(aaK (P:=P) (w:=w) (A:=A) k).1 ki Op.maxDepth x y.1 xc kc K.lay K.sU (by have:=K.dep;grind [Op.maxDepth]) hx h2
   have ry:ES P w A k v (es.map λe=>(e.key,e.val)) m:=⟨by have:=h.1;simpa using this,λj z hz=>by
    have:=h.2 (j+1) z (by simpa using hz)
    simpa using this⟩
   simp only[Instr.findAsking,Sem.run_bind,h1.1,heq,Result.andThen_ok,List.findIdx?_cons]
   cases hq:k.eq x y.1 with
   | true=>simp
   | false=>
    simp only[aE,aR,ih m (i+1) ry,Option.bind_map];congr 2;grind
theorem Xn {k:Ty} {ki:TypeId} (K:Oz P k ki):∃ d,P.underlying ki=some d/\∀ x y,Instr.sameNow d x y=none:=by
 have hl:=K.lay;have ha:=K.agg;have he:=K.oZ
 cases k with
 | pair a b=>
  simp only[bj,aD] at hl;have h3:=hl.2;split at h3
  ·rename_i fs hu;exact ⟨_,hu,λ_ _=>rfl⟩
  ·cases h3
 | unit=>
  simp only[bj,aD] at hl;have h3:=hl.2;split at h3
  ·rename_i fs hu;exact ⟨_,hu,λ_ _=>rfl⟩
  ·cases h3
 | arr n e=>
  simp only[bj,aD] at hl;have h3:=hl.2;split at h3
  ·rename_i n' el hu;exact ⟨_,hu,λ_ _=>rfl⟩
  ·cases h3
 | _=>simp[isAgg] at ha
theorem Tq {k v:Ty} {ki:TypeId} (K:Oz P k ki) {x:k.den} {xc:List Value} (hx:Ro P w A k x xc) {es:List MapEntry} {m:List (k.den×v.den)} (h:ES P w A k v (es.map λe=>(e.key,e.val)) m) :
  (Instr.findKey ki (c_ k xc) es).run P w=.ok ((m.findIdx? λy=>k.eq x y.1).bind λj=>(es[j]?).map λe=>(j,e.val)) w:=by
 obtain ⟨d,hu,hd⟩:=Xn K;have ha:=Xm (v:=v) K hx es m 0 h;simp only[bZ] at ha;unfold Instr.findKey;simp only[Sem.run_bind,run_underlying hu,Result.andThen_ok];cases es <;> simp_all [Instr.findNow]
theorem GW {k v:Ty} {m:Md} {y:List (k.den×v.den)} {cs:List Value} {F:FP} (h:an P w A (.map k v) m [] y cs F) :
  k.flat=true/\v.flat=true/\∃ (r:Nat) (es:Array MapEntry) (clock:Nat),cs=[.map (some r)]/\w.heap[r]?=some (.map es clock)/\ES P w A k v (es.toList.map λe=>(e.key,e.val)) y/\(m.own=true->1<=F r 0):=by
 simp only[an,hole,bX,aE,aR] at h;split at h
 ·rename_i hm;obtain ⟨h1,h2,r,vz,h3,h4,h5,h6,h7⟩:=h;obtain ⟨es,clock,q1,q2⟩:=WI h4;refine ⟨h1,h2,r,es,clock,h3,q1,?_,λ_=>h5⟩
  have q2:(es.toList.map λe=>(e.key,e.val))=vz:=q2;rw[q2];exact ⟨h6,h7⟩
 ·rename_i hm;obtain ⟨_,_,h1,h2,r,vz,h3,h4,h5,h6,h7⟩:=h;obtain ⟨es,clock,q1,q2⟩:=WI h4;refine ⟨h1,h2,r,es,clock,h3,q1,?_,λe=>absurd e hm⟩
  have q2:(es.toList.map λe=>(e.key,e.val))=vz:=q2;rw[q2];exact ⟨h6,h7⟩
theorem Xo {α:Type} {k:Ty} (m:List (k.den×α)) (x:k.den):ko k m x=(m.findIdx? λe=>k.eq x e.1).bind λj=>(m[j]?).map (·.2):=by
 unfold ko
 induction m with
 | nil=>rfl
 | cons y m ih=>
  simp only[iV,List.findIdx?_cons]
  cases hq:k.eq x y.1 with
  | true=>simp
  | false=>
   simp only[aE,aR];rw[ih];cases m.findIdx? (λe=>k.eq x e.1) <;> simp
theorem Zj {v:Ty} {i:TypeId} (hz:zvB P v i=true) (hv:bj P v (.inl i)=true) {z:Value} {L:List Value} (h1:(zeroValue i).run P w=.ok z w) (h2:z.cells.toList=L) (hl:L.length=v.sz):z=c_ v L:=by
 obtain ⟨inf,i1,i2,i3,i4⟩:=lG (mJ hv);unfold zvB at hz;rw[i1] at hz;simp only at hz
 cases hzz:inf.zero with
 | none=>grind
 | some z0=>
  have:z=z0:=by
   simp_all [zeroValue,typeInfo]
  subst this;rw[hzz] at hz;unfold c_
  cases ha:isAgg v with
  | true=>
   rw[ha] at hz;cases z <;> simp at hz;simp only[Value.cells] at h2;subst h2;simp
  | false=>
   grind [Value.cells]
theorem Zk:∀ (t:Ty),t.oZ=true->∀ {v1 v2:t.den} {rx du:List Value},Ro P w A t v1 rx->Ro P w A t v2 du->t.eq v1 v2=true->du=rx:=by
 intro t
 induction t with
 | int k=>
  intro _ v1 v2 rx du h1 h2 he;simp only[Ro] at h1 h2;subst h1;subst h2;have:v1=v2:=by cases k <;> simpa [Ty.eq] using he
  rw[this]
 | bool=>
  grind [Ro,Ty.eq]
 | str=>
  grind [Ro,Ty.eq]
 | unit=>
  grind [Ro]
 | pair a b nL nw=>
  intro hq v1 v2 rx du h1 h2 he;simp only[Ty.oZ,aD] at hq;simp only[Ty.eq,aD] at he;have e1:=nL hq.1 h1.1 h2.1 he.1;have e2:=nw hq.2 h1.2 h2.2 he.2;grind [List.take_append_drop]
 | arr n e ih=>
  intro hq v1 v2 rx du h1 h2 he;obtain ⟨_,l1,c1,r1⟩:=h1;obtain ⟨_,l2,c2,r2⟩:=h2;refine List.ext_getElem Bys λj hj2 hj1=>?_
  have hs:0 < e.sz:=by
   grind
  have hi:j / e.sz < n:=by
   rw[fI hs];omega
  have a1:=r1 (j / e.sz) _ (aB Bys);have a2:=r2 (j / e.sz) _ (aB Bys)
  have KU:e.eq (v1[j / e.sz]'Bys) (v2[j / e.sz]'Bys)=true:=by
   simp only[Ty.eq,bJ] at he;exact he (_,_) (fJ.2 ⟨j / e.sz,by grind⟩)
  have h3:=ih hq a1 a2 KU;have hm:=Nat.mod_lt j hs;have hd:=Nat.div_add_mod j e.sz;have h4:=cP (·[j % e.sz]?) h3;grind
 | _=>grind [Ty.oZ]
theorem UZ {k v:Ty} {t:TypeId} (hl:bj P (.map k v) (.inl t)=true) (hz:v.xj=true) {x:k.den} {xc:List Value} (hx:Ro P w A k x xc) {r:Nat} {es:Array MapEntry} {clock:Nat} (hb:w.heap[r]?=some (.map es clock)) {y:List (k.den×v.den)}
  (he:ES P w A k v (es.toList.map λe=>(e.key,e.val)) y) (ok:Bool) :
  ∃ vc,Ro P w A v (C3 (ko k y x) v.zero) vc/\(Instr.lookup t (.map (some r)) (c_ k xc) ok).run P w=.ok (if ok then .tuple #[c_ v vc,.bool (ko k y x).isSome] else c_ v vc) w:=by
 obtain ⟨ki,vi,hu,K,hv,aej⟩:=Ms hl;have hc:=(PG (P:=P) (w:=w) (A:=A) k).1 ki 10000 es.isEmpty x xc K.lay K.sU (by have:=K.dep;omega) hx;have hf:=Tq (v:=v) K hx he;obtain ⟨L,hL⟩:=wv v hz;obtain ⟨z,GP,Gc⟩:=AW (P:=P) (w:=w) hv hL;obtain ⟨r1,r2,r3⟩:=C7 (P:=P) (w:=w) (A:=A) v hL hv;rw[Xo]
 cases PH:y.findIdx? (λe=>k.eq x e.1) with
 | none=>
  rw[PH] at hf;simp only[Option.bind_none] at hf ⊢;refine ⟨L,r2,?_⟩
  have Ti:z=c_ v L:=Zj aej hv GP Gc r3;cases ok <;> simp[Instr.lookup,run_underlying hu,MapKept.run_getObj_map hb,hc,hf,GP,Ti]
 | some j=>
  rw[PH] at hf;have hj:j < y.length:=(eQ.1 PH).1;obtain ⟨kc,vc,g1,g2,g3⟩:=he.2 j y[j] (aB hj);rw[eM] at g1
  cases hej:es.toList[j]? with
  | none=>grind
  | some e=>
   rw[hej] at g1;simp only[bV,aP,bO] at g1;simp only[hej,aA,bV,aB hj] at hf ⊢;refine ⟨vc,g3,?_⟩
   cases ok <;> simp[Instr.lookup,run_underlying hu,MapKept.run_getObj_map hb,hc,hf,g1.2]
end
section
variable {P:Program} {C:Ctx} {A:Cells} {X:FP} {σ:St} {a:Act} {w:World} {F:Nat->FP} {R:Type} {x:R} {Q:Exit->Act->World->Prop} {o:Oper} {E:Env}
theorem R4 (h:ee P C A σ a w F) (lY:∀ i T,E.TI i=some T->bj P T (.inl i)=true) {t:Nat} (ho:o.op=.makeMap t none) {K:St->Option R}
  (hk:(q9 E t λt=>match t with
  | .map k v=>if k.flat&&v.flat then K (σ.cb o.dst (.own (.map k v) (ah (.map k v)) [] [])) else none
  | _=>none)=some x):o.wp P a w (λa' w'=>Nx P C K x a' w'/\Ext w w' (λ_ _=>0)) Q:=by
 obtain ⟨T,hT,hk⟩:=gr hk;split at hk
 ·rename_i k v;split at hk
  ·rename_i hc;simp only[aD] at hc
   have lm:(execOp a.eval o).run P w=.ok (.value (.map (some w.heap.size))) (w.alloc (.map #[] 0)):=by
    simp[execOp,ho,run_makeMap_plain]
   have fh:=qi w (.map #[] 0)
   have h1:Rel P C A (λb i=>0+dt w.heap.size 0 1 b i) σ a (w.alloc (.map #[] 0)) F:=by
    refine h.grow fh (λ_ _ h=>h) (λ_ _ h=>.inl h) (λb i=>?_);by_cases hb:b=w.heap.size
    ·subst hb;right;exact ⟨aH _,by simp,by grind [dt]⟩
    grind [dt]
   have zB:(w.alloc (.map #[] 0)).heap[w.heap.size]?=some (.map #[] 0):=heap_alloc_new w _;refine pg lm ⟨qE h1 hk (Fd:=dt w.heap.size 0 1) ⟨_,(ef (.map k v) _ rfl).symm,?_⟩ (λb i=>by simp) (λ_ _ _ _ e=>by cases e),fh⟩;simp only[an,hole,bX,aE,aR,ah,vT,Md.own,aK];refine ⟨hc.1,hc.2,w.heap.size,[],rfl,?_,by simp[dt],rfl,λi y hy=>by cases hy⟩
   exact WJ zB
  ·cases hk
 ·cases hk
theorem R5 (h:ee P C A σ a w F) (lY:∀ i T,E.TI i=some T->bj P T (.inl i)=true) {t:Nat} {y z:Operand} {ok:Bool} (ho:o.op=.lookup t y z ok) (bd:dy P y=true/\dy P z=true) {K:St->Option R}
  (hk:Ma E σ t (d7 σ y) (d7 σ z) ok o.dst K=some x):o.wp P a w (λa' w'=>Nx P C K x a' w'/\Ext w w' (λ_ _=>0)) Q:=by
 unfold Ma at hk;obtain ⟨T,hT,hk⟩:=gr hk;have jx:=lY _ _ hT;split at hk
 ·rename_i k v;split at hk
  ·rename_i hz
   rcases f5 h bd.1 with hs | ⟨xs,e⟩
   rotate_left
   ·grind
   rcases f5 h bd.2 with Db | ⟨xs,e2⟩
   rotate_left
   ·exfalso;rw[e2] at hk;split at hk
    ·split at hk
     ·obtain ⟨_,_,_,_,_,_,_,_,h1,_⟩:=l6 h hk;grind [c7]
     ·cases hk
    ·cases hk
   split at hk
   ·rename_i r p snap hv;rw[hv] at hs;split at hk
    ·rename_i pJ;obtain ⟨hr,t',m',H',v',ca,de,F',h1,ii,h3,h4,h5,h6⟩:=l6 h hk;split at h1
     ·rename_i hH;have hH:=bH.1 hH;subst hH;obtain ⟨e1,h1⟩:=c7 h1;subst e1;obtain ⟨pl,g1,g2,g3⟩:=hs.2 pJ;rw[h3] at g1;injection g1 with g1;subst g1;obtain ⟨f1,f2,b,es,clock,q1,q2,q3,q4⟩:=GW h4;simp only at g2;subst q1;rw[ef (.map k v) _ rfl] at g2;split at h1
      ·rename_i t2 ix hix;rw[hix] at Db;obtain ⟨e2,h1⟩:=c7 h1;subst e2;obtain ⟨kc,Nf,mY⟩:=Db;obtain ⟨vc,r1,r2⟩:=UZ (P:=P) jx hz mY q2 q3 ok
       have lm:(execOp a.eval o).run P w=.ok (.value (if ok then .tuple #[c_ v vc,.bool (ko t2 v' ix).isSome] else c_ v vc)) w:=by
        simp_all [execOp]
       cases ok with
       | true=>
        simp only at h1;refine pg lm ⟨cm h h1 ⟨#[c_ v vc,.bool (ko t2 v' ix).isSome],λ_ _ _=>0,rfl,λb i=>by grind [nQ],λj y hy=>?_⟩ (λ_ _ _ _ e=>by cases e),Ext.refl _ _⟩
        match j with
        | 0=>simp at hy;subst hy;exact ⟨_,rfl,.inr ⟨vc,rfl,Ro.rep v _ (it v) r1⟩⟩
        | 1=>simp at hy;subst hy;exact ⟨_,rfl,.inr ⟨[.bool _],rfl,rfl⟩⟩
        | n+2=>simp at hy
       | false=>
        simp only at h1;exact pg lm ⟨cm h h1 ⟨vc,rfl,r1⟩ (λ_ _ _ _ e=>by cases e),Ext.refl _ _⟩
      ·cases h1
     ·cases h1
    ·cases hk
   ·cases hk
  ·cases hk
 ·cases hk
theorem U0 {r:Nat} {es KV:Array MapEntry} {clock Ec:Nat} (hb:w.heap[r]?=some (.map es clock)):Ext w { w with heap:=w.heap.setIfInBounds r (.map KV Ec) } (dt r 0 1):=by
 have aeZ:∀ b,b≠r->(w.heap.setIfInBounds r (.map KV Ec))[b]?=w.heap[b]?:=λb je=>by grind
 refine ⟨by simp,λb i PI hz u hu=>?_,λb n hn=>?_,λb i PI=>?_,rfl,rfl,rfl,λb PI hz=>?_,aH _⟩
 ·grind [dt,ce,BQ]
 ·obtain ⟨c,e,fr,h1,h2,h3⟩:=hn;have hbr:b≠r:=λe=>by grind
  exact ⟨c,e,fr,by grind,h2,h3⟩
 ·grind [World.frozen?]
 ·have hbr:b≠r:=λe=>by simp_all [dt]
  grind
theorem U1 {k v:Ty} {t:TypeId} (hl:bj P (.map k v) (.inl t)=true) {x:k.den} {xc:List Value} (hx:Ro P w A k x xc) {z:v.den} {zc':List Value} (hzr:Ro P w A v z zc') {r:Nat} {es:Array MapEntry} {clock:Nat} (hb:w.heap[r]?=some (.map es clock)) {y:List (k.den×v.den)}
  (he:ES P w A k v (es.toList.map λe=>(e.key,e.val)) y) :
  ∃ (KV:Array MapEntry) (Ec:Nat),(Instr.mapUpdate t (.map (some r)) (c_ k xc) (c_ v zc')).run P w=.ok () { w with heap:=w.heap.setIfInBounds r (.map KV Ec) }/\ES P w A k v (KV.toList.map λe=>(e.key,e.val)) (nP k y x z):=by
 obtain ⟨ki,vi,hu,K,hv,_⟩:=Ms hl;have hc:=(PG (P:=P) (w:=w) (A:=A) k).1 ki 10000 false x xc K.lay K.sU (by have:=K.dep;omega) hx;have hf:=Tq (v:=v) K hx he;unfold nP
 cases PH:y.findIdx? (λe=>k.eq x e.1) with
 | none=>
  rw[PH] at hf;simp only[Option.bind_none] at hf ⊢;refine ⟨es.push { key:=c_ k xc,val:=c_ v zc',born:=clock },clock+1,?_,?_,λi q hq=>?_⟩
  ·simp[Instr.mapUpdate,run_underlying hu,MapKept.run_getObj_map hb,hc,hf,MapKept.run_setObj_map _ hb,Result.andThen]
  ·have:=he.1;grind
  ·have hlen:(es.toList.map λe=>(e.key,e.val)).length=y.length:=he.1;rw[Array.toList_push,fH];by_cases hi:i < y.length
   ·rw[cZ hi] at hq;rw[cZ (by grind)];exact he.2 i q hq
   grind
 | some j=>
  rw[PH] at hf;have hfj:=eQ.1 PH;have hj:j < y.length:=hfj.1;obtain ⟨kc,vc,g1,g2,g3⟩:=he.2 j y[j] (aB hj);rw[eM] at g1;have hlen:es.size=y.length:=by have:=he.1;simpa using this
  have wx:es.toList[j]?=some es[j]:=by simp[hlen,hj]
  rw[wx] at g1;simp only[bV,aP,bO] at g1;simp only[aA] at hf ⊢;rw[wx] at hf;simp only[bV] at hf
  have aek:k.eq x (y[j]).1=true:=by
   grind
  have ae4:c_ k kc=c_ k xc:=by
   have:=Zk k K.oZ hx g2 aek;rw[this]
  have In:(Instr.keyThatStays (c_ k xc) (c_ k xc)).run P w=.ok (c_ k xc) w:=by
   simp[Instr.keyThatStays,Xl K.agg K.oZ hx]
  have xm:(es[j]?).map (·.key)=some (c_ k xc):=by
   grind
  refine ⟨es.modify j λe=>{ e with key:=c_ k xc,val:=c_ v zc' },clock,?_,?_,λi q hq=>?_⟩
  ·simp[Instr.mapUpdate,run_underlying hu,MapKept.run_getObj_map hb,hc,hf,xm,In,MapKept.run_setObj_map _ hb,Result.andThen]
  ·simp[hlen]
  ·rw[eZ] at hq;rw[eM,dV,gF];by_cases qN:j=i
   ·grind
   ·rw[aL qN] at hq ⊢;have:=he.2 i q hq;grind
theorem Mt (h:ee P C A σ a w F) (lY:∀ i T,E.TI i=some T->bj P T (.inl i)=true) {t:Nat} {y z u:Operand} (ho:o.op=.mapUpdate t y z u) (hd:o.dst=none) (bd:dy P y=true/\dy P z=true/\dy P u=true) {K:St->Option R}
  (hk:Mb E σ t (d7 σ y) (d7 σ z) (d7 σ u) K=some x):o.wp P a w (Nx P C K x) Q:=by
 unfold Mb at hk;obtain ⟨T,hT,hk⟩:=gr hk;have jx:=lY _ _ hT;split at hk
 ·rename_i k v
  rcases f5 h bd.1 with hs | ⟨xs,e⟩
  rotate_left
  ·grind
  split at hk
  ·rename_i r p snap hv;rw[hv] at hs;split at hk
   ·rename_i pJ;obtain ⟨hr,t',m',H',v',ca,de,F',h1,ii,h3,h4,h5,h6⟩:=l6 h hk;split at h1
    ·rename_i hH;simp only[aD,bH] at hH;obtain ⟨jI,hH⟩:=hH;subst hH;obtain ⟨e1,h1⟩:=c7 h1;subst e1;obtain ⟨pl,g1,g2,g3⟩:=hs.2 pJ;rw[h3] at g1;injection g1 with g1;subst g1;split at h1
     ·rename_i t2 ix t3 uv hix huv
      have Db:db P A σ a w (a.eval z) (.val t2 ix) (λ_ _=>0):=by
       grind [f5]
      have hs3:db P A σ a w (a.eval u) (.val t3 uv) (λ_ _=>0):=by
       grind [f5]
      obtain ⟨e2,h1⟩:=c7 h1;subst e2;obtain ⟨e3,h1⟩:=c7 h1;subst e3;obtain ⟨kc,Nf,mY⟩:=Db;obtain ⟨uc,hu1,hu2⟩:=hs3;obtain ⟨hr,m2,H2,v2,du,Ea,F2,q1,q2,q3,q4,q5,q6⟩:=D_ h h1;obtain ⟨_,e2,e3,e4⟩:=At.inj ⟨ii⟩ q1;subst e2;subst e3;have e4:=gH e4;subst e4;rw[h3] at q2;injection q2 with q2;injection q2 with q21 q22 q23 q24;subst q23;subst q24;have jb:=q3;obtain ⟨f1,f2,b,es,clock,b1,b2,b3,b4⟩:=GW q3;have b4:=b4 jI;simp only at g2;subst b1;rw[ef (.map t2 t3) _ rfl] at g2;obtain ⟨KV,Ec,r1,r2⟩:=U1 (P:=P) jx mY hu2 b2 b3;generalize Ci:({ w with heap:=w.heap.setIfInBounds b (.map KV Ec) }:World)=w2 at r1;have fh:Ext w w2 (dt b 0 1):=by grind [U0]
      have IK:∀ b i,F r b i<=1:=λb i=>by have:=h.qg b i;grind [dj]
      have lm:(execOp a.eval o).run P w=.ok .skip w2:=by
       simp[execOp,ho,g2,Nf,hu1,r1]
      refine Pm lm hd ?_
      have hA:∀ b' i,A b' i->∀ u,ce w b' i=some u->ce w2 b' i=some u:=λb' i ha u hu=>by
       refine fh.cell b' i (h.ll b' i (.inr ha)) ?_ u hu;rcases bM (dt b 0 1 b' i) with h0 | h0
       ·exact h0
       ·have:b'=b/\i=0:=by
         grind [dt]
        obtain ⟨rfl,rfl⟩:=this;exact absurd ha (h.rf b' 0 (by grind [dj]))
      have zB:ce w2 b 0=some (ED (entriesOf KV)):=by
       grind [WJ]
      have Ij:an P w2 A (.map t2 t3) m' [] (nP t2 v' ix uv) [.map (some b)] F2:=by
       simp only[an,hole,bX,aE,aR,jI,aK];refine ⟨f1,f2,b,entriesOf KV,rfl,zB,b4,r2.1,λi q hq=>?_⟩
       obtain ⟨kc',vc',j1,j2,j3⟩:=r2.2 i q hq;exact ⟨kc',vc',j1,Ro.mono hA (λ_ _ h=>h) t2 j2,Ro.mono hA (λ_ _ h=>h) t3 j3⟩
      have hF2:∀ b' i,dt b 0 1 b' i<=F2 b' i:=λb' i=>by
       grind [dt]
      have xn:∀ b' o',de=some (b',o')->Has w2 b' o' [.map (some b)]:=λb' o' ea j u hu=>by
       have hh1:=(q5 b' o' ea).1 j u hu;have hj:=(aM.1 hu).1;have hj0:j=0:=by simpa using hj
       subst hj0;have h2:=q4 b' (o'+0);have h4:=hF2 b' (o'+0);have h5:=IK b' (o'+0);have h7:=dj F hr b' (o'+0)
       have h6:lF de (Ty.map t2 t3).sz b' (o'+0)=1:=by
        grind [lF,dt,Ty.sz]
       exact fh.cell _ _ (h.ll b' (o'+0) (.inl (by grind))) Bys u hh1
      obtain ⟨A3,C8,Fr,n1,n2,n3,n4,n5⟩:=q6 w2 A [.map (some b)] F2 (λ_ _=>0) (fh.mono λb' i hz=>by
        grind) (λ_ _ h=>h) (λ_ _ h=>.inl h) (λb i=>by omega) xn (λ_=>rfl) Ij
      refine ⟨_,n1,A3,_,n5 yp (zT (h.mH r)) (GG (h.mH r)) rfl λp' snap hb bd hlen=>?_⟩
      have h5:=Jv (h.mH r) hb bd;refine ⟨d_ p'+1,False,by omega,λ_=>.inl Bys,λ_=>by omega,?_⟩
      intro q pl hq hp;grind [bv]
     ·cases h1
    ·cases h1
   ·cases hk
  ·cases hk
 ·cases hk
theorem R6 (h:ee P C A σ a w F) (lY:∀ i T,E.TI i=some T->bj P T (.inl i)=true) {t:Nat} {y:Operand} (ho:o.op=.call { callee:=.builtin .len,args:=#[y],argTypes:=#[t] }) (bd:dy P y=true) {K:St->Option R}
  (hk:Mc E σ t (d7 σ y) (λn=>K (σ.cb o.dst (.val (.int .i64) (n:Int))))=some x):o.wp P a w (Nx P C K x) Q:=by
 unfold Mc at hk;obtain ⟨T,hT,hk⟩:=gr hk;have jx:=lY _ _ hT;split at hk
 ·rename_i k v
  rcases f5 h bd with hs | ⟨xs,e⟩
  rotate_left
  ·grind
  split at hk
  ·rename_i r p snap hv;rw[hv] at hs;split at hk
   ·rename_i pJ;obtain ⟨hr,t',m',H',v',ca,de,F',h1,ii,h3,h4,h5,h6⟩:=l6 h hk;split at h1
    ·rename_i hH;have hH:=bH.1 hH;subst hH;obtain ⟨e1,h1⟩:=c7 h1;subst e1;obtain ⟨pl,g1,g2,g3⟩:=hs.2 pJ;rw[h3] at g1;injection g1 with g1;subst g1;obtain ⟨f1,f2,b,es,clock,q1,q2,q3,q4⟩:=GW h4;simp only at g2;subst q1;rw[ef (.map k v) _ rfl] at g2;obtain ⟨ki,vi,hu,_,_,_⟩:=Ms jx;have hlen:es.size=List.length v':=by have:=q3.1;simpa using this
     have lm:(execOp a.eval o).run P w=.ok (.value (.int .i64 ((List.length v':Nat):Int))) w:=by
      rw[Cb ho];simp[Builtin.len_,g2,run_underlying hu,MapKept.run_getObj_map q2,goInt,hlen]
     exact pg lm (cm h h1 ⟨[.int .i64 _],rfl,rfl⟩ (λ_ _ _ _ e=>by cases e))
    ·cases h1
   ·cases hk
  ·cases hk
 ·cases hk
end
end OT
namespace OT
open Go
structure ub (P:Program) (E:Env):Prop where
 ti:∀ i T,E.TI i=some T->bj P T (.inl i)=true
 eq:aaL P E
 fn:∀ f g,E.G f=some g->Sound P f g/\wT P f g.cap
def U2 (P:Program) (t:TypeId):Bool:=match P.underlying t with
 | some (.slice _)=>true
 | some .string=>true
 | _=>false
theorem KW {P:Program} {t:TypeId} (h:U2 P t=true):(∃ e',P.underlying t=some (.slice e'))\/P.underlying t=some .string:=by
 grind [U2]
def PJ (P:Program) (c:Call):Bool:=match c.callee with
 | .builtin .append | .builtin .copy=>match c.argTypes.toList with
  | [_,tx]=>U2 P tx
  | _=>false
 | _=>true
def sA (P:Program):Op->Bool
 | .move x | .assign x | .nilCheck x | .box _ x | .load _ x | .unOp _ _ x | .convert _ _ x | .fieldAddr _ x _ | .field _ x _=>dy P x
 | .pick c a b=>dy P c&&dy P a&&dy P b
 | .mapUpdate _ m k v=>dy P m&&dy P k&&dy P v
 | .lookup _ a x _ | .store _ a x | .binOp _ _ a x _ | .indexAddr _ a x | .index _ a x | .makeSlice _ a x=>dy P a&&dy P x
 | .build _ ps | .buildSlice _ _ ps=>ps.toList.all λp=>dy P p.2
 | .slice _ x lo hi _=>dy P x&&lo.all (dy P)&&hi.all (dy P)
 | .makeFunc (.func f) _ cs=>(P.funcs[f]?).any λfn=>fn.nfree == cs.size
 | .call c=>c.args.toList.all (dy P)&&PJ P c
 | _=>true
section
variable {P:Program} {C:Ctx} {A:Cells} {X:FP} {σ:St} {a:Act} {w:World} {F:Nat->FP} {R:Type} {x:R} {Q:Exit->Act->World->Prop} {o:Oper} {E:Env}
theorem Ar {α:Type} {l:Array α} {m:List α} (h:l.toList=m):l=m.toArray:=by grind
def xo (E:Env):Op->Bool
 | .move _ | .assign _ | .pick .. | .build .. | .load .. | .nilCheck _ | .binOp .. | .unOp .. | .fieldAddr .. | .field .. | .indexAddr .. | .index .. | .slice .. | .extract .. | .makeFunc ..=>true
 | .convert _ t _=>match E.TI t with
  | some T=>T.flat
  | none=>false
 | .call c=>match c.callee with
  | .builtin .len=>match c.argTypes.toList with
   | [t]=>!WF (E.TI t)
   | _=>false
  | _=>false
 | _=>false
theorem OA (hE:ub P E) (h:ee P C A σ a w F) {ip i:Nat} (da:sA P o.op=true) (rt:xo E o.op=true) {K:St->Option R} (hk:sL E ip i o σ K=some x):Tk P o a w (Nx P C K x):=by
 unfold sL at hk
 cases ho:o.op with
 | move y=>rw[ho] at hk da;exact WY h ho da hk
 | assign y=>rw[ho] at hk da;exact RV h ho da hk
 | pick c y z=>
  grind [sA,WZ]
 | build t ps=>rw[ho] at hk da;exact UU h hE.ti ho da hk
 | load t y=>rw[ho] at hk da;exact UJ h hE.ti ho da hk
 | nilCheck y=>rw[ho] at hk da;exact Od h ho da hk
 | binOp op t y z t2=>
  rw[ho] at hk da;simp only[sA,aD] at da;exact UR h hE.ti hE.eq ho da hk
 | unOp op t y=>
  rw[ho] at hk da;refine W7 h ho da (K:=K) ?_;grind
 | convert s t y=>
  rw[ho] at hk da rt;refine Pr h hE.ti ho da (λT hT=>?_) hk;grind [xo]
 | fieldAddr t y j=>rw[ho] at hk da;exact Ml h hE.ti ho da hk
 | field t y j=>rw[ho] at hk da;exact UO h hE.ti ho da hk
 | indexAddr t y z=>
  rw[ho] at hk da;simp only[sA,aD] at da;exact Mm h hE.ti ho da hk
 | index t y z=>
  rw[ho] at hk da;simp only[sA,aD] at da;exact UP h hE.ti ho da hk
 | slice t y lo hi mx=>
  rw[ho] at hk da
  cases mx with
  | none=>
   simp only[sA,aD] at da;refine UQ h hE.ti ho ⟨da.1.1,λz hz=>?_,λz hz=>?_⟩ hk
   all_goals grind
  | some m=>cases hk
 | extract y j=>
  grind [Ps]
 | makeFunc fn first cs=>
  rw[ho] at hk da
  cases fn with
  | func f=>exact Oh h ho da hk
  | _=>cases hk
 | call c=>
  rw[ho] at hk da rt;simp only[sA,aD] at da;obtain ⟨mz,hc⟩:=da;obtain ⟨callee,args,ts⟩:=c
  cases callee with
  | builtin b=>
   cases b with
   | len=>
    simp only at hk;split at hk
    ·rename_i y t h1 h2;have e1:=Ar h1;have e2:=Ar h2
     subst e1;subst e2;simp only[eI,aD] at mz;simp only[xo,cD] at rt;rw[rt] at hk;exact Zd h hE.ti ho mz.1 hk
    ·cases hk
   | _=>grind [xo]
  | _=>grind [xo]
 | _=>grind [xo]
def quiet (E:Env):Op->Bool
 | .alloc _ | .box .. | .buildSlice .. | .makeSlice .. | .convert .. | .makeMap .. | .lookup ..=>true
 | .call c=>match c.callee with
  | .value (.func f)=>match E.G f with
   | some g=>yM g.ps
   | none=>false
  | _=>false
 | _=>false
theorem Xp (hE:ub P E) (h:ee P C A σ a w F) {ip i:Nat} (da:sA P o.op=true) (rt:xo E o.op=false) {K:St->Option R} (hk:sL E ip i o σ K=some x) :
  o.wp P a w (λa' w'=>Nx P C K x a' w'/\(quiet E o.op=true->Ext w w' (λ_ _=>0))) Q:=by
 have wq:∀ {N:Act->World->Prop},o.wp P a w (λa' w'=>N a' w'/\Ext w w' (λ_ _=>0)) Q->o.wp P a w (λa' w'=>N a' w'/\(quiet E o.op=true->Ext w w' (λ_ _=>0))) Q:=λh=>Oper.wp_mono (λa' w' h=>⟨h.1,λ_=>h.2⟩) h;have wn:∀ {N:Act->World->Prop},quiet E o.op=false->o.wp P a w N Q->o.wp P a w (λa' w'=>N a' w'/\(quiet E o.op=true->Ext w w' (λ_ _=>0))) Q:=λhq h=>Oper.wp_mono (λa' w' h=>⟨h,λe=>by grind⟩) h;unfold sL at hk
 cases ho:o.op with
 | alloc t=>rw[ho] at hk;rw[<-ho];exact wq (W_ h hE.ti ho hk)
 | box t y=>rw[ho] at hk da;rw[<-ho];exact wq (abg h ho da hk)
 | buildSlice t n ps=>rw[ho] at hk da;rw[<-ho];exact wq (Mp h hE.ti ho da hk)
 | store t y z=>
  rw[ho] at hk da;simp only[sA,aD] at da;rw[<-ho];refine wn (by rw[ho];rfl) ?_
  cases hd:o.dst with
  | none=>rw[hd] at hk;exact UL h hE.ti ho hd da hk
  | some d=>grind
 | convert s t y=>rw[ho] at hk da;rw[<-ho];exact wq (RU h hE.ti ho da hk)
 | makeMap t rv=>
  rw[ho] at hk;rw[<-ho]
  cases rv with
  | none=>exact wq (R4 h hE.ti ho hk)
  | some _=>cases hk
 | lookup t y z ok=>
  rw[ho] at hk da;simp only[sA,aD] at da;rw[<-ho];exact wq (R5 h hE.ti ho da hk)
 | mapUpdate t y z u=>
  rw[ho] at hk da;simp only[sA,aD] at da;rw[<-ho];refine wn (by rw[ho];rfl) ?_
  cases hd:o.dst with
  | none=>rw[hd] at hk;exact Mt h hE.ti ho hd ⟨da.1.1,da.1.2,da.2⟩ hk
  | some d=>grind
 | makeSlice t y z=>
  rw[ho] at hk da;simp only[sA,aD] at da;rw[<-ho];exact wq (Of h hE.ti ho da hk)
 | call c=>
  rw[ho] at hk da rt;simp only[sA,aD] at da;obtain ⟨mz,hc⟩:=da;obtain ⟨callee,args,ts⟩:=c;rw[<-ho]
  cases callee with
  | builtin b=>
   cases b with
   | len=>
    simp only at hk;split at hk
    ·rename_i y t h1 h2;have e1:=Ar h1;have e2:=Ar h2
     subst e1;subst e2;simp only[eI,aD] at mz;simp only[xo,Bool.not_eq_false'] at rt;rw[rt] at hk;exact wn (by rw[ho];rfl) (R6 h hE.ti ho mz.1 hk)
    ·cases hk
   | append=>
    simp only at hk;split at hk
    ·rename_i y z t zs h1 h2;have e1:=Ar h1;subst e1;simp only[PJ] at hc;split at hc
     ·rename_i t0 tx h3;rw[h3] at h2;injection h2 with h2 h4;subst h2;have e2:=Ar h3;subst e2;simp only[eI,aD] at mz;exact wn (by rw[ho];rfl) (step_append h hE.ti ho ⟨mz.1,mz.2.1⟩ (KW hc) hk)
     ·cases hc
    ·cases hk
   | copy=>
    simp only at hk;split at hk
    ·rename_i y z t zs h1 h2;have e1:=Ar h1;subst e1;simp only[PJ] at hc;split at hc
     ·rename_i t0 tx h3;rw[h3] at h2;injection h2 with h2 h4;subst h2;have e2:=Ar h3;subst e2;simp only[eI,aD] at mz;exact wn (by rw[ho];rfl) (Xe h hE.ti ho ⟨mz.1,mz.2.1⟩ (KW hc) hk)
     ·cases hc
    ·cases hk
   | _=>cases hk
  | value y=>
   cases y with
   | func f=>
    simp only at hk;split at hk
    ·rename_i g hg;split at hk
     ·rename_i pL;obtain ⟨h1,h2⟩:=hE.fn f g hg;rw[pL] at h2;refine Oper.wp_mono (λa' w' h=>⟨h.1,λe=>h.2 ?_⟩) (RX h ho mz h1 h2 hk);grind [quiet]
     ·cases hk
    ·cases hk
   | tmp i=>
    refine wn (by rw[ho];rfl) ?_;simp only at hk;split at hk
    ·rename_i f n nx;split at hk
     ·rename_i g hg;obtain ⟨h1,h2⟩:=hE.fn f g hg;refine Oper.wp_mono (λa' w' h=>h.1) (RY h ho mz nx h1 h2 (K:=K) (x:=x) ?_);grind
     ·cases hk
    ·cases hk
   | _=>cases hk
  | _=>cases hk
 | _=>grind [xo]
theorem abo (hE:ub P E) (h:ee P C A σ a w F) {ip i:Nat} (da:sA P o.op=true) {K:St->Option R} (hk:sL E ip i o σ K=some x):o.wp P a w (Nx P C K x) Q:=by
 cases rt:xo E o.op with
 | true=>exact (OA hE h da rt hk).wp
 | false=>grind [Oper.wp_mono,Xp]
end
end OT
namespace OT
open Go
noncomputable def As (E:Env):Op->Option Slot
 | .alloc t=>match E.TI t with
  | some T=>if T.xj then some (.box T (ah T) [] T.zero) else none
  | none=>none
 | .buildSlice t n ps=>match E.TI t with
  | some (.aa e)=>if Nat.beq n 0&&Nat.beq ps.size 0&&e.xj then some (.own (.aa e) (.aa true (ah e)) [] []) else none
  | _=>none
 | _=>none
section
variable {P:Program} {C:Ctx} {A:Cells} {X:FP} {σ:St} {a:Act} {w:World} {F:Nat->FP} {R:Type} {x:R} {Q:Exit->Act->World->Prop} {o:Oper} {E:Env}
theorem Zl {s:Slot} (hs:As E o.op=some s) {ip i:Nat} {K:St->Option R}:sL E ip i o σ K=K (σ.cb o.dst s):=by
 unfold As at hs;split at hs
 ·grind [sL,q9]
 ·rename_i t n ps ho;unfold sL;simp only[ho];split at hs
  all_goals simp_all [q9,Jq]
 ·cases hs
theorem Xq {N:Act->World->Prop} (hh:o.wp P a w N Q):o.wp P a w (λa' w'=>(∀ d,o.dst≠some d->tmp a' d=tmp a d)/\N a' w') Q:=by
 have key:∀ (a0:Act) v,a0.tmps=a.tmps->∀ d,o.dst≠some d->tmp (a0.put o.dst v) d=tmp a d:=λa0 v h0 d hd=>by
  unfold tmp Act.put;cases ho:o.dst <;> simp_all
 unfold Oper.wp at *;generalize (execOp a.eval o).run P w=r at *;simp_all [Oper.upon]
theorem Nj {d:Nat} (h:Mf σ d=true):d < σ.n/\σ.get d=.dead/\(∀ k,(d,k,false) ∉ σ.ay)/\∀ r p snap,(d,r,p,snap) ∉ σ.gh:=by
 unfold Mf at h;simp only[aD,cD,Nat.blt_eq] at h;obtain ⟨⟨⟨h1,h2⟩,h3⟩,h4⟩:=h;refine ⟨h1,?_,λk hm=>?_,λr p snap hm=>?_⟩
 ·grind
 ·revert h3 hm
  generalize σ.ay=l
  induction l with
  | nil=>grind
  | cons e l ih=>
   obtain ⟨k1,n1,b1⟩:=e;simp_all [Ew]
 ·rw[List.any_eq_false] at h4;exact h4 _ hm (by simp)
theorem Rel.tmp (h:Rel P C A X σ a w F) {d:Nat} (hp:Mf σ d=true) (v:Value):Rel P C A X σ (a.put (some d) v) w F:=by
 obtain ⟨hd,hg,hl,hgh⟩:=Nj hp;have ot:=h.size
 have ht:∀ i,i≠d->OT.tmp (a.put (some d) v) i=OT.tmp a i:=λi hi=>by
  grind [pe]
 have gy:∀ r p,place σ (a.put (some d) v) w r p=place σ a w r p:=λr p=>by
  unfold place;by_cases hr:r=d
  ·subst hr;rw[hg];rfl
  ·rw[ht r hr]
 have oH:zx σ a w σ (a.put (some d) v) w:=λr p snap hb=>⟨hb,λbd=>⟨bd,λ_ pl hp=>⟨pl.H,pl.cs,by simp_all,λ_=>rfl⟩⟩⟩
 refine { h with size:=by simp[Act.put,ot],defers:=by simpa [Act.put] using h.defers,i9:=λi hi=>?_,gh:=λd' r p snap hm=>?_,pv:=λj k hm=>?_,whole:=λr t m H v' hr hk=>?_,ou:=λj k hm R hR=>?_ }
 ·by_cases Tr:i=d
  ·subst Tr;rw[hg];trivial
  ·rw[ht i Tr];exact db.nK oH (λ_ _ h=>h) (λ_ _ _ _ h=>h) (λ_ _ h=>h) (λ_ _ _=>⟨λ_ h=>h,rfl⟩) (h.i9 i hi)
 ·rw[ht d' (λe=>by grind)];exact sw.nK oH (h.gh d' r p snap hm)
 ·rw[ht j (λe=>by grind)];exact h.pv j k hm
 ·rw[ht r (λe=>by grind)];exact h.whole r t m H v' hr hk
 ·have:j≠d:=λe=>by subst e;rw[hg] at hR;cases hR
  rw[ht j this] at hR;exact h.ou j k hm R hR
def PS (P:Program) (A:Cells) (w:World) (tv:Value):Slot->FP->Prop
 | .own t m H v,F=>∃ cs,tv=c_ t cs/\an P w A t m H v cs F
 | .box t m H v,F=>∃ b L F1,tv=.pointer (some ⟨b,0,none⟩)/\L.length=t.sz/\Has w b 0 L/\(∀ j,j < t.sz->w.frozen? ⟨b,j,none⟩=false) /\
   (∀ x i,dt b 0 t.sz x i+F1 x i<=F x i)/\an P w A t m H v L F1/\jj w b (t.sz,false)
 | _,_=>False
theorem PS.slot {tv:Value} {s:Slot} {G:FP} (h:PS P A w tv s G):db P A σ a w tv s G:=by
 cases s with
 | own t m H v=>exact h
 | box t m H v=>
  obtain ⟨b,L,F1,h1,h2,h3,h4,h5,h6,h7⟩:=h;exact ⟨b,0,L,F1,h1,h2,h3,λj hj=>by grind,h5,h6⟩
 | _=>exact h.elim
theorem PS.whole {tv:Value} {s:Slot} {G:FP} (h:PS P A w tv s G):∀ t m H v',s=.box t m H v'->∃ b,tv=.pointer (some ⟨b,0,none⟩)/\jj w b (t.sz,false):=by
 rintro t m H v rfl;obtain ⟨b,L,F1,h1,h2,h3,h4,h5,h6,h7⟩:=h;grind
theorem PS.nK {A':Cells} {w':World} {tv:Value} {s:Slot} {G:FP} (hA:∀ b i,A b i->A' b i) (hc:∀ b i,A b i->∀ u,ce w b i=some u->ce w' b i=some u) (hb:∀ b n,jj w b n->jj w' b n)
  (hF:∀ b i,1<=G b i->(∀ u,ce w b i=some u->ce w' b i=some u)/\w'.frozen? ⟨b,i,none⟩=w.frozen? ⟨b,i,none⟩) (h:PS P A w tv s G):PS P A' w' tv s G:=by
 cases s with
 | own t m H v=>obtain ⟨cs,h1,h2⟩:=h;exact ⟨cs,h1,an.mono hA hc hb t h2 (λ_ _=>aH _) (λb i hp=>(hF b i hp).1)⟩
 | box t m H v=>
  obtain ⟨b,L,F1,h1,h2,h3,h4,h5,h6,h7⟩:=h
  have hr:∀ j,j < t.sz->1<=G b j:=λj hj=>by
   grind [dt]
  exact ⟨b,L,F1,h1,h2,λj u hu=>(hF _ _ (by grind)).1 u (h3 j u hu),λj hj=>by grind,h5,
   an.mono hA hc hb t h6 (λ_ _=>aH _) (λb i hp=>(hF b i (by grind)).1),hb _ _ h7⟩
 | _=>exact h.elim
def PF (P:Program) (E:Env) (ops:Array Oper) (A:Cells) (a:Act) (w:World):List Nat->FP->Prop
 | [],_=>True
 | j::D,X=>∃ (o:Oper) (d:Nat) (s:Slot) (Fj X':FP),ops[j]?=some o/\o.dst=some d/\As E o.op=some s/\PS P A w (tmp a d) s Fj/\(∀ b i,X' b i+Fj b i<=X b i)/\PF P E ops A a w D X'
theorem PF.nK {ops:Array Oper} {A':Cells} {a':Act} {w':World} (hA:∀ b i,A b i->A' b i) (hc:∀ b i,A b i->∀ u,ce w b i=some u->ce w' b i=some u) (hb:∀ b n,jj w b n->jj w' b n) :
  ∀ (D:List Nat) {X:FP},(∀ j ∈ D,∀ o d,ops[j]?=some o->o.dst=some d->tmp a' d=tmp a d)->(∀ b i,1<=X b i->(∀ u,ce w b i=some u->ce w' b i=some u)/\w'.frozen? ⟨b,i,none⟩=w.frozen? ⟨b,i,none⟩) ->
   PF P E ops A a w D X->PF P E ops A' a' w' D X
 | [],_,_,_,_=>trivial
 | j::D,X,ht,hF,h=>by
  obtain ⟨o,d,s,Fj,X',h1,h2,h3,h4,h5,h6⟩:=h
  exact ⟨o,d,s,Fj,X',h1,h2,h3,by
   rw[ht j (by simp) o d h1 h2]
   exact PS.nK hA hc hb (λb i hp=>hF b i (by have:=h5 b i;omega)) h4,h5,PF.nK hA hc hb D (λk hk=>ht k (by simp[hk])) (λb i hp=>hF b i (by have:=h5 b i;omega)) h6⟩
theorem PF.grow {ops:Array Oper}:∀ (D:List Nat) {X X1:FP},(∀ b i,X b i<=X1 b i)->PF P E ops A a w D X->PF P E ops A a w D X1
 | [],_,_,_,_=>trivial
 | j::D,X,X1,hx,h=>by
  obtain ⟨o,d,s,Fj,X',h1,h2,h3,h4,h5,h6⟩:=h;exact ⟨o,d,s,Fj,X',h1,h2,h3,h4,λb i=>bI (h5 b i) (hx b i),h6⟩
theorem PF.take {ops:Array Oper} {j:Nat}:∀ (D:List Nat) {X:FP},j ∈ D->PF P E ops A a w D X ->
  ∃ (o:Oper) (d:Nat) (s:Slot) (Fj X':FP),ops[j]?=some o/\o.dst=some d/\As E o.op=some s/\PS P A w (tmp a d) s Fj/\(∀ b i,X' b i+Fj b i<=X b i)/\PF P E ops A a w (D.erase j) X'
 | [],_,hj,_=>by cases hj
 | k::D,X,hj,h=>by
  by_cases Dd:k=j
  ·subst Dd;rw[List.erase_cons_head];exact h
  ·have Ba:j ∈ D:=by
    rcases bB.1 hj with e | e
    ·exact absurd e.symm Dd
    ·exact e
   obtain ⟨o,d,s,Fk,X1,h1,h2,h3,h4,h5,h6⟩:=h;obtain ⟨o',d',s',Fj,X2,g1,g2,g3,g4,g5,g6⟩:=PF.take D Ba h6;rw[List.erase_cons_tail (by simpa using Dd)];exact ⟨o',d',s',Fj,λb i=>X2 b i+Fk b i,g1,g2,g3,g4,λb i=>by have:=g5 b i;have:=h5 b i;show X2 b i+Fk b i+Fj b i<=X b i;omega,o,d,s,Fk,X2,h1,h2,h3,h4,λb i=>aH _,g6⟩
theorem Zm (h:Rel P C A X σ a w F) (lY:∀ i T,E.TI i=some T->bj P T (.inl i)=true) {s:Slot} (hs:As E o.op=some s) {d:Nat} (hp:Mf σ d=true) :
  ∃ (v:Value) (w':World) (Fj:FP),(execOp a.eval o).run P w=.ok (.value v) w'/\Ext w w' (λ_ _=>0)/\Rel P C A (λb i=>X b i+Fj b i) σ (a.put (some d) v) w' F/\PS P A w' v s Fj:=by
 unfold As at hs;split at hs
 ·rename_i t ho;split at hs
  ·rename_i T hT;split at hs
   ·rename_i IN;injection hs with hs;subst hs;have jx:=lY _ _ hT;obtain ⟨L,hL⟩:=wv T IN;obtain ⟨z,GP,Gc⟩:=AW (P:=P) (w:=w) jx hL;obtain ⟨r1,r2,r3⟩:=C7 (P:=P) (w:=w) (A:=A) T hL jx;have hc:z.cells=L.toArray:=by grind
    have h1:=h.alloc L.toArray t (0,0);have jI:=C9 w L.toArray t (0,0) false (.inr (aH _));have Nk:L.length=T.sz:=an.length T r1;simp only[iE,Nk] at jI h1;have xv:=an.alloc h r1 (λb i hp=>by simp at hp) (qi w (.cells L.toArray t));refine ⟨.pointer (some ⟨w.heap.size,0,none⟩),w.alloc (.cells L.toArray t),dt w.heap.size 0 T.sz,?_,qi w _,h1.tmp hp _,w.heap.size,L,(λ_ _=>0),rfl,Nk,C_ w L.toArray t (0,0) (λj u hu=>by simpa using hu) (an.one _ r1),λj hj=>jI.frozen hj,λ_ _=>aH _,xv,jI⟩
    simp_all [execOp,Instr.alloc,newVar,newRow]
   ·cases hs
  ·cases hs
 ·rename_i t n ps ho;split at hs
  ·rename_i e hT;split at hs
   ·rename_i hc;injection hs with hs;subst hs;simp only[aD,eU] at hc;obtain ⟨⟨h1,h2⟩,hz⟩:=hc;subst h1;have yJ:ps=#[]:=gI h2;subst yJ;have hl:=lY _ _ hT;simp only[bj,aD] at hl;have h2:=hl.2;split at h2
    ·rename_i el hu;simp only[aD,dR] at h2;obtain ⟨ot,sW⟩:=h2;obtain ⟨inf,i1,i2,i3,i4⟩:=lG (mJ sW)
     have lm:(execOp a.eval o).run P w=.ok (.value (.slice (some ⟨w.heap.size,0,none⟩) 0 0)) (w.alloc (.cells #[] el)):=by
      simp[execOp,ho,Instr.buildSlice,run_underlying hu,Go.sizeOf,typeInfo,i1,Instr.fill,newRow,show Array.range 0=#[] from rfl]
     have IL:=h.alloc #[] el (0,0);have jI:=C9 w #[] el (0,0) (Jr e) (.inr (aH _));refine ⟨_,_,λb i=>dt w.heap.size 0 0 b i+bf 0 (λ_ _ _=>0) b i,lm,qi w _,?_,?_⟩
     ·refine (IL.less (λb i=>?_)).tmp hp _;simp[dt,bf]
     ·refine ⟨_,(ef (.aa e) _ rfl).symm,?_⟩
      simp only[an,hole,bX,aE,aR,Md.own,aK,Md.e];refine ⟨_,0,rfl,aH _,aW _,(λe=>by cases e),λad lP=>?_⟩
      injection lP with lP;subst lP;refine ⟨rfl,rfl,by simpa using jI,λ_ _ _=>0,λb i=>by simp,λi y hy=>by cases hy⟩
    ·cases h2
   ·cases hs
  ·cases hs
 ·cases hs
theorem Rel.abp (h:Rel P C A X σ a w F):∃ C':Ctx,C'.w0=w/\C'.A0=A/\(∀ b i,A b i->C'.F0 b i=0)/\Rel P C' A X σ a w F/\(∀ {A2:Cells} {X2:FP} {mX:St} {a2:Act} {w2:World} {F2:Nat->FP},Rel P C' A2 X2 mX a2 w2 F2->Rel P C A2 X2 mX a2 w2 F2):=by
 refine ⟨⟨w,A,λb i=>X b i+bf σ.n F b i,C.args⟩,rfl,rfl,λb i ha=>?_,?_,λ{A2 X2 mX a2 w2 F2} h2=>?_⟩
 ·show X b i+bf σ.n F b i=0;rcases bM (X b i+bf σ.n F b i) with h0 | h0
  ·exact h0
  ·exact absurd ha (h.rf b i h0)
 ·exact { h with ext:=Ext.refl _ _,own:=λb i hp=>.inl hp,a0:=λ_ _ h=>h,a1:=λ_ _ h=>.inl h,pv:=h.pv,ou:=h.ou,yz:=h.EJ λb i hp=>hp }
 ·have ot:C.w0.heap.size<=w.heap.size:=h.ext.size;refine { h2 with ext:=h.ext.trans h2.ext (λb i hb hz=>?_),own:=λb i hp=>?_,a0:=λb i ha=>h2.a0 b i (h.a0 b i ha),a1:=λb i ha=>?_,pv:=h2.pv,ou:=h2.ou,yz:=h.yz }
  ·show X b i+bf σ.n F b i=0;rcases bM (X b i+bf σ.n F b i) with h0 | h0
   ·exact h0
   ·rcases h.own b i h0 with h1 | h1 <;> omega
  ·rcases h2.own b i hp with h1 | h1
   ·exact h.own b i h1
   grind
  ·rcases h2.a1 b i ha with h1 | h1 | h1
   ·exact h.a1 b i h1
   ·exact .inr (h.own b i h1)
   grind
theorem Rel.frame (h:Rel P C A X σ a w F):∃ C1:Ctx,ee P C1 A σ a w F/\∀ {A2:Cells} {mX:St} {a2:Act} {w2:World} {F2:Nat->FP},ee P C1 A2 mX a2 w2 F2->Rel P C A2 X mX a2 w2 F2 /\
  (∀ b i,A b i->A2 b i)/\(∀ b i,A b i->∀ u,ce w b i=some u->ce w2 b i=some u)/\(∀ b n,jj w b n->jj w2 b n)/\(∀ b i,1<=X b i->(∀ u,ce w b i=some u->ce w2 b i=some u)/\w2.frozen? ⟨b,i,none⟩=w.frozen? ⟨b,i,none⟩):=by
 have hX0:∀ b i,1<=X b i->bf σ.n F b i=0:=λb i hp=>by have:=h.qg b i;omega
 have hXb:∀ b i,1<=X b i->b < w.heap.size:=λb i hp=>h.ll b i (.inl Bys);refine ⟨⟨w,A,bf σ.n F,C.args⟩,?_,λ{A2 mX a2 w2 F2} h2=>⟨?_,h2.a0,λb i ha u hu=>?_,h2.ext.x_,λb i hp=>⟨λu hu=>h2.ext.cell b i (hXb b i hp) (hX0 b i hp) u hu,h2.ext.AU b i (hXb b i hp)⟩⟩⟩
 ·exact { h with
   qg:=λb i=>by have:=h.qg b i;grind
   rf:=λb i hp=>h.rf b i (by grind)
   ll:=λb i hp=>h.ll b i (hp.imp (λhp=>by grind) id)
   ext:=Ext.refl _ _
   own:=λb i hp=>.inl (by grind)
   a0:=λ_ _ h=>h,a1:=λ_ _ h=>.inl h,pv:=h.pv,ou:=h.ou,yz:=h.EJ λb i hp=>by grind }
 ·have ot:C.w0.heap.size<=w.heap.size:=h.ext.size
  have xA:∀ b i,1<=X b i->bf mX.n F2 b i=0:=λb i hp=>by
   rcases bM (bf mX.n F2 b i) with h0 | h0
   ·exact h0
   ·rcases h2.own b i (by grind) with h1 | h1
    all_goals grind
  have jI:∀ b i,1<=bf σ.n F b i->1<=C.F0 b i\/C.w0.heap.size<=b:=λb i hp=>h.own b i Bys;refine { h2 with qg:=λb i=>?_,rf:=λb i hp=>?_,ll:=λb i hp=>?_,ext:=h.ext.trans h2.ext (λb i hb hz=>?_),own:=λb i hp=>?_,a0:=λb i ha=>h2.a0 b i (h.a0 b i ha),a1:=λb i ha=>?_,pv:=h2.pv,ou:=h2.ou,yz:=h.yz }
  ·have h1:0+bf mX.n F2 b i<=1:=h2.qg b i;have:=xA b i;have:=h.qg b i;omega
  ·by_cases hx:1<=X b i
   ·intro ha;rcases h2.a1 b i ha with h1 | h1 | h1
    ·exact h.rf b i Bys h1
    all_goals grind
   ·exact h2.rf b i (by grind)
  ·by_cases hx:1<=X b i
   ·exact cW (hXb b i hx) h2.ext.size
   ·exact h2.ll b i (hp.imp (λhp=>by grind) id)
  ·grind
  ·by_cases hx:1<=X b i
   ·exact h.own b i Bys
   ·rcases h2.own b i (by grind) with h1 | h1
    all_goals grind
  ·rcases h2.a1 b i ha with h1 | h1 | h1
   ·exact h.a1 b i h1
   all_goals grind
 ·refine h2.ext.cell b i (yH hu) ?_ u hu;show bf σ.n F b i=0;rcases bM (bf σ.n F b i) with h0 | h0
  ·exact h0
  ·exact absurd ha (h.rf b i Bys)
end
end OT
namespace OT
open Go
section
variable {P:Program} {C:Ctx} {A:Cells} {X:FP} {σ:St} {a:Act} {w:World} {F:Nat->FP} {R:Type} {x:R} {Q:Exit->Act->World->Prop} {o:Oper} {E:Env}
theorem Rel.congr (h:Rel P C A X σ a w F) {σ':St} (hn:σ'.n=σ.n) (hg:∀ i,σ'.get i=σ.get i) (hv:∀ i,σ'.lC i=σ.lC i) (hl:∀ e,e ∈ σ'.ay↔e ∈ σ.ay) (hgh:∀ e,e ∈ σ'.gh->e ∈ σ.gh):Rel P C A X σ' a w F:=by
 have oH:zx σ a w σ' a w:=λr p snap hb=>⟨by rw[hv];exact hb,λbd=>by
  unfold St.ok at bd ⊢;rw[hv] at bd
  exact ⟨bd,λ_ pl gy=>⟨pl.H,pl.cs,by unfold place at gy ⊢;rw[hg];exact gy,λ_=>rfl⟩⟩⟩
 refine ⟨by rw[hn];exact h.size,h.defers,λi hi=>?_,λd r p snap hm=>sw.nK oH (h.gh d r p snap (hgh _ hm)),λb i=>by rw[hn];exact h.qg b i,λb i hp=>by rw[hn] at hp;exact h.rf b i hp,λb i hp=>by rw[hn] at hp;exact h.ll b i hp,
  λi=>by rw[hv];exact h.mH i,h.ext,λb i hp=>by rw[hn] at hp;exact h.own b i hp,h.a0,h.a1,λj k hm=>h.pv j k ((hl _).1 hm),λr t m H v hr hk=>?_,λj k hm R hR=>?_,h.yz⟩
 ·rw[hg];exact db.nK oH (λ_ _ h=>h) (λ_ _ _ _ h=>h) (λ_ _ h=>h) (λ_ _ _=>⟨λ_ h=>h,rfl⟩) (h.i9 i (by rw[<-hn];exact hi))
 ·rw[hg] at hr;exact h.whole r t m H v hr λk hm=>hk k ((hl _).2 hm)
 ·rw[hg] at hR;exact h.ou j k ((hl _).1 hm) R hR
theorem Rel.same (h:Rel P C A X σ a w F) {t:Nat} {s:Slot} (hs:σ.get t=s):Rel P C A X (σ.my t s) a w F:=
 h.congr rfl (λi=>by
  rw[Ii];split
  ·rename_i hc;rw[<-hs,hc.1]
  ·rfl) (λi=>rfl) (λe=>iG) (λe he=>he)
theorem PK (h:Rel P C A X σ a w F) {ops:Array Oper} {o:Oper} {K:Bool->St->Option R} (hk:Gw ops.toList σ o.guard K=some x):∃ (b:Bool) (σ':St),K b σ'=some x/\Rel P C A X σ' a w F/\Region.wanted o (yielded ops a.tmps)=b:=by
 unfold Gw at hk;split at hk
 ·rename_i hg;exact ⟨true,σ,hk,h,by simp[Region.wanted,hg]⟩
 ·rename_i j want hg;split at hk
  ·cases hk
  ·rename_i t ht;rw[dV] at ht
   have hy:∀ v,tmp a t=v->t < σ.n->yielded ops a.tmps j=match v with | .bool b=>some b | _=>none:=λv hv B_=>by
    have a7:t < a.tmps.size:=by rw[h.size];exact B_
    unfold yielded;rw[ht];have:a.tmps[t]?=some v:=by rw[iC a7,<- hv];simp[tmp,a7]
    simp only[aA,this];cases v <;> rfl
   have a7:∀ s,σ.get t=s->s≠.dead->t < σ.n:=λs hs je=>by
    rcases cR t σ.n with hi | hi
    ·exact hi
    ·rw[mQ (fU.2 hi)] at hs;exact absurd hs.symm je
   split at hk
   ·rename_i b PL;have B_:=a7 _ PL (by intro e;cases e);have hs:=h.i9 t B_;rw[PL] at hs;have hv:=Pp hs;have Ts:=hy _ hv B_;simp only at Ts
    cases b with
    | true=>exact ⟨_,_,hk,Rel.same h PL,by simp only[Region.wanted,hg,Ts];cases want <;> rfl⟩
    | false=>exact ⟨_,_,hk,Rel.same h PL,by simp only[Region.wanted,hg,Ts];cases want <;> rfl⟩
   ·rename_i PL;have B_:=a7 _ PL (by intro e;cases e);have hs:=h.i9 t B_;rw[PL] at hs;obtain ⟨vs,Fi,h1,_⟩:=hs;have Ts:=hy _ h1 B_;simp only at Ts;exact ⟨false,σ,hk,h,by simp only[Region.wanted,hg,Ts];cases want <;> rfl⟩
   ·cases hk
theorem Mu (h:Rel P C A X σ a w F) (o:Oper):∃ F',Rel P C A X (σ.cb o.dst (.sR [])) (a.put o.dst undef) w F':=
 h.cb o.dst (s:=.sR []) (v:=undef) (Fd:=λ_ _=>0) (X':=X) ⟨#[],λ_ _ _=>0,rfl,λb i=>by simp[bf],λj y hy=>by cases hy⟩ (λb i=>aH _) (λ_ _ _ _ e=>by cases e)
theorem acy (hE:ub P E) {ip:Nat} {ops:Array Oper} (da:∀ o ∈ ops.toList,sA P o.op=true) {K:St->Option R} (hQ:∀ a w,Nx P C K x a w->Q .normal a w) :
  ∀ (rest:List Oper) (i:Nat) {σ:St} {A:Cells} {a:Act} {w:World} {F:Nat->FP},ops.toList.drop i=rest->ee P C A σ a w F->Me E ip ops.toList rest i σ K=some x->wpOps P ops Q (List.range' i rest.length) a w:=by
 intro rest
 induction rest with
 | nil=>intro i σ A a w F hd h hk;exact hQ a w ⟨σ,hk,A,F,h⟩
 | cons o rest ih=>
  intro i σ A a w F hd h hk
  have hi:ops[i]?=some o:=by
   have:(ops.toList.drop i)[0]?=some o:=by rw[hd];rfl
   rw[bP] at this
   simpa using this
  have un:ops.toList.drop (i+1)=rest:=by rw[<-dD,hd];rfl
  have AY:o ∈ ops.toList:=bW (i:=i) (by simpa using hi);simp only[Me] at hk;obtain ⟨b,qC,hk,h1,hw⟩:=PK h hk;show wpOps P ops Q (i::List.range' (i+1) rest.length) a w;simp only[wpOps,hi,hw]
  cases b with
  | true=>
   simp only[aK];refine .inl (Oper.wp_mono (λa' w' hn=>?_) (abo hE h1 (da o AY) hk));obtain ⟨mX,mY,A2,F2,h2⟩:=hn;exact ih (i+1) un h2 mY
  | false=>
   simp only[aE,aR];obtain ⟨F2,h2⟩:=Mu h1 o;exact ih (i+1) un h2 hk
theorem Xr (hE:ub P E) {ip id:Nat} {ops:Array Oper} (da:∀ o ∈ ops.toList,sA P o.op=true) (h:ee P C A σ a w F) {K:St->Option R} (hk:Me E ip ops.toList ops.toList 0 σ K=some x) (hQ:∀ a w,Nx P C K x a w->Q .normal a w) :
  (Code.region id ops false).wp P Q a w:=by
 refine wp_region ?_;have:=acy hE da hQ ops.toList 0 (by simp) h hk
 simpa [fP] using this
def wy (P:Program) (md:Region.Mode) (ops:Array Oper) (Q:Exit->Act->World->Prop) (S:Array Bool->World->Prop):Nat->Array Bool->Act->World->Prop
 | 0,lQ,a,w=>Region.ready md ops lQ=[]/\Q .normal a w
 | fuel+1,lQ,a,w=>
  (Region.ready md ops lQ=[]->Q .normal a w) /\
  ∀ i ∈ Region.ready md ops lQ,wpOp P ops Q i (λa' w'=>S (lQ.setIfInBounds i true) w'/\wy P md ops Q S fuel (lQ.setIfInBounds i true) a' w') a w
theorem KX {md:Region.Mode} {ops:Array Oper} {S:Array Bool->World->Prop}:∀ (fuel:Nat) (lQ:Array Bool) (a:Act) (w:World),wy P md ops Q S fuel lQ a w->wpAny P md ops Q fuel lQ a w
 | 0,_,_,_,h=>h
 | fuel+1,_,_,_,h=>⟨h.1,λi hi=>wpOp_mono (λa' w' h'=>KX fuel _ a' w' h'.2) (h.2 i hi)⟩
def Ed (md:Region.Mode) (ops:Array Oper) (l:Array Bool):Prop:=∀ j o,ops[j]?=some o->l.getD j false=true->∀ e ∈ o.after,Region.binds md e=true->l.getD e.on false=true
theorem ET {md:Region.Mode} {ops:Array Oper} {l:Array Bool} (h:Ed md ops l) {j:Nat} (hj:j ∈ Region.ready md ops l):Ed md ops (l.setIfInBounds j true):=by
 obtain ⟨_,oj,KY,sy⟩:=mem_ready.1 hj;intro k o hk hl e he hb;by_cases Dd:j=k
 ·subst Dd;rw[KY] at hk;injection hk with hk;subst hk;exact getD_set_true (sy e he hb)
 ·rw[getD_set_ne false Dd] at hl;exact getD_set_true (h k o hk hl e he hb)
def SU (md:Region.Mode) (ops:Array Oper) (S:Array Bool->World->Prop) (i:Nat):World->Prop:=λw'=>∃ l,Ed md ops l/\l.getD i true=false/\S l w'
theorem yN {md:Region.Mode} {ops:Array Oper} {S:Array Bool->World->Prop} {i:Nat} {oi:Oper} {v:Value} (hi:ops[i]?=some oi) (EU:∀ (j:Nat) (o:Oper) cs b,ops[j]?=some o->o.op≠.select cs b)
  (hQ:∀ c a w,Q (.panic c) (a.put oi.dst v) w->Q (.panic c) a w) (hS:∀ l w,S (l.setIfInBounds i true) w↔S l w) :
  ∀ (fuel:Nat) (lQ:Array Bool) (a:Act) (w:World),
   (∀ j oj,ops[j]?=some oj->j≠i->lQ.getD j true=false->(∀ e ∈ oj.after,Region.binds md e=true->e.on≠i)->oi.apart ops oj=true) ->
   i ∈ Region.ready md ops lQ->Ed md ops lQ->YieldsIf P ops (SU md ops S i) oi v a->S lQ w ->
   wy P md ops Q S fuel (lQ.setIfInBounds i true) (a.put oi.dst v) w->wy P md ops Q S (fuel+1) lQ a w:=by
 intro fuel
 induction fuel with
 | zero=>
  intro lQ a w _ hr hc hy hs H;have ur:lQ.getD i true=false:=(mem_ready.1 hr).1;refine ⟨λh=>(by rw[h] at hr;cases hr),λj hj=>?_⟩
  by_cases pc:j=i
  ·subst pc;exact hy.wpOp hi ⟨lQ,hc,ur,hs⟩ ⟨(hS _ _).2 hs,H⟩
  ·have:=ready_mono hj pc;rw[H.1] at this;cases this
 | succ fuel ih=>
  intro lQ a w OB hr hc hy hs H;have ur:lQ.getD i true=false:=(mem_ready.1 hr).1;refine ⟨λh=>(by rw[h] at hr;cases hr),λj hj=>?_⟩
  by_cases pc:j=i
  ·subst pc;exact hy.wpOp hi ⟨lQ,hc,ur,hs⟩ ⟨(hS _ _).2 hs,H⟩
  ·have h1:=H.2 j (ready_mono hj pc);obtain ⟨acz,oj,KY,sy⟩:=mem_ready.1 hj
   have acA:∀ e ∈ oj.after,Region.binds md e=true->e.on≠i:=λe he hb heq=>by
    have h1:=sy e he hb;have h0:=(mem_ready.1 hr).1;rw[heq] at h1;rcases cR i lQ.size with h' | h'
    ·simp[h'] at h0 h1;rw[h0] at h1;cases h1
    ·simp[dZ h'] at h1
   have h2:=wpOp_putIf KY (OB j oj KY pc acz acA) (λcs b=>EU i oi cs b hi) (λcs b=>EU j oj cs b KY) hQ hy h1
   have acB:∀ k ok,ops[k]?=some ok->k≠i->(lQ.setIfInBounds j true).getD k true=false ->
     (∀ e ∈ ok.after,Region.binds md e=true->e.on≠i)->oi.apart ops ok=true:=λk ok hk hki ur rQ=>by
    refine OB k ok hk hki ?_ rQ;by_cases hjk:j=k
    ·subst hjk;exact acz
    ·rw[getD_set_ne true hjk] at ur;exact ur
   refine wpOp_mono (λa' w' h3=>?_) h2;have h4:=h3.2.1;have h5:=h3.2.2;rw[Array.setIfInBounds_comm _ _ (Ne.symm pc)] at h4 h5;have h6:=(hS _ _).1 h4;exact ⟨h6,ih (lQ.setIfInBounds j true) a' w' acB (ready_mono hr (Ne.symm pc)) (ET hc hj) h3.1 h6 h5⟩
def Nl (ops:Array Oper):Nat->Nat->Nat->Bool
 | 0,_,_=>false
 | n+1,d,i=>match ops[d]? with
  | some o=>o.after.toList.any λe=>Region.binds .any e&&(Nat.beq e.on i||Nl ops n e.on i)
  | none=>false
theorem wV {ops:Array Oper} {l:Array Bool} (h:Ed .any ops l):∀ (n d i:Nat),Nl ops n d i=true->l.getD d false=true->l.getD i false=true
 | 0,_,_,ha,_=>by cases ha
 | n+1,d,i,ha,hd=>by
  simp only[Nl] at ha;split at ha
  ·rename_i o ho;obtain ⟨e,he,hb⟩:=eG.1 ha;simp only[aD,dB,eU] at hb;have hl:=h d o ho hd e (by simpa using he) hb.1;rcases hb.2 with hb | hb
   ·rw[<-hb];exact hl
   ·exact wV h n e.on i hb hl
  ·cases ha
def rz (E:Env) (ops:Array Oper) (d:Nat):Bool:=match ops[d]? with
 | some o=>!xo E o.op&&!quiet E o.op
 | none=>false
def De (l:Array Bool):List Nat->Array Bool
 | []=>l
 | j::js=>De (l.setIfInBounds j true) js
def Cj (E:Env) (ip:Nat) (ops:Array Oper) (pd:List Nat):List Nat->Array Bool->Bool->Bool
 | [],l,_=>(Region.ready .any ops l).isEmpty
 | i::is,l,f=>match ops[i]? with
  | none=>false
  | some o=>
   match pd.any (Nat.beq i) with
   | true=>!is.any (Nat.beq i)&&(Region.ready .any ops l).contains i&&(Region.ready .any ops (De l (pd.filter λj=>!Nat.beq i j))).all (λj=>pd.any (Nat.beq j))&&Cj E ip ops pd is (l.setIfInBounds i true) f
   | false=>
   match xo E o.op&&(Region.free .any ops l i&&(Region.ready .any ops l).contains i&&(!reads o.op||O7 E ip i||Uw E ip i||(f&&(List.range ops.size).all λd=>!rz E ops d||Nl ops ops.size d i))) with
   | true=>Cj E ip ops pd is (l.setIfInBounds i true) f
   | false=>(Region.ready .any ops l).contains i&&(Region.ready .any ops (De l pd)).all (Nat.beq i)&&Cj E ip ops pd is (l.setIfInBounds i true) false
noncomputable def GX (E:Env) (ops:Array Oper) (pd:List Nat):Bool:=pd.all λj=>match ops[j]? with
 | some o=>(match o.guard with
  | none=>true
  | some _=>false)&&(As E o.op).isSome&&(match o.dst with
   | some d=>(List.range ops.size).all λk=>Nat.beq k j||(match ops[k]? with
    | some o'=>(match o'.dst with
     | some d'=>!Nat.beq d' d
     | none=>true)
    | none=>true)
   | none=>false)
 | none=>false
def KZ:List Nat->Bool
 | []=>true
 | i::is=>!is.any (Nat.beq i)&&KZ is
noncomputable def Cl (E:Env) (ops:Array Oper) (pd:List Nat) (er:List (Nat×Nat)):Bool:=er.all λe=>!pd.any (Nat.beq e.1)&&(Nat.ble ops.size e.2||(rz E ops e.2&&!pd.any (Nat.beq e.2)&&Nl ops ops.size e.2 e.1))&&(match ops[e.1]? with
 | some o=>(match o.guard with
  | none=>true
  | some _=>false)&&(match o.op,o.dst with
   | .load _ (.tmp x),some d=>!Nat.beq x d&&(List.range ops.size).all λk=>Nat.beq k e.1||(match ops[k]? with
    | some o'=>(match o'.dst with
     | some d'=>!Nat.beq d' d&&(!Nat.beq d' x||Nl ops ops.size e.1 k)
     | none=>true)
    | none=>true)
   | _,_=>false)
 | none=>false)
noncomputable def PN (E:Env) (ip:Nat) (ops:Array Oper) (is:List Nat):Bool:=
 Region.noSelect ops&&Nat.ble is.length ops.size&&(GX E ops (pa E.pd ip)&&(pa E.pd ip).all λj=>is.any (Nat.beq j))&&(KZ is&&(List.range ops.size).all (λk=>is.any (Nat.beq k))&&Cl E ops (pa E.pd ip) (Ks E.er ip))&&Cj E ip ops (pa E.pd ip) is (Array.replicate ops.size false) (match pa E.pd ip with
  | []=>true
  | _::_=>false)
theorem aaO {K:St->Option R}:∀ (is:List Nat) {σ:St} {A:Cells} {F:Nat->FP},ee P C A σ a w F->S4 σ is K=some x->∃ (A':Cells) (σ':St) (F':Nat->FP),K σ'=some x/\ee P C A' σ' a w F':=by
 intro is
 induction is with
 | nil=>intro σ A F h hk;exact ⟨A,σ,F,hk,h⟩
 | cons i is ih=>
  intro σ A F h hk;simp only[S4] at hk;split at hk
  ·rename_i t m H v hg;split at hk
   ·rename_i hc;simp only[aD,bH] at hc;obtain ⟨hH,Ce⟩:=hc;subst hH;obtain ⟨A1,F1,_,h1,_,_⟩:=Xf h hg;exact ih h1 hk
   ·cases hk
  ·cases hk
theorem Rel.acC (h:ee P C A σ a w F):∃ C':Ctx,C'.w0=w/\C'.A0=A/\(∀ b i,A b i->C'.F0 b i=0)/\ee P C' A σ a w F/\(∀ {A2:Cells} {mX:St} {a2:Act} {w2:World} {F2:Nat->FP},ee P C' A2 mX a2 w2 F2->ee P C A2 mX a2 w2 F2):=by
 have jI:∀ b i,1<=bf σ.n F b i->1<=C.F0 b i\/C.w0.heap.size<=b:=λb i hp=>h.own b i (by show 1<=0+_;omega);refine ⟨⟨w,A,bf σ.n F,C.args⟩,rfl,rfl,λb i ha=>?_,?_,λ{A2 mX a2 w2 F2} h2=>?_⟩
 ·rcases bM (bf σ.n F b i) with h0 | h0
  ·exact h0
  ·exact absurd ha (h.rf b i (by show 1<=0+_;omega))
 ·exact { h with ext:=Ext.refl _ _,own:=λb i hp=>.inl (by have hp:1<=0+bf σ.n F b i:=hp;show 1<=bf σ.n F b i;omega),a0:=λ_ _ h=>h,a1:=λ_ _ h=>.inl h,pv:=h.pv,ou:=h.ou,yz:=h.EJ λb i hp=>by have hp:1<=bf σ.n F b i:=hp;show 1<=0+_;omega }
 ·have ot:C.w0.heap.size<=w.heap.size:=h.ext.size;refine { h2 with ext:=h.ext.trans h2.ext (λb i hb hz=>?_),own:=λb i hp=>?_,a0:=λb i ha=>h2.a0 b i (h.a0 b i ha),a1:=λb i ha=>?_,pv:=h2.pv,ou:=h2.ou,yz:=h.yz }
  ·show bf σ.n F b i=0;rcases bM (bf σ.n F b i) with h0 | h0
   ·exact h0
   ·rcases jI b i h0 with h1 | h1 <;> omega
  ·rcases h2.own b i hp with h1 | h1
   ·exact jI b i h1
   ·exact .inr (bI ot h1)
  ·rcases h2.a1 b i ha with h1 | h1 | h1
   ·exact h.a1 b i h1
   ·exact .inr (jI b i h1)
   ·exact .inr (.inr (bI ot h1))
theorem abq (h:ee P C A σ a w F) (hE:ub P E) {ip i:Nat} (da:sA P o.op=true) (rt:xo E o.op=true) (KL:O6 σ o=true) {K:St->Option R} (hk:sL E ip i o σ K=some x) :
  ∃ v,(∀ w',(∀ b i,A b i->∀ u,ce w b i=some u->ce w' b i=some u)->(execOp a.eval o).run P w'=.ok (.value v) w')/\Nx P C K x (a.put o.dst v) w:=by
 unfold O6 at KL;split at KL
 ·rename_i t y ho;split at KL
  ·rename_i t' v hv;unfold sL at hk;simp only[ho,Kq] at hk
   cases hf:Y4 E.fz ip i 8 with
   | true=>rw[hf] at hk;simp only[hv] at hk;cases hk
   | false=>
   rw[hf] at hk;simp only[hv,Ey] at hk;obtain ⟨T,hT,hk⟩:=gr hk;have jx:=hE.ti _ _ hT;split at hk
   ·rename_i e;subst e;rw[ho] at da
    rcases f5 h da with hs | ⟨xs,e⟩
    rotate_left
    ·rw[e] at hv;cases hv
    rw[hv] at hs;obtain ⟨⟨b,off,sp⟩,h1,h2,L,h3,h4,h5⟩:=hs;simp only[dN,eP] at h1;simp only at h2;subst h2;refine ⟨c_ t' L,λw' t6=>?_,cm h hk ⟨L,rfl,h5⟩ (λ_ _ _ _ e=>by cases e)⟩
    simp[execOp,ho,h1,Instr.loadAt,Instr.sureAddr,zW jx (λj u hu=>t6 _ _ (h4 j u hu).2 u (h4 j u hu).1) h3 (Ro.one _ h5)]
   ·cases hk
  ·cases KL
 ·rename_i s t y ho;unfold sL at hk;simp only[ho] at hk;rw[ho] at da;refine KK h hE.ti ho da (λT hT=>?_) KL hk;rw[ho] at rt;simp only[xo,hT] at rt;exact rt
 ·cases KL
def DJ (ops:Array Oper) (l:Array Bool) (u:Nat):Prop:=ops.size<=u\/l.getD u false=false
def SD (E:Env) (ops:Array Oper) (w0:World) (C:Ctx) (RC:List (Nat×Nat×Nat×Nat×List Value)):Array Bool->World->Prop:=λl w'=>((∀ d,rz E ops d=true->l.getD d false=false)->Ext w0 w' (λ_ _=>0))/\(∀ b i,C.A0 b i->∀ u,ce C.w0 b i=some u->ce w' b i=some u)/\∀ e ∈ RC,DJ ops l e.2.1->Has w' e.2.2.1 e.2.2.2.1 e.2.2.2.2
theorem abr {next:Act->World->Prop} (h:Tk P o a w next):o.wp P a w (λa' w'=>w=w'/\next a' w') Q:=by
 obtain ⟨v,h1,h2⟩:=h;exact pg (h1 w λ_=>Ext.refl _ _) ⟨rfl,h2⟩
theorem DK {md:Region.Mode} {ops:Array Oper} {S S':Array Bool->World->Prop} (hS:∀ l w,S l w->S' l w):∀ (fuel:Nat) (lQ:Array Bool) (a:Act) (w:World),wy P md ops Q S fuel lQ a w->wy P md ops Q S' fuel lQ a w
 | 0,_,_,_,h=>h
 | fuel+1,_,_,_,h=>⟨h.1,λi hi=>wpOp_mono (λa' w' h'=>⟨hS _ _ h'.1,DK hS fuel _ a' w' h'.2⟩) (h.2 i hi)⟩
theorem PO (a:Act) (d:Nat):a.put (some d) (tmp a d)=a:=by
 have:a.tmps.setIfInBounds d (tmp a d)=a.tmps:=by
  unfold tmp;apply Array.ext
  ·simp
  ·intro i h1 h2;rw[gX];split
   ·rename_i e;subst e;simp[h2]
   ·rfl
 show { a with tmps:=a.tmps.setIfInBounds d (tmp a d) }=a;rw[this]
theorem ads {ops:Array Oper} {K:St->Option R}:∀ (js:List Nat) {σ:St} {F:Nat->FP},ee P C A σ a w F->WG ops.toList σ js K=some x->∃ (σ':St) (F':Nat->FP),K σ'=some x/\ee P C A σ' a w F':=by
 intro js
 induction js with
 | nil=>intro σ F h hk;exact ⟨σ,F,hk,h⟩
 | cons j js ih=>
  intro σ F h hk;simp only[WG] at hk;split at hk
  ·rename_i d hd;obtain ⟨F1,h1⟩:=h.cb (some d) (s:=.dead) (v:=tmp a d) (Fd:=λ_ _=>0) (X':=λ_ _=>0) trivial (λb i=>aH _) (λ_ _ _ _ e=>by cases e);rw[PO] at h1;exact ih h1 hk
  ·cases hk
theorem EV:∀ (js:List Nat) (l:Array Bool) (k:Nat) (b:Bool),(De l js).getD k b=if k ∈ js/\k < l.size then true else l.getD k b
 | [],l,k,b=>by simp[De]
 | j::js,l,k,b=>by
  rw[De,EV js];simp only[Array.size_setIfInBounds];by_cases h1:k ∈ js/\k < l.size
  ·rw[aG h1,aG ⟨by simp[h1.1],h1.2⟩]
  ·rw[aL h1];by_cases Dd:j=k
   ·subst Dd;by_cases a7:j < l.size
    ·rw[aG ⟨by simp,a7⟩];simp[a7]
    ·rw[aL (λh=>a7 h.2)];simp[a7]
   ·rw[getD_set_ne b Dd,aL];rintro ⟨h2,h3⟩;rcases bB.1 h2 with e | e
    ·exact Dd e.symm
    ·exact h1 ⟨e,h3⟩
theorem rA {l:List Nat} {i:Nat}:l.any (Nat.beq i)=true↔i ∈ l:=by
 rw[eG];constructor
 ·rintro ⟨y,h1,h2⟩;rw[cX h2];exact h1
 ·intro h;exact ⟨i,h,iM i⟩
theorem DL {ops:Array Oper} {pd:List Nat} (h:GX E ops pd=true) {j:Nat} (hj:j ∈ pd):∃ o d s,ops[j]?=some o/\o.guard=none/\o.dst=some d/\As E o.op=some s/\∀ k o',ops[k]?=some o'->k≠j->o'.dst≠some d:=by
 unfold GX at h;have h:=bJ.1 h j hj;split at h
 ·rename_i o ho;simp only[aD] at h;obtain ⟨⟨h1,h2⟩,h3⟩:=h;split at h3
  ·rename_i d hd;obtain ⟨s,hs⟩:=eH.1 h2;refine ⟨o,d,s,ho,?_,hd,hs,λk o' hk Dd e=>?_⟩
   ·split at h1
    ·assumption
    ·cases h1
   ·have:=bJ.1 h3 k (cC.2 (cH.1 hk).1);rw[hk] at this;simp only[e,dB] at this;rcases this with h4 | h4
    ·exact Dd (cX h4)
    ·simp at h4
  ·cases h3
 ·cases h
def RE (ops:Array Oper) (er:List (Nat×Nat)) (L:Array Bool) (a:Act) (w:World) (e:Nat×Nat×Nat×Nat×List Value):Prop:=(e.1,e.2.1) ∈ er/\L.getD e.1 false=true /\
 ∃ o t x d,ops[e.1]?=some o/\o.op=.load t (.tmp x)/\o.dst=some d/\tmp a x=.pointer (some ⟨e.2.2.1,e.2.2.2.1,none⟩)/\(tmp a d).cells.toList=e.2.2.2.2/\(DJ ops L e.2.1->Has w e.2.2.1 e.2.2.2.1 e.2.2.2.2)
theorem IU:∀ {is:List Nat},KZ is=true->is.Nodup
 | [],_=>fC
 | i::is,h=>by
  simp only[KZ,aD,cD] at h;refine cL.2 ⟨λhm=>?_,IU h.2⟩;have:=h.1;rw[rA.2 hm] at this;cases this
theorem xB {E:Env} {ops:Array Oper} {pd:List Nat} {er:List (Nat×Nat)} (h:Cl E ops pd er=true) {j u:Nat} (hj:(j,u) ∈ er):j ∉ pd/\(ops.size<=u\/(rz E ops u=true/\u ∉ pd/\Nl ops ops.size u j=true))/\∃ o t x d,ops[j]?=some o/\o.guard=none/\o.op=.load t (.tmp x)/\o.dst=some d/\x≠d /\
  ∀ k o',ops[k]?=some o'->k≠j->o'.dst≠some d/\(o'.dst=some x->Nl ops ops.size j k=true):=by
 unfold Cl at h;have h1:=bJ.1 h _ hj;simp only[aD,dB,cD,dR] at h1;obtain ⟨⟨h0,hu⟩,h1⟩:=h1;refine ⟨λhm=>?_,hu.imp id λq=>⟨q.1.1,λhm=>?_,q.2⟩,?_⟩
 ·rw[rA.2 hm] at h0;cases h0
 ·have q2:=q.1.2;rw[rA.2 hm] at q2;cases q2
 split at h1
 ·rename_i o ho;simp only[aD] at h1;obtain ⟨h2,h3⟩:=h1;split at h3
  ·rename_i t x d hop hd;simp only[aD,cD,bJ,cC] at h3;obtain ⟨h4,h5⟩:=h3;refine ⟨o,t,x,d,ho,?_,hop,hd,(λe=>by subst e;rw[iM] at h4;cases h4),λk o' hk Dd=>?_⟩
   ·cases hg:o.guard with
    | none=>rfl
    | some g=>rw[hg] at h2;cases h2
   ·have h6:=h5 k (cH.1 hk).1;rw[hk] at h6;simp only[dB] at h6;rcases h6 with h6 | h6
    ·exact absurd (cX h6) Dd
    ·cases un:o'.dst with
     | none=>exact ⟨(λe=>by cases e),λe=>by cases e⟩
     | some d'=>
      rw[un] at h6;simp only[aD,dB,cD] at h6;refine ⟨λe=>?_,λe=>?_⟩
      ·injection e with e;subst e;rw[iM] at h6;cases h6.1
      ·injection e with e;subst e;rcases h6.2 with h7 | h7
       ·rw[iM] at h7;cases h7
       ·exact h7
  ·cases h3
 ·cases h1
theorem zD:∀ {p q:Path},yr p q=true->p=q
 | [],[],_=>rfl
 | .fst::p,.fst::q,h=>by simp only[yr] at h;rw[zD h]
 | .snd::p,.snd::q,h=>by simp only[yr] at h;rw[zD h]
 | .idx i::p,.idx j::q,h=>by simp only[yr,aD] at h;rw[cX h.1,zD h.2]
 | .rP i::p,.rP j::q,h=>by simp only[yr,aD] at h;rw[cX h.1,zD h.2]
theorem Xs (h:Rel P C A X σ a w F) {o:Oper} (bd:Y8 σ o=true) {t x d:Nat} (ho:o.op=.load t (.tmp x)) (hd:o.dst=some d) {b off:Nat} (hx:tmp a x=.pointer (some ⟨b,off,none⟩)):Has w b off (tmp a d).cells.toList/\d < a.tmps.size:=by
 unfold Y8 at bd;rw[ho,hd] at bd;simp only at bd
 have lt:∀ {i:Nat},σ.get i≠.dead->i < σ.n:=λ{i} hi=>by
  rcases cR i σ.n with h1 | h1
  ·exact h1
  ·exact absurd (mQ (fU.2 h1)) hi
 split at bd
 ·rename_i r p s Tt;split at bd
  ·rename_i r' p' s' Df;simp only[aD] at bd;obtain ⟨⟨h1,h2,h3⟩,h4⟩:=bd;have e1:=cX h1;have e2:=zD h4;subst e1;subst e2;have Au:=h.i9 x (lt (by rw[Tt];intro e;cases e));rw[Tt] at Au;obtain ⟨pl,b',o',g1,g2,g3,_⟩:=Au.2 h2;rw[hx] at g3;simp only[Value.pointer.injEq,aP,Addr.mk.injEq,eP] at g3;obtain ⟨rfl,rfl⟩:=g3;have Nm:=h.i9 d (lt (by rw[Df];intro e;cases e));rw[Df] at Nm;obtain ⟨M6,k1,k2,_⟩:=Nm.2 h3;rw[g1] at k1;injection k1 with k1;subst k1;have hr:=uP g1;have gy:=g1;unfold place at gy
   cases hR:d8 w (tmp a r) (σ.get r) with
   | none=>rw[hR] at gy;cases gy
   | some R=>
    rw[hR] at gy;simp only[aA] at gy;obtain ⟨m,v,F1,q1,_,q2,_⟩:=yA (h.i9 r hr) hR;obtain ⟨z1,m',v',F',z2⟩:=S7 p R.t q1 (λb o e=>(q2 b o e).1) gy;rw[k2,lX (an.length _ z2) (an.one _ z2)];exact ⟨z1 _ _ g2,by rw[h.size];exact lt (by rw[Df];intro e;cases e)⟩
  ·rename_i v Df;simp only[aD] at bd;obtain ⟨h2,hi⟩:=bd;unfold aaE at hi;split at hi;rotate_left
   ·cases hi
   rename_i bb ii;subst hi;have Au:=h.i9 x (lt (by rw[Tt];intro e;cases e));rw[Tt] at Au;obtain ⟨pl,b',o',g1,g2,g3,_⟩:=Au.2 h2;rw[hx] at g3;simp only[Value.pointer.injEq,aP,Addr.mk.injEq,eP] at g3;obtain ⟨rfl,rfl⟩:=g3;have Nm:=h.i9 d (lt (by rw[Df];intro e;cases e));rw[Df] at Nm;obtain ⟨du,k1,k2⟩:=Nm;obtain ⟨hr,t',m',H',v',ca,de,F',i1,i2,i3,i4,i5,i6⟩:=l6 h ii;rw[i3] at g1;injection g1 with g1;subst g1;simp only at g2;subst g2;obtain ⟨e,i1⟩:=c7 i1;subst e;simp only[aP,bA] at i1;have hh:Has w b off ca:=by first | exact (i6 b off rfl).1 | exact i6 b off rfl | exact (i5 b off rfl).1 | exact i5 b off rfl
   have c1:ca=[.int .i64 v]:=by
    have i4:_:=i4;simp only[an] at i4;rw[<-i1]
    first | exact i4.1 | exact i4 | exact i4.2 | simp_all
   have c2:du=[.int .i64 v]:=k2;rw[k1,c2,lX rfl (λu hu=>by rw[bE] at hu;subst hu;rfl)];rw[c1] at hh;exact ⟨hh,by rw[h.size];exact lt (by rw[Df];intro e;cases e)⟩
  ·cases bd
 ·rename_i tb mb Hb vb Tt;split at bd
  ·rename_i r' p' s' Df;simp only[aD] at bd;obtain ⟨⟨h1,h3⟩,h4⟩:=bd;have e1:=cX h1;have e2:=zD h4;subst e1;subst e2;have Nm:=h.i9 d (lt (by rw[Df];intro e;cases e));rw[Df] at Nm;obtain ⟨M6,k1,k2,_⟩:=Nm.2 h3;have hr:=uP k1;have gy:=k1;unfold place at gy
   cases hR:d8 w (tmp a x) (σ.get x) with
   | none=>rw[hR] at gy;cases gy
   | some R=>
    rw[hR] at gy;simp only[aA] at gy;obtain ⟨m,v,F1,q1,_,q2,_⟩:=yA (h.i9 x hr) hR;obtain ⟨z1,m',v',F',z2⟩:=S7 [] R.t q1 (λb o e=>(q2 b o e).1) gy;rw[k2,lX (an.length _ z2) (an.one _ z2)]
    have lP:M6.ad=some (b,off):=by
     rw[Tt,hx] at hR;simp only[d8,aP] at hR;subst hR;simp only[bv,aP] at gy;subst gy;rfl
    exact ⟨z1 _ _ lP,by rw[h.size];exact lt (by rw[Df];intro e;cases e)⟩
  ·cases bd
 ·cases bd
theorem quiet_of {ip i:Nat} {o:Oper} {K:St->Option R} (hk:sL E ip i o σ K=some x) (hm:Ie o.op=false) (ht:xo E o.op=false):quiet E o.op=true:=by
 unfold sL at hk;cases ho:o.op <;> rw[ho] at hk hm ht <;> first | rfl | (cases hm;done) | (cases ht;done) | (simp only[reduceCtorEq] at hk;done) | skip
theorem PP (h:ee P C A σ a w F) (hE:ub P E) {t x0:Nat} {mv:Bool} (da:sA P o.op=true) (ho:o.op=.load t (.tmp x0)) {K:St->Option R} (hk:Ey E σ t (d7 σ (.tmp x0)) mv o.dst K=some x) :
  ∃ b off v cs,tmp a x0=.pointer (some ⟨b,off,none⟩)/\Has w b off cs/\v.cells.toList=cs/\∀ w',Has w' b off cs->(execOp a.eval o).run P w'=.ok (.value v) w':=by
 unfold Ey at hk;obtain ⟨T,hT,hk⟩:=gr hk;have jx:=hE.ti _ _ hT
 have run:∀ b off L,a.eval (.tmp x0)=.pointer (some ⟨b,off,none⟩)->L.length=T.sz->(∀ u ∈ L,u.oneCell'=true)->∀ w',Has w' b off L->(execOp a.eval o).run P w'=.ok (.value (c_ T L)) w':=λb off L hy hl pH w' hL=>by
  simp[execOp,ho,hy,Instr.loadAt,Instr.sureAddr,zW jx hL hl pH]
 rw[ho] at da
 rcases f5 h (show dy P (.tmp x0)=true from da) with hs | ⟨xs,e⟩
 rotate_left
 ·rw[e] at hk;cases hk
 split at hk
 ·rename_i t' v hv;rw[hv] at hs;split at hk
  ·rename_i e;subst e;obtain ⟨⟨b,off,sp⟩,h1,h2,L,h3,h4,h5⟩:=hs;simp only[dN,eP] at h1;simp only at h2;subst h2;exact ⟨b,off,c_ t' L,L,h1,λj u hu=>(h4 j u hu).1,lX h3 (Ro.one _ h5),run b off L h1 h3 (Ro.one _ h5)⟩
  ·cases hk
 ·rename_i r p snap hv;rw[hv] at hs;split at hk
  ·rename_i pJ;obtain ⟨hr,t',m',H',v',ca,de,F',h1,h2,h3,h4,h5,h6⟩:=l6 h hk;obtain ⟨pl,b,off,g1,g2,g3,g4⟩:=hs.2 pJ;rw[h3] at g1;injection g1 with g1;subst g1;simp only at g2;subst g2;split at h1
   ·rename_i e;subst e;have hh:Has w b off ca:=by first | exact (h6 b off rfl).1 | exact h6 b off rfl | exact (h5 b off rfl).1 | exact h5 b off rfl
    exact ⟨b,off,c_ t' ca,ca,g3,hh,lX (an.length _ h4) (an.one _ h4),run b off ca g3 (an.length _ h4) (an.one _ h4)⟩
   ·cases h1
  ·cases hk
 ·cases hk
theorem abs (h:ee P C A σ a w F) (hE:ub P E) {ip i t x0:Nat} (da:sA P o.op=true) (ho:o.op=.load t (.tmp x0)) {K:St->Option R} (hk:sL E ip i o σ K=some x) :
  ∃ b off v cs,tmp a x0=.pointer (some ⟨b,off,none⟩)/\Has w b off cs/\v.cells.toList=cs/\∀ w',Has w' b off cs->(execOp a.eval o).run P w'=.ok (.value v) w':=by
 unfold sL at hk;simp only[ho,Kq] at hk;split at hk
 ·exact PP h hE da ho hk
 ·split at hk
  ·split at hk
   ·obtain ⟨A1,qC,F1,_,_,_,_,_,k1,_,k3,_⟩:=Ao h hk;exact PP k3 hE da ho k1
   ·cases hk
  ·cases hk
structure Inv (P:Program) (E:Env) (ops:Array Oper) (pd:List Nat) (w0:World) (C:Ctx) (is:List Nat) (l:Array Bool) (f:Bool) (σ:St) (fuel:Nat) (A:Cells) (a:Act) (w:World) (X:FP) (F:Nat->FP) (D:List Nat) (L:Array Bool) (er:List (Nat×Nat)) (RC:List (Nat×Nat×Nat×Nat×List Value)):Prop where
 h:Rel P C A X σ a w F
 pf:PF P E ops A a w D X
 nd:D.Nodup
 Nn:∀ j ∈ D,j ∈ pd
 dl:∀ j ∈ D,l.getD j false=false
 rf:∀ j ∈ D,j ∈ is
 cov:∀ j ∈ pd,l.getD j false=true\/j ∈ is
 IV:(is.filter λk=>decide (k ∉ D)).length<=fuel
 cl:Ed .any ops L
 hS:(∀ d,rz E ops d=true->L.getD d false=false)->Ext w0 w (λ_ _=>0)
 hf:f=true->w=w0/\pd=[]
 K1:l.size=ops.size
 Cm:L.size=ops.size
 hL:∀ k,L.getD k false=true↔(l.getD k false=true\/k ∈ D)
 Xt:is.Nodup
 Xu:∀ k,k < ops.size->l.getD k false=true\/k ∈ is
 io:∀ k ∈ is,l.getD k false=false
 rc:∀ e ∈ RC,RE ops er L a w e
theorem wW {l:Array Bool} {k:Nat} (h:k < l.size):l.getD k true=l.getD k false:=by simp[h]
theorem iv {l:Array Bool} {i k:Nat} (hi:i < l.size):(l.setIfInBounds i true).getD k false=true↔(k=i\/l.getD k false=true):=by
 by_cases hk:i=k
 ·subst hk;simp[hi]
 ·rw[getD_set_ne false hk];constructor
  ·exact .inr
  ·rintro (h | h)
   ·exact absurd h.symm hk
   ·exact h
theorem R7 {D:List Nat} {j:Nat} (hD:j ∉ D):∀ (is:List Nat),j ∈ is->(is.filter λk=>decide (k ∉ j::D)).length+1<=(is.filter λk=>decide (k ∉ D)).length:=by
 have hle:∀ (is:List Nat),(is.filter λk=>decide (k ∉ j::D)).length<=(is.filter λk=>decide (k ∉ D)).length:=by
  intro is
  induction is with
  | nil=>exact aH _
  | cons i is ih=>
   simp only[fR];by_cases h1:i ∈ D
   ·have h2:i ∈ j::D:=by simp[h1]
    simp only[h1,h2,fN,aI,aE,aR];exact ih
   ·by_cases h2:i ∈ j::D
    ·simp only[h1,h2,fN,eN,aI,aO,aE,aR,aK,aZ];omega
    ·simp only[h1,h2,eN,aO,aK,aZ];omega
 intro is
 induction is with
 | nil=>intro h;cases h
 | cons i is ih=>
  intro h;simp only[fR];by_cases qN:i=j
  ·subst qN;have h2:i ∈ i::D:=by simp
   simp only[hD,h2,fN,eN,aI,aO,aE,aR,aK,aZ];have:=hle is;omega
  ·have h3:j ∈ is:=by
    rcases bB.1 h with e | e
    ·exact absurd e.symm qN
    ·exact e
   have:=ih h3;by_cases h1:i ∈ D
   ·have h2:i ∈ j::D:=by simp[h1]
    simp only[h1,h2,fN,aI,aE,aR];exact this
   ·have h2:i ∉ j::D:=by simp[h1,qN]
    simp only[h1,h2,eN,aO,aK,aZ];omega
section
variable {ops:Array Oper} {pd:List Nat} {w0:World} {is:List Nat} {l L:Array Bool} {f:Bool} {fuel:Nat} {D:List Nat} {i:Nat} {er:List (Nat×Nat)} {RC:List (Nat×Nat×Nat×Nat×List Value)}
theorem Inv.JC (v:Inv P E ops pd w0 C is l f σ fuel A a w X F D L er RC) (hi:i ∈ Region.ready .any ops l) (hD:i ∉ D):i ∈ Region.ready .any ops L:=by
 obtain ⟨h0,o,ho,sy⟩:=mem_ready.1 hi;have a7:i < ops.size:=(cH.1 ho).1;refine mem_ready.2 ⟨?_,o,ho,λe he hb=>(v.hL _).2 (.inl (sy e he hb))⟩;rw[wW (by rw[v.Cm];exact a7)];rw[wW (by rw[v.K1];exact a7)] at h0
 cases hh:L.getD i false with
 | false=>rfl
 | true=>
  rcases (v.hL i).1 hh with h1 | h1
  ·rw[h0] at h1;cases h1
  ·exact absurd h1 hD
theorem Inv.GY (v:Inv P E ops pd w0 C is l f σ fuel A a w X F D L er RC) {j:Nat} {S:List Nat} (hS:∀ k ∈ D,k ∈ S) (hj:j ∈ Region.ready .any ops L) (hjS:j ∉ S):j ∈ Region.ready .any ops (De l S):=by
 obtain ⟨h0,o,ho,sy⟩:=mem_ready.1 hj;have a7:j < ops.size:=(cH.1 ho).1;refine mem_ready.2 ⟨?_,o,ho,λe he hb=>?_⟩
 ·rw[EV,aL (λh=>hjS h.1),wW (by rw[v.K1];exact a7)];rw[wW (by rw[v.Cm];exact a7)] at h0
  cases hh:l.getD j false with
  | false=>rfl
  | true=>rw[(v.hL j).2 (.inl hh)] at h0;cases h0
 ·rw[EV];have h1:=sy e he hb;rcases (v.hL _).1 h1 with h2 | h2
  ·split
   ·rfl
   ·exact h2
  ·have a7:e.on < L.size:=by
    rcases cR e.on L.size with h' | h'
    ·exact h'
    ·simp[dZ h'] at h1
   rw[aG ⟨hS _ h2,by rw[v.K1,<- v.Cm];exact a7⟩]
theorem Inv.K3 (v:Inv P E ops pd w0 C is l f σ fuel A a w X F D L er RC) {j:Nat} (h:L.getD j true=false):j ∉ D/\l.getD j false=false/\l.getD j true=false:=by
 have a7:j < L.size:=by
  rcases cR j L.size with h' | h'
  ·exact h'
  ·simp[dZ h'] at h
 rw[wW a7] at h
 have h1:l.getD j false=false:=by
  cases hh:l.getD j false with
  | false=>rfl
  | true=>rw[(v.hL j).2 (.inl hh)] at h;cases h
 have h2:j ∉ D:=λhD=>by
  rw[(v.hL j).2 (.inr hD)] at h;cases h
 exact ⟨h2,h1,by rw[wW (by rw[v.K1,<- v.Cm];exact a7)];exact h1⟩
theorem Inv.next (v:Inv P E ops pd w0 C (i::is) l f σ (fuel+1) A a w X F D L er RC) (hD:i ∉ D) (hr:i ∈ Region.ready .any ops L) {C2:Ctx} {f2:Bool} {mX:St} {A2:Cells} {a2:Act} {w2:World} {F2:Nat->FP}
  (h2:Rel P C2 A2 X mX a2 w2 F2) (hp:PF P E ops A2 a2 w2 D X) (hS2:(∀ d,rz E ops d=true->(L.setIfInBounds i true).getD d false=false)->Ext w0 w2 (λ_ _=>0)) (hf2:f2=true->w2=w0/\pd=[]) {RC2:List (Nat×Nat×Nat×Nat×List Value)} (hrc:∀ e ∈ RC2,RE ops er (L.setIfInBounds i true) a2 w2 e) :
  Inv P E ops pd w0 C2 is (l.setIfInBounds i true) f2 mX fuel A2 a2 w2 X F2 D (L.setIfInBounds i true) er RC2:=by
 obtain ⟨_,o,ho,_⟩:=mem_ready.1 hr;have a7:i < ops.size:=(cH.1 ho).1;have Cn:i < l.size:=by rw[v.K1];exact a7
 have Co:i < L.size:=by rw[v.Cm];exact a7
 refine ⟨h2,hp,v.nd,v.Nn,λj hj=>?_,λj hj=>?_,λj hj=>?_,?_,ET v.cl hr,hS2,hf2,by simpa using v.K1,by simpa using v.Cm,λk=>?_,(cL.1 v.Xt).2,λk hk=>?_,λk hk=>?_,hrc⟩
 ·rw[getD_set_ne false (λe=>by subst e;exact hD hj)];exact v.dl j hj
 ·rcases bB.1 (v.rf j hj) with e | e
  ·subst e;exact absurd hj hD
  ·exact e
 ·rcases v.cov j hj with h | h
  ·exact .inl ((iv Cn).2 (.inr h))
  ·rcases bB.1 h with e | e
   ·exact .inl ((iv Cn).2 (.inl e))
   ·exact .inr e
 ·have:=v.IV;simp only[fR,hD,eN,aO,aK,aZ] at this;omega
 ·rw[iv Co,iv Cn,v.hL];exact or_assoc.symm
 ·rcases v.Xu k hk with h | h
  ·exact .inl ((iv Cn).2 (.inr h))
  ·rcases bB.1 h with e | e
   ·exact .inl ((iv Cn).2 (.inl e))
   ·exact .inr e
 ·rw[getD_set_ne false (λe=>by subst e;exact (cL.1 v.Xt).1 hk)];exact v.io k (aX _ hk)
theorem Inv.U3 (v:Inv P E ops pd w0 C (i::is) l f σ fuel A a w X F D L er RC) (hD:i ∈ D) (t7:i ∉ is) {mX:St} {X2:FP} {F2:Nat->FP} (h2:Rel P C A X2 mX a w F2) (hp:PF P E ops A a w (D.erase i) X2) :
  Inv P E ops pd w0 C is (l.setIfInBounds i true) f mX fuel A a w X2 F2 (D.erase i) L er RC:=by
 have Co:i < L.size:=by
  have h1:=(v.hL i).2 (.inr hD);rcases cR i L.size with h' | h'
  ·exact h'
  ·simp[dZ h'] at h1
 have Cn:i < l.size:=by rw[v.K1,<- v.Cm];exact Co
 have C6:∀ k,k ∈ D.erase i↔k≠i/\k ∈ D:=λk=>v.nd.mem_erase_iff;refine ⟨h2,hp,v.nd.erase _,λj hj=>v.Nn j ((C6 j).1 hj).2,λj hj=>?_,λj hj=>?_,λj hj=>?_,?_,v.cl,v.hS,v.hf,by simpa using v.K1,v.Cm,λk=>?_,(cL.1 v.Xt).2,λk hk=>?_,λk hk=>?_,v.rc⟩
 ·obtain ⟨h3,h4⟩:=(C6 j).1 hj;rw[getD_set_ne false (λe=>h3 e.symm)];exact v.dl j h4
 ·obtain ⟨h3,h4⟩:=(C6 j).1 hj;rcases bB.1 (v.rf j h4) with e | e
  ·exact absurd e h3
  ·exact e
 ·rcases v.cov j hj with h | h
  ·exact .inl ((iv Cn).2 (.inr h))
  ·rcases bB.1 h with e | e
   ·exact .inl ((iv Cn).2 (.inl e))
   ·exact .inr e
 ·have:=v.IV;simp only[fR,hD,fN,aI,aE,aR] at this;refine bI (gY (cP List.length (List.filter_congr λk hk=>?_))) this;have:k≠i:=λe=>by subst e;exact t7 hk
  simp only[C6,this,ne_eq,eN,eL]
 ·rw[v.hL,iv Cn,C6];constructor
  ·rintro (h | h)
   ·exact .inl (.inr h)
   ·by_cases hk:k=i
    ·exact .inl (.inl hk)
    ·exact .inr ⟨hk,h⟩
  ·rintro ((h | h) | h)
   ·subst h;exact .inr hD
   ·exact .inl h
   ·exact .inr h.2
 ·rcases v.Xu k hk with h | h
  ·exact .inl ((iv Cn).2 (.inr h))
  ·rcases bB.1 h with e | e
   ·exact .inl ((iv Cn).2 (.inl e))
   ·exact .inr e
 ·rw[getD_set_ne false (λe=>by subst e;exact t7 hk)];exact v.io k (aX _ hk)
theorem unl {j:Nat} (a7:j < L.size) {k:Nat} (hu:(L.setIfInBounds j true).getD k false=false):L.getD k false=false:=by
 cases hl:L.getD k false with
 | false=>rfl
 | true=>rw[(iv a7).2 (.inr hl)] at hu;cases hu
theorem Inv.AS (v:Inv P E ops pd w0 C is l f σ fuel A a w X F D L er RC) (wx:Cl E ops pd er=true) {j:Nat} {o':Oper} (hj:ops[j]?=some o') (ur:L.getD j false=false) {a2:Act} {w2:World}
  (ht:∀ d,o'.dst≠some d->tmp a2 d=tmp a d) (hh:∀ e ∈ RC,DJ ops (L.setIfInBounds j true) e.2.1->Has w2 e.2.2.1 e.2.2.2.1 e.2.2.2.2):∀ e ∈ RC,RE ops er (L.setIfInBounds j true) a2 w2 e:=by
 intro e he;obtain ⟨h1,h2,o,t,x,d,h3,h4,h5,h6,h7,h8⟩:=v.rc e he;obtain ⟨_,_,o1,t1,x1,d1,g1,_,g2,g3,_,g4⟩:=xB wx h1;rw[h3] at g1;injection g1 with g1;subst g1;rw[h4] at g2;injection g2 with _ g2;injection g2 with g2;subst g2;rw[h5] at g3;injection g3 with g3;subst g3;have je:j≠e.1:=λe'=>by rw[e'] at ur;rw[h2] at ur;cases ur
 obtain ⟨k1,k2⟩:=g4 j o' hj je
 have k3:o'.dst≠some x:=λe'=>by
  have:=wV v.cl _ _ _ (k2 e') h2;rw[this] at ur;cases ur
 exact ⟨h1,by rw[getD_set_ne false je];exact h2,o,t,x,d,h3,h4,h5,by rw[ht x k3];exact h6,by rw[ht d k1];exact h7,hh e he⟩
theorem Inv.still (v:Inv P E ops pd w0 C (i::is) l f σ fuel A a w X F D L er RC) (wx:Cl E ops pd er=true) {ip:Nat} (Tu:Ks E.er ip=er) {o':Oper} (hj:ops[i]?=some o') (ur:L.getD i false=false) {C2:Ctx} {A2:Cells} {X2:FP} {mX:St} {a2:Act} {w2:World} {F2:Nat->FP} (h2:Rel P C2 A2 X2 mX a2 w2 F2)
  (ht:∀ d,o'.dst≠some d->tmp a2 d=tmp a d) (fh:Ie o'.op=false->Ext w w2 (λ_ _=>0)) (Mv:Kt E ip ops.toList i o' is mX=true):∀ e ∈ RC,DJ ops (L.setIfInBounds i true) e.2.1->Has w2 e.2.2.1 e.2.2.2.1 e.2.2.2.2:=by
 intro e he hu;obtain ⟨g1,g2,o,t,x,d,g3,g4,g5,g6,g7,g8⟩:=v.rc e he;have Co:i < L.size:=by rw[v.Cm];exact (cH.1 hj).1
 have huL:DJ ops L e.2.1:=hu.imp id λhu=>by
  cases hl:L.getD e.2.1 false with
  | false=>rfl
  | true=>rw[(iv Co).2 (.inr hl)] at hu;cases hu
 cases hm:Ie o'.op with
 | false=>exact (g8 huL).ext (fh hm)
 | true=>
  simp only[Kt,hm,iP,aU,dP,Ux,Tu,bJ] at Mv;have:=Mv _ g1;obtain ⟨Xv,hu2,o1,t1,x1,d1,k1,_,k2,k3,_,k4⟩:=xB wx g1;rw[g3] at k1;injection k1 with k1;subst k1;rw[g4] at k2;injection k2 with _ k2;injection k2 with k2;subst k2;rw[g5] at k3;injection k3 with k3;subst k3;have je:i≠e.1:=λe'=>by rw[e'] at ur;rw[g2] at ur;cases ur
  have hl:l.getD e.1 false=true:=((v.hL e.1).1 g2).resolve_right λhD=>Xv (v.Nn _ hD)
  have Zn:is.any (Nat.beq e.1)=false:=by
   cases hb:is.any (Nat.beq e.1) with
   | false=>rfl
   | true=>
    have:=v.io e.1 (aX _ (rA.1 hb));rw[hl] at this;cases this
  have Zo:(is.any (Nat.beq e.2.1)||Nat.ble ops.toList.length e.2.1)=true:=by
   rcases cR e.2.1 ops.size with h9 | h9
   ·have acD:=huL.resolve_left Bys
    have hui:e.2.1≠i:=λe'=>by
     have:=hu.resolve_left Bys;rw[(iv Co).2 (.inl e')] at this;cases this
    rcases v.Xu _ h9 with IT | IT
    ·rw[(v.hL _).2 (.inl IT)] at acD;cases acD
    ·rcases bB.1 IT with Xw | Xw
     ·exact absurd Xw hui
     ·rw[rA.2 Xw,iP]
   ·have:Nat.ble ops.toList.length e.2.1=true:=by simpa using h9
    rw[this,Bool.or_true]
  rw[Zn,Zo,aU,dP,dP,dV,g3] at this;simp only at this;obtain ⟨q1,q2⟩:=k4 i o' hj je
  have q3:o'.dst≠some x:=λe'=>by
   have:=wV v.cl _ _ _ (q2 e') g2;rw[this] at ur;cases ur
  have hx:tmp a2 x=.pointer (some ⟨e.2.2.1,e.2.2.2.1,none⟩):=by rw[ht x q3];exact g6
  obtain ⟨z1,z2⟩:=Xs h2 this g4 g5 hx;rw[ht d q1,g7] at z1;exact z1
theorem Inv.early (hE:ub P E) (yJ:GX E ops pd=true) {ip:Nat} (Xv:pa E.pd ip=pd) (wx:Cl E ops pd er=true) (sy:Uy E ip ops.toList is σ=true) (hC:∀ b i,C.A0 b i->C.F0 b i=0)
  (v:Inv P E ops pd w0 C is l f σ (fuel+1) A a w X F D L er RC) {j:Nat} (hj:j ∈ pd) (hr:j ∈ Region.ready .any ops L) {S:Array Bool->World->Prop}
  (hS:∀ w',Ext w w' (λ_ _=>0)->((∀ d,rz E ops d=true->(L.setIfInBounds j true).getD d false=false)->Ext w0 w' (λ_ _=>0))->S (L.setIfInBounds j true) w')
  (next:∀ (a':Act) (w':World) (X':FP),Inv P E ops pd w0 C is l f σ fuel A a' w' X' F (j::D) (L.setIfInBounds j true) er RC->wy P .any ops Q S fuel (L.setIfInBounds j true) a' w') :
  wpOp P ops Q j (λa' w'=>S (L.setIfInBounds j true) w'/\wy P .any ops Q S fuel (L.setIfInBounds j true) a' w') a w:=by
 obtain ⟨o,d,s,ho,hg,hd,hs,je⟩:=DL yJ hj;have Co:j < L.size:=by rw[v.Cm];exact (cH.1 ho).1
 obtain ⟨hjD,hjl,_⟩:=v.K3 (mem_ready.1 hr).1;have Zp:j ∈ is:=(v.cov j hj).resolve_left (by rw[hjl];simp)
 have bd:Mf σ d=true:=by
  unfold Uy at sy;rw[Xv] at sy;have:=bJ.1 sy j hj;rw[dV,ho,rA.2 Zp] at this
  simpa [hd] using this
 obtain ⟨val,w',Fj,lm,fh,h2,hPS⟩:=Zm (o:=o) v.h hE.ti hs bd
 have wz:(∀ d,rz E ops d=true->(L.setIfInBounds j true).getD d false=false)->Ext w0 w' (λ_ _=>0):=λIW=>(v.hS λd' un=>by
  cases hh:L.getD d' false with
  | false=>rfl
  | true=>rw[<-IW d' un,(iv Co).2 (.inr hh)]).trans fh (λ_ _ _ _=>rfl)
 have hw:Region.wanted o (yielded ops a.tmps)=true:=by simp[Region.wanted,hg]
 unfold wpOp;simp only[ho,hw,aK];refine .inl (pg lm ⟨hS w' fh wz,?_⟩);rw[hd];have hdn:d < σ.n:=(Nj bd).1
 refine next _ _ (λb i=>X b i+Fj b i) ⟨h2,⟨o,d,s,Fj,X,ho,hd,hs,?_,λb i=>aH _,?_⟩,cL.2 ⟨hjD,v.nd⟩,?_,?_,?_,v.cov,?_,ET v.cl hr,wz,λhf=>?_,v.K1,by simpa using v.Cm,λk=>?_,v.Xt,v.Xu,v.io,v.AS wx ho (by have:=(mem_ready.1 hr).1;rw[wW Co] at this;exact this) (λd' un=>by rw[pe,aL (λe=>un (by rw[hd,e.1]))]) (λe he hu=>by
  obtain ⟨_,_,_,_,_,_,_,_,_,_,_,q⟩:=v.rc e he
  exact (q (hu.imp id λhu=>unl Co hu)).ext fh)⟩
 ·have:tmp (a.put (some d) val) d=val:=by rw[pe,v.h.size,aG ⟨rfl,hdn⟩]
  rw[this];exact hPS
 ·refine PF.nK (λ_ _ h=>h) (λb i ha u hu=>fh.cell b i (yH hu) rfl u hu) fh.x_ D (λk hk o' d' Dg un=>?_) (λb i hp=>⟨λu hu=>fh.cell b i (yH hu) rfl u hu,fh.AU b i (v.h.ll b i (.inl Bys))⟩) v.pf;have:d'≠d:=λe=>je k o' Dg (λe'=>by subst e';exact hjD hk) (by rw[un,e]);rw[pe,aL (λh=>this h.1.symm)]
 ·intro k hk;rcases bB.1 hk with e | e
  ·subst e;exact hj
  ·exact v.Nn k e
 ·intro k hk;rcases bB.1 hk with e | e
  ·subst e;exact hjl
  ·exact v.dl k e
 ·intro k hk;rcases bB.1 hk with e | e
  ·subst e;exact Zp
  ·exact v.rf k e
 ·have:=R7 hjD is Zp;have:=v.IV;omega
 ·have:=(v.hf hf).2;rw[this] at hj;cases hj
 ·rw[iv Co,v.hL,bB];constructor
  ·rintro (h | h | h)
   ·exact .inr (.inl h)
   ·exact .inl h
   ·exact .inr (.inr h)
  ·rintro (h | h | h)
   ·exact .inr (.inl h)
   ·exact .inl h
   ·exact .inr (.inr h)
theorem Xx (hE:ub P E) {ip:Nat} (da:∀ o ∈ ops.toList,sA P o.op=true) {K:St->Option R} (hP:∀ c a w,¬ Q (.panic c) a w) (EU:Region.noSelect ops=true) (yJ:GX E ops pd=true) (Xv:pa E.pd ip=pd) {er:List (Nat×Nat)} (Tu:Ks E.er ip=er) (wx:Cl E ops pd er=true) :
  ∀ (is:List Nat) (l:Array Bool) (f:Bool) {C:Ctx} {σ:St},(∀ a w,Nx P C K x a w->Q .normal a w)->(∀ b i,C.A0 b i->C.F0 b i=0)->Cj E ip ops pd is l f=true->Gx E ip ops.toList is σ K=some x ->
   ∀ (fuel:Nat) {A:Cells} {a:Act} {w:World} {X:FP} {F:Nat->FP} {D:List Nat} {L:Array Bool} {RC:List (Nat×Nat×Nat×Nat×List Value)},Inv P E ops pd w0 C is l f σ fuel A a w X F D L er RC->wy P .any ops Q (SD E ops w0 C RC) fuel L a w:=by
 intro is
 induction is with
 | nil=>
  intro l f C σ hQ hC hg hk fuel A a w X F D L RC v;simp only[Cj,bH] at hg
  have hD:D=[]:=by
   cases D with
   | nil=>rfl
   | cons j D=>have:=v.rf j (by simp);cases this
  subst hD
  have hr:Region.ready .any ops L=[]:=by
   rw[List.eq_nil_iff_forall_not_mem];intro j hj;have:=v.GY (S:=[]) (λ_ h=>h) hj (by simp);rw[De,hg] at this;cases this
  have hq:=hQ a w ⟨σ,hk,A,F,v.h.less λ_ _=>aW _⟩
  cases fuel with
  | zero=>exact ⟨hr,hq⟩
  | succ fuel=>exact ⟨λ_=>hq,by rw[hr];simp⟩
 | cons i is ih=>
  intro l f C σ hQ hC hg hk;simp only[Gx] at hk;split at hk
  ·cases hk
  rename_i sy;simp only[Cj] at hg
  cases hi:ops[i]? with
  | none=>rw[hi] at hg;cases hg
  | some o=>
  rw[dV,hi] at hk;rw[hi] at hg;simp only at hk hg;have Px:i < ops.size:=(cH.1 hi).1;have AY:o ∈ ops.toList:=bW (i:=i) (by simpa using hi)
  have U3:∀ (fuel:Nat) {A:Cells} {a:Act} {w:World} {X:FP} {F:Nat->FP} {D:List Nat} {L:Array Bool} {RC:List (Nat×Nat×Nat×Nat×List Value)},Inv P E ops pd w0 C (i::is) l f σ fuel A a w X F D L er RC->i ∈ D->wy P .any ops Q (SD E ops w0 C RC) fuel L a w:=by
   intro fuel A a w X F D L RC v hD;have Ee:=v.Nn i hD;rw[rA.2 Ee] at hg;simp only[aD,cD] at hg;obtain ⟨⟨⟨t7,_⟩,_⟩,hg⟩:=hg;have t7:i ∉ is:=λhm=>by rw[rA.2 hm] at t7;cases t7
   obtain ⟨o',d',s',Dg,IX,un,No,_⟩:=DL yJ Ee;rw[hi] at Dg;injection Dg with Dg;subst Dg;obtain ⟨o2,d,s,Fi,X',g1,g2,g3,g4,g5,g6⟩:=PF.take D hD v.pf;rw[hi] at g1;injection g1 with g1;subst g1;simp only[Gw,IX] at hk;split at hk
   ·cases hk
   rw[Zl g3,g2] at hk;split at hk;rotate_left
   ·cases hk
   obtain ⟨F2,h2⟩:=v.h.cb (some d) g4.slot g5 g4.whole;rw[PO] at h2;exact ih _ f hQ hC hg hk fuel (v.U3 hD t7 h2 g6)
  intro fuel
  induction fuel with
  | zero=>
   intro A a w X F D L RC v;by_cases hD:i ∈ D
   ·exact U3 0 v hD
   ·have:=v.IV;simp[fR,hD] at this
  | succ fuel ihf=>
  intro A a w X F D L RC v;by_cases hD:i ∈ D
  ·exact U3 _ v hD
  have K4:∀ e ∈ RC,DJ ops L e.2.1->Has w e.2.2.1 e.2.2.2.1 e.2.2.2.2:=λe he=>by obtain ⟨_,_,_,_,_,_,_,_,_,_,_,q⟩:=v.rc e he;exact q
  have ael:∀ w',Ext w w' (λ_ _=>0)->∀ (l':Array Bool),(∀ k,l'.getD k false=false->L.getD k false=false)->((∀ d,rz E ops d=true->l'.getD d false=false)->Ext w0 w' (λ_ _=>0))->SD E ops w0 C RC l' w':=λw' t6 l' Ge hh=>⟨hh,(λb i ha u hu=>by
   have:=v.h.ext.cell b i (yH hu) (hC b i ha) u hu
   exact t6.cell b i (yH this) rfl u this),λe he hu=>(K4 e he (hu.imp id (Ge _))).ext t6⟩
  have Xy:∀ j,j ∈ pd->j ∈ Region.ready .any ops L->wpOp P ops Q j (λa' w'=>SD E ops w0 C RC (L.setIfInBounds j true) w'/\wy P .any ops Q (SD E ops w0 C RC) fuel (L.setIfInBounds j true) a' w') a w:=λj hj hr=>
   v.early hE yJ Xv wx sy hC hj hr (λw' t6 hh=>ael w' t6 _ (λk hk=>unl (by rw[v.Cm];obtain ⟨_,oj,KY,_⟩:=mem_ready.1 hr;exact (cH.1 KY).1) hk) hh) (λa' w' X' v'=>ihf v')
  have PR:SD E ops w0 C RC L w:=⟨v.hS,(λb i ha u hu=>v.h.ext.cell b i (yH hu) (hC b i ha) u hu),K4⟩
  cases IY:pd.any (Nat.beq i) with
  | true=>
   rw[IY] at hg;simp only[aD,cD,bJ] at hg;obtain ⟨⟨⟨t7,Dh⟩,Mv⟩,hg⟩:=hg;have uR:i ∈ Region.ready .any ops L:=v.JC (by simpa using Dh) hD;refine ⟨λh0=>(by rw[h0] at uR;cases uR),λj hj=>Xy j ?_ hj⟩
   by_cases hjS:j ∈ pd.filter (λj=>!Nat.beq i j)
   ·exact (List.mem_filter.1 hjS).1
   ·refine rA.1 (Mv j (v.GY (λk hk=>List.mem_filter.2 ⟨v.Nn k hk,?_⟩) hj hjS))
    cases hb:Nat.beq i k with
    | false=>rfl
    | true=>rw[cX hb] at hD;exact absurd hk hD
  | false=>
  rw[IY] at hg;simp only at hg;have afh:i ∉ pd:=λhm=>by rw[rA.2 hm] at IY;cases IY
  have Zq:∀ j ∈ D,∀ o' d,ops[j]?=some o'->o'.dst=some d->o.dst≠some d:=λj hj o' d Dg un=>by
   obtain ⟨o2,d2,s2,g1,_,g2,_,g3⟩:=DL yJ (v.Nn j hj);rw[Dg] at g1;injection g1 with g1;subst g1;rw[un] at g2;injection g2 with g2;subst g2;exact g3 i o hi (λe=>by subst e;exact hD hj)
  obtain ⟨b,qC,hk,h1,hw⟩:=PK v.h hk
  have Tn:(match (generalizing:=false) b with
    | true=>sL E ip i o qC λσ=>match Kt E ip ops.toList i o is σ with
     | true=>Gx E ip ops.toList is σ K
     | false=>none
    | false=>Gx E ip ops.toList is (qC.cb o.dst (.sR [])) K)=some x/\(b=true->O7 E ip i=true->O6 qC o=true):=by
   cases b with
   | true=>
    simp only at hk
    cases hn:(O7 E ip i&&!O6 qC o) with
    | true=>rw[hn] at hk;cases hk
    | false=>
     rw[hn] at hk;exact ⟨hk,λ_ KL=>by rw[KL] at hn;simpa using hn⟩
   | false=>exact ⟨hk,λe=>by cases e⟩
  obtain ⟨hk,aem⟩:=Tn
  have B7:∀ (val:Value),∀ j ∈ D,∀ o' d,ops[j]?=some o'->o'.dst=some d->tmp (a.put o.dst val) d=tmp a d:=λval j hj o' d Dg un=>by
   have:=Zq j hj o' d Dg un
   cases hod:o.dst with
   | none=>rfl
   | some e=>rw[pe,aL (λh=>this (by rw[hod,h.1]))]
  split at hg
  ·rename_i aaP;simp only[aD,dB,cD,bJ,cC] at aaP;obtain ⟨rt,⟨OB,PT⟩,Dh⟩:=aaP;have uR:i ∈ Region.ready .any ops L:=v.JC (by simpa using PT) hD;have K5:∀ j oj,ops[j]?=some oj->j≠i->L.getD j true=false->(∀ e ∈ oj.after,Region.binds .any e=true->e.on≠i)->o.apart ops oj=true:=λj oj KY pc ur rQ=>Region.free_spec hi OB j oj KY pc (v.K3 ur).2.2 rQ;have ut:rz E ops i=false:=by simp[rz,hi,rt]
   have IW:∀ (l':Array Bool),(∀ d,rz E ops d=true->(l'.setIfInBounds i true).getD d false=false)↔∀ d,rz E ops d=true->l'.getD d false=false:=λl'=>by
    constructor
    ·intro hh d hd;have:=hh d hd;rw[getD_set_ne false (λe=>by subst e;rw[ut] at hd;cases hd)] at this;exact this
    ·intro hh d hd;rw[getD_set_ne false (λe=>by subst e;rw[ut] at hd;cases hd)];exact hh d hd
   have hSD:∀ (C:Ctx) (RC:List (Nat×Nat×Nat×Nat×List Value)),(∀ e ∈ RC,(e.1,e.2.1) ∈ er)->∀ l w,SD E ops w0 C RC (l.setIfInBounds i true) w↔SD E ops w0 C RC l w:=λC RC gb l' w'=>by
    unfold SD;rw[IW];refine and_congr iG (and_congr iG (forall_congr' λe=>forall_congr' λhe=>?_))
    have je:i≠e.2.1:=λe'=>by
     rcases (xB wx (gb e he)).2.1 with h | ⟨h,_⟩
     ·omega
     ·rw[<-e',ut] at h;cases h
    unfold DJ;rw[getD_set_ne false je]
   have gb:∀ e ∈ RC,(e.1,e.2.1) ∈ er:=λe he=>(v.rc e he).1
   have adt:∀ {l':Array Bool} {u:Nat},(∃ j,(j,u) ∈ er)->(DJ ops (l'.setIfInBounds i true) u->DJ ops l' u):=λ{l' u} ⟨j,hj⟩ hu=>by
    have je:i≠u:=λe'=>by
     rcases (xB wx hj).2.1 with h | ⟨h,_⟩
     ·omega
     ·rw[<-e',ut] at h;cases h
    unfold DJ at hu ⊢
    rwa [getD_set_ne false je] at hu
   have hS1:(∀ d,rz E ops d=true->(L.setIfInBounds i true).getD d false=false)->Ext w0 w (λ_ _=>0):=λhd=>v.hS ((IW L).1 hd)
   have JD:L.getD i false=false:=by
    have h0:=(mem_ready.1 uR).1;rw[wW (by rw[v.Cm];exact Px)] at h0;exact h0
   have In:∀ (val:Value),∀ e ∈ RC,RE ops er (L.setIfInBounds i true) (a.put o.dst val) w e:=λval=>v.AS wx hi JD (λd hd=>by
    cases ho:o.dst with
    | none=>rfl
    | some d'=>rw[pe,aL (λe=>hd (by rw[ho,e.1]))]) (λe he hu=>K4 e he (adt ⟨_,gb e he⟩ hu))
   cases b with
   | true=>
    simp only at hk
    cases acE:O7 E ip i with
    | true=>
     obtain ⟨C',c1,c2,c3,c4,c5⟩:=h1.abp;obtain ⟨C1,f1,f2⟩:=c4.frame;obtain ⟨val,lm,mX,mY,A2,F2,h2⟩:=abq f1 hE (da o AY) rt (aem rfl acE) hk;simp only at mY;split at mY;rotate_left
     ·cases mY
     have hC':∀ b i,C'.A0 b i->C'.F0 b i=0:=λb i ha=>c3 b i (by rw[<-c2];exact ha);obtain ⟨e1,e2,e3,e4,e5⟩:=f2 h2
     refine DK (S:=SD E ops w0 C' RC) (λl' w' hs=>⟨hs.1,(λb i ha u hu=>hs.2.1 b i (by rw[c2];exact h1.a0 b i ha) u (by rw[c1];exact h1.ext.cell b i (yH hu) (hC b i ha) u hu)),hs.2.2⟩) _ _ _ _
      (yN hi (Region.noSelect_spec EU) (λc a w hq=>(hP c _ _ hq).elim) (hSD C' RC gb) fuel L a w K5 uR v.cl (.inl ⟨hw,λw' wz=>lm w' λb i ha u hu=>?_⟩) ⟨v.hS,(λb i ha u hu=>by rw[c1] at hu;exact hu),K4⟩
      (ih _ f (λa w ⟨C8,q1,A3,F3,q2⟩=>hQ a w ⟨C8,q1,A3,F3,c5 q2⟩) hC' hg mY fuel (v.next hD uR e1 (PF.nK e2 e3 e4 D (B7 val) e5 v.pf) hS1 v.hf (In val))))
     obtain ⟨l',BR,ur,wz⟩:=wz;exact wz.2.1 b i (by rw[c2];exact ha) u (by rw[c1];exact hu)
    | false=>
    cases PU:Uw E ip i with
    | true=>
     obtain ⟨u,OC⟩:∃ u,(i,u) ∈ er:=by
      unfold Uw at PU;rw[Tu] at PU;obtain ⟨e,he1,he2⟩:=eG.1 PU;rw[cX he2];exact ⟨e.2,he1⟩
     obtain ⟨_,hu0,o1,t1,x1,d1,g1,_,g2,g3,g4,_⟩:=xB wx OC;rw[hi] at g1;injection g1 with g1;subst g1;obtain ⟨C1,f1,f2⟩:=h1.frame;obtain ⟨b0,off,aen,cs,q1,q2,q3,q4⟩:=abs f1 hE (da o AY) g2 hk;obtain ⟨val,lm,mX,mY,A2,F2,h2⟩:=OA hE f1 (da o AY) rt hk
     have Po:val=aen:=by
      have r1:=lm w λ_=>Ext.refl _ _;have r2:=q4 w q2;rw[r1] at r2;injection r2 with r2 _;injection r2
     subst Po;simp only at mY;split at mY;rotate_left
     ·cases mY
     rename_i OD;obtain ⟨e1,e2,e3,e4,e5⟩:=f2 h2
     have zB:RE ops er (L.setIfInBounds i true) (a.put o.dst val) w (i,u,b0,off,cs):=by
      refine ⟨OC,(iv (by rw[v.Cm];exact Px)).2 (.inl rfl),o,t1,x1,d1,hi,g2,g3,?_,?_,λ_=>q2⟩
      ·rw[g3,pe,aL (λe=>g4 e.1.symm)];exact q1
      ·simp only[Kt,PU,Bool.or_true,aU,dP,Ux,Tu,bJ] at OD;have h9:=OD _ OC
       have Zn:is.any (Nat.beq i)=false:=by
        cases hb:is.any (Nat.beq i) with
        | false=>rfl
        | true=>exact absurd (rA.1 hb) (cL.1 v.Xt).1
       have Zo:(is.any (Nat.beq u)||Nat.ble ops.toList.length u)=true:=by
        rcases cR u ops.size with k1 | k1
        ·obtain ⟨k2,_,k3⟩:=hu0.resolve_left Bys;rcases v.Xu u k1 with k4 | k4
         ·have k5:=(v.hL u).2 (.inl k4);have:=wV v.cl _ _ _ k3 k5;rw[JD] at this;cases this
         ·rcases bB.1 k4 with k5 | k5
          ·rw[k5,ut] at k2;cases k2
          ·rw[rA.2 k5,iP]
        ·have:Nat.ble ops.toList.length u=true:=by simpa using k1
         rw[this,Bool.or_true]
       rw[Zn,Zo,aU,dP,dP,dV,hi] at h9;simp only at h9;have IT:=(Xs h2 h9 g2 g3 (b:=b0) (off:=off) (by rw[g3,pe,aL (λe=>g4 e.1.symm)];exact q1)).2;rw[g3] at IT ⊢;rw[pe,aG ⟨rfl,by simpa [Act.put] using IT⟩];exact q3
     refine DK (S:=SD E ops w0 C ((i,u,b0,off,cs)::RC)) (λl' w' hs=>⟨hs.1,hs.2.1,λe he=>hs.2.2 e (aX _ he)⟩) _ _ _ _
      (yN hi (Region.noSelect_spec EU) (λc a w hq=>(hP c _ _ hq).elim) (hSD C _ (λe he=>by rcases bB.1 he with rfl | he;exact OC;exact gb e he)) fuel L a w K5 uR v.cl (.inl ⟨hw,λw' wz=>?_⟩) ⟨PR.1,PR.2.1,λe he hu=>?_⟩
      (ih _ f hQ hC hg mY fuel (v.next hD uR e1 (PF.nK e2 e3 e4 D (B7 val) e5 v.pf) hS1 v.hf (λe he=>?_))))
     ·obtain ⟨l',BR,ur,wz⟩:=wz;refine q4 w' (wz.2.2 _ bF ?_)
      rcases hu0 with k1 | ⟨_,_,k3⟩
      ·exact .inl k1
      ·right;show l'.getD u false=false
       cases hld:l'.getD u false with
       | false=>rfl
       | true=>
        have:=wV BR _ _ _ k3 hld;rcases cR i l'.size with h' | h'
        ·simp[h'] at this ur;rw[ur] at this;cases this
        ·simp[dZ h'] at this
     ·rcases bB.1 he with rfl | he
      ·exact q2
      ·exact K4 e he hu
     ·rcases bB.1 he with rfl | he
      ·exact zB
      ·exact In val e he
    | false=>
    obtain ⟨C1,f1,f2⟩:=h1.frame;obtain ⟨val,lm,mX,mY,A2,F2,h2⟩:=OA hE f1 (da o AY) rt hk;simp only at mY;split at mY;rotate_left
    ·cases mY
    obtain ⟨e1,e2,e3,e4,e5⟩:=f2 h2;refine yN hi (Region.noSelect_spec EU) (λc a w hq=>(hP c _ _ hq).elim) (hSD C RC gb) fuel L a w K5 uR v.cl (.inl ⟨hw,λw' wz=>lm w' λhr=>?_⟩) PR (ih _ f hQ hC hg mY fuel (v.next hD uR e1 (PF.nK e2 e3 e4 D (B7 val) e5 v.pf) hS1 v.hf (In val)))
    rcases Dh with ((Dh | Dh) | Dh) | ⟨oq,aeo⟩
    ·rw[hr] at Dh;cases Dh
    ·rw[acE] at Dh;cases Dh
    ·rw[PU] at Dh;cases Dh
    ·rw[(v.hf oq).1];obtain ⟨l',BR,ur,wz⟩:=wz;refine wz.1 λd hd=>?_
     have hdl:d < ops.size:=by
      unfold rz at hd;split at hd
      ·rename_i od hod;exact (cH.1 hod).1
      ·cases hd
     rcases aeo d hdl with hh | hh
     ·rw[hd] at hh;cases hh
     ·cases hld:l'.getD d false with
      | false=>rfl
      | true=>
       have:=wV BR _ _ _ hh hld;rcases cR i l'.size with h' | h'
       ·simp[h'] at this ur;rw[ur] at this;cases this
       ·simp[dZ h'] at this
   | false=>
    obtain ⟨F2,h2⟩:=Mu h1 o;exact yN hi (Region.noSelect_spec EU) (λc a w hq=>(hP c _ _ hq).elim) (hSD C RC gb) fuel L a w K5 uR v.cl (v:=undef) (.inr ⟨hw,rfl⟩) PR (ih _ f hQ hC hg hk fuel (v.next hD uR h2 (PF.nK (λ_ _ h=>h) (λ_ _ _ _ h=>h) (λ_ _ h=>h) D (B7 undef) (λ_ _ _=>⟨λ_ h=>h,rfl⟩) v.pf) hS1 v.hf (In undef)))
  ·simp only[aD,bJ] at hg;obtain ⟨⟨PT,Mv⟩,hg⟩:=hg;have uR:i ∈ Region.ready .any ops L:=v.JC (by simpa using PT) hD;have U4:i < L.size:=by rw[v.Cm];exact Px
   have JD:L.getD i false=false:=by
    have h0:=(mem_ready.1 uR).1;rw[wW U4] at h0;exact h0
   refine ⟨λh0=>(by rw[h0] at uR;cases uR),λj hj=>?_⟩
   by_cases hjp:j ∈ pd
   ·exact Xy j hjp hj
   have qN:i=j:=cX (Mv j (v.GY v.Nn hj hjp));subst qN;unfold wpOp;simp only[hi,hw]
   have hold:∀ {d},(L.setIfInBounds i true).getD d false=false->L.getD d false=false:=λ{d} hh=>by
    cases hl:L.getD d false with
    | false=>rfl
    | true=>rw[(iv U4).2 (.inr hl)] at hh;cases hh
   have BW:(L.setIfInBounds i true).getD i false=true:=(iv U4).2 (.inl rfl)
   cases b with
   | true=>
    simp only[aK];obtain ⟨C1,f1,f2⟩:=h1.frame;have Df:∀ w',(∀ b i,A b i->∀ u,ce w b i=some u->ce w' b i=some u)->∀ b i,C.A0 b i->∀ u,ce C.w0 b i=some u->ce w' b i=some u:=λw' he b i ha u hu=>he b i (v.h.a0 b i ha) u (v.h.ext.cell b i (yH hu) (hC b i ha) u hu)
    cases rt:xo E o.op with
    | true=>
     refine .inl (Oper.wp_mono (λa' w' hn=>?_) (Xq (abr (OA hE f1 (da o AY) rt hk))));obtain ⟨ht,hww,mX,mY,A2,F2,h2⟩:=hn;subst hww;simp only at mY;split at mY;rotate_left
     ·cases mY
     obtain ⟨e1,e2,e3,e4,e5⟩:=f2 h2;have wz:(∀ d,rz E ops d=true->(L.setIfInBounds i true).getD d false=false)->Ext w0 w (λ_ _=>0):=λhd=>v.hS λd IW=>hold (hd d IW);exact ⟨⟨wz,Df _ e3,λe he hu=>K4 e he (hu.imp id hold)⟩,ih _ false hQ hC hg mY fuel (v.next hD uR e1 (PF.nK e2 e3 e4 D (λj hj o' d Dg un=>ht d (Zq j hj o' d Dg un)) e5 v.pf) wz (λe=>by cases e) (v.AS wx hi JD ht λe he hu=>K4 e he (hu.imp id hold)))⟩
    | false=>
    refine .inl (Oper.wp_mono (λa' w' hn=>?_) (Xq (Xp hE f1 (da o AY) rt hk)));obtain ⟨ht,⟨mX,mY,A2,F2,h2⟩,hq⟩:=hn;simp only at mY;split at mY;rotate_left
    ·cases mY
    rename_i OD;obtain ⟨e1,e2,e3,e4,e5⟩:=f2 h2
    have wz:(∀ d,rz E ops d=true->(L.setIfInBounds i true).getD d false=false)->Ext w0 w' (λ_ _=>0):=λhd=>by
     have hqq:quiet E o.op=true:=by
      cases hqq:quiet E o.op with
      | true=>rfl
      | false=>
       have hdj:rz E ops i=true:=by simp[rz,hi,rt,hqq]
       have:=hd i hdj;rw[BW] at this;cases this
     exact (v.hS λd IW=>hold (hd d IW)).trans (hq hqq) (λ_ _ _ _=>rfl)
    have acF:=v.still wx Tu hi JD h2 ht (λhm=>hq (quiet_of hk hm rt)) OD;exact ⟨⟨wz,Df _ e3,acF⟩,ih _ false hQ hC hg mY fuel (v.next hD uR e1 (PF.nK e2 e3 e4 D (λj hj o' d Dg un=>ht d (Zq j hj o' d Dg un)) e5 v.pf) wz (λe=>by cases e) (v.AS wx hi JD ht acF))⟩
   | false=>
    simp only[aE,aR];obtain ⟨F2,h2⟩:=Mu h1 o;have wz:(∀ d,rz E ops d=true->(L.setIfInBounds i true).getD d false=false)->Ext w0 w (λ_ _=>0):=λhd=>v.hS λd IW=>hold (hd d IW)
    exact ⟨⟨wz,PR.2.1,λe he hu=>K4 e he (hu.imp id hold)⟩,ih _ false hQ hC hg hk fuel (v.next hD uR h2 (PF.nK (λ_ _ h=>h) (λ_ _ _ _ h=>h) (λ_ _ h=>h) D (B7 undef) (λ_ _ _=>⟨λ_ h=>h,rfl⟩) v.pf) wz (λe=>by cases e) (v.AS wx hi JD (λd hd=>by
     cases ho:o.dst with
     | none=>rfl
     | some d'=>rw[pe,aL (λe=>hd (by rw[ho,e.1]))]) λe he hu=>K4 e he (hu.imp id hold)))⟩
end
theorem abt (hE:ub P E) (hm:P.follows .mixedOrders=true) {ip id:Nat} {ops:Array Oper} (da:∀ o ∈ ops.toList,sA P o.op=true) {is bx:List Nat} (hd:PN E ip ops is=true) (h:ee P C A σ a w F) {K:St->Option R} (hk:S4 σ bx (λσ=>WG ops.toList σ (pa E.pd ip) λσ=>Gx E ip ops.toList is σ K)=some x)
  (hQ:∀ a w,Nx P C K x a w->Q .normal a w) (hP:∀ c a w,¬ Q (.panic c) a w):(Code.region id ops true).wp P Q a w:=by
 simp only[PN,aD,dR] at hd;obtain ⟨⟨⟨⟨EU,hlen⟩,yJ,aep⟩,⟨ut,aeq⟩,wx⟩,hg⟩:=hd;have h0:=h.drew;obtain ⟨A1,qC,F1,hk,h1⟩:=aaO bx h0 hk;obtain ⟨mX,F2,hk,h1⟩:=ads (pa E.pd ip) h1 hk;obtain ⟨C',c1,c2,c3,c4,c5⟩:=h1.acC;have hC':∀ b i,C'.A0 b i->C'.F0 b i=0:=λb i ha=>c3 b i (by rw[<-c2];exact ha)
 have GQ:∀ k,(Array.replicate ops.size false).getD k false=false:=λk=>by
  by_cases hk:k < ops.size <;> simp[hk]
 refine wp_region_any hm (KX _ _ _ _ (Xx hE da hP EU yJ rfl rfl wx is _ _ (λa w ⟨C8,q1,A3,F3,q2⟩=>hQ a w ⟨C8,q1,A3,F3,c5 q2⟩) hC' hg hk ops.size (w0:=w.drew) (D:=[]) (RC:=[]) ⟨c4,trivial,fC,(λ_ h=>by cases h),(λ_ h=>by cases h),(λ_ h=>by cases h),λj hj=>.inr (rA.1 (bJ.1 aep j hj)),
  bI (List.length_filter_le _ _) hlen,λj o hj hl=>?_,λ_=>Ext.refl _ _,λhf=>⟨rfl,?_⟩,by simp,by simp,(λk=>by simp),IU ut,λk hk=>.inr (rA.1 (bJ.1 aeq k (cC.2 hk))),λk _=>GQ k,λe he=>by cases he⟩))
 ·rw[GQ] at hl;cases hl
 ·split at hf
  ·assumption
  ·cases hf
end
end OT
namespace OT
open Go
section
variable {P:Program} {C:Ctx} {A:Cells} {X:FP} {σ:St} {a:Act} {w:World} {F:Nat->FP} {R:Type} {x:R} {E:Env}
theorem PV (f:Nat->Slot):∀ (live:List Nat) (i:Nat),oG (live.map λj=>(j,f j)) i=if live.any (Nat.beq i) then some (f i) else none
 | [],i=>rfl
 | j::live,i=>by
  simp only[dX,oG,gL];by_cases qN:i=j
  ·simp_all
  ·have h1:Nat.beq j i=false:=by
    grind [Nat.eq_of_beq_eq_true]
   have h2:Nat.beq i j=false:=by
    grind [Nat.eq_of_beq_eq_true]
   simp only[h1,h2,aE,aR,dP,PV f live i]
theorem Cp (live:List Nat) (fr:List (Nat×Md)) (σ:St) (i:Nat):(gv live fr σ).get i=if i < σ.n/\live.any (Nat.beq i)=true then C4 fr i (lE live fr σ i) else .dead:=by
 unfold St.get gv;simp only[PV];grind [Nat.blt_eq]
theorem EW (live:List Nat) (fr:List (Nat×Md)) (σ:St) (i:Nat):(gv live fr σ).lC i=[0,0,0,0,0]:=rfl
theorem EX {s:List Nat} (h:s.length<=5):Below (s.map λ_=>0) [0,0,0,0,0]:=by
 intro j y hj;grind
theorem EY {live:List Nat} {fr:List (Nat×Md)} {r:Nat} (hr:Gy live fr r=true) {p:Path} {pl:Pl} (hp:place σ a w r p=some pl):place (gv live fr σ) a w r p=some pl:=by
 grind [uP,Gy,place,Cp,C4,lE,d8]
theorem Xz {live:List Nat} {fr:List (Nat×Md)} {i:Nat} {G:FP} (hs:db P A σ a w (tmp a i) (σ.get i) G) (hG:∀ b k,G b k<=1) :
  ∃ G':FP,(∀ b k,G' b k<=G b k)/\∀ A':Cells,(∀ b k,A b k->A' b k)->(∀ b k,1<=G b k->G' b k=0->A' b k)->db P A' (gv live fr σ) a w (tmp a i) (C4 fr i (lE live fr σ i)) G':=by
 have same:∀ b k,A b k->∀ u,ce w b k=some u->ce w b k=some u:=λ_ _ _ _ h=>h;have dead:C4 fr i .dead=.dead:=by grind [C4]
 have EZ:∀ {s:Slot},(∀ t m H v,s≠.own t m H v)->(∀ t m H v,s≠.box t m H v)->C4 fr i s=s:=λ{s} h1 h2=>by
  grind [C4]
 cases hg:σ.get i with
 | dead=>exact ⟨λ_ _=>0,λ_ _=>aW _,λA' _ _=>by simp only[lE,hg,dead];trivial⟩
 | yo=>
  rw[hg] at hs;exact ⟨λ_ _=>0,λ_ _=>aW _,λA' _ _=>by simp only[lE,hg];rw[EZ (by intros;simp) (by intros;simp)];exact hs⟩
 | val t v=>
  rw[hg] at hs;obtain ⟨cs,h1,h2⟩:=hs;exact ⟨λ_ _=>0,λ_ _=>aW _,λA' hA _=>by simp only[lE,hg];rw[EZ (by intros;simp) (by intros;simp)];exact ⟨cs,h1,Ro.mono same hA t h2⟩⟩
 | cp t v=>
  rw[hg] at hs;exact ⟨λ_ _=>0,λ_ _=>aW _,λA' hA _=>by simp only[lE,hg];rw[EZ (by intros;simp) (by intros;simp)];exact Ro.mono same hA (.ptr t) hs⟩
 | own t m H v=>
  rw[hg] at hs;obtain ⟨cs,h1,h2⟩:=hs;have hk:lE live fr σ i=.own t m H v:=by grind [lE]
  rw[hk];unfold C4;split
  ·exact ⟨G,λ_ _=>aH _,λA' hA _=>⟨cs,h1,an.mono hA same (λ_ _ h=>h) t h2 (λ_ _=>aH _) (λ_ _ _ _ h=>h)⟩⟩
  ·rename_i m1 hm;simp only;split
   ·rename_i hc;simp only[aD,bH] at hc;obtain ⟨hH,hf⟩:=hc;subst hH;obtain ⟨G1,g1,g2⟩:=an.fits t hf h2 hG;refine ⟨G1,g1,λA' hA Di=>?_⟩
    have hr:=g2 A' hA Di;split
    ·rename_i e;subst e;exact ⟨cs,h1,an.ro t (it t) hr⟩
    ·exact ⟨cs,h1,hr⟩
   ·exact ⟨λ_ _=>0,λ_ _=>aW _,λA' _ _=>trivial⟩
 | box t m H v=>
  rw[hg] at hs;obtain ⟨b,o,L,F1,s1,s2,s3,s4,s5,s6⟩:=hs;have hk:lE live fr σ i=.box t m H v:=by grind [lE]
  rw[hk];unfold C4;split
  ·exact ⟨G,λ_ _=>aH _,λA' hA _=>⟨b,o,L,F1,s1,s2,s3,s4,s5,an.mono hA same (λ_ _ h=>h) t s6 (λ_ _=>aH _) (λ_ _ _ _ h=>h)⟩⟩
  ·rename_i m1 hm;simp only;split
   ·rename_i hc;simp only[aD,bH] at hc;obtain ⟨hH,hf⟩:=hc;subst hH;obtain ⟨G1,g1,g2⟩:=an.fits t hf s6 (λb' k=>by grind);refine ⟨λb' k=>dt b o t.sz b' k+G1 b' k,λb' k=>by grind,λA' hA Di=>⟨b,o,L,G1,s1,s2,s3,s4,λ_ _=>aH _,g2 A' hA λb' k hp hz=>?_⟩⟩
    grind
   ·exact ⟨λ_ _=>0,λ_ _=>aW _,λA' _ _=>trivial⟩
 | ref r p snap=>
  rw[hg] at hs;refine ⟨λ_ _=>0,λ_ _=>aW _,λA' _ _=>?_⟩
  simp only[lE,hg];split
  ·rename_i hc;simp only[aD] at hc;rw[EZ (by intros;simp) (by intros;simp)];obtain ⟨pl,h1,h2,h3⟩:=hs.2 hc.1;have hl:snap.length<=5:=by grind
   exact ⟨by grind [EW,EX],λ_=>⟨pl,EY hc.2 h1,h2,by simpa using h3⟩⟩
  ·rw[dead];trivial
 | ptr r p snap=>
  rw[hg] at hs;refine ⟨λ_ _=>0,λ_ _=>aW _,λA' _ _=>?_⟩
  simp only[lE,hg];split
  ·rename_i hc;simp only[aD] at hc;rw[EZ (by intros;simp) (by intros;simp)];obtain ⟨pl,b,o,h1,h2,h3,h4⟩:=hs.2 hc.1;have hl:snap.length<=5:=by omega
   exact ⟨by grind [EW,EX],λ_=>⟨pl,b,o,EY hc.2 h1,h2,h3,by simpa using h4⟩⟩
  ·rw[dead];trivial
 | sub r p snap lo hi=>
  rw[hg] at hs;refine ⟨λ_ _=>0,λ_ _=>aW _,λA' _ _=>?_⟩
  simp only[lE,hg];split
  ·rename_i hc;simp only[aD] at hc;rw[EZ (by intros;simp) (by intros;simp)];obtain ⟨pl,e,xa,n,cap,xx,cap',h1,h2,h3,h4,h5,h6,h7,h8,h9,IT,Xw⟩:=hs.2 hc.1;have hl:snap.length<=5:=by grind
   exact ⟨by grind [EW,EX],λ_=>⟨pl,e,xa,n,cap,xx,cap',EY hc.2 h1,h2,h3,h4,h5,h6,h7,h8,h9,IT,by simpa using Xw⟩⟩
  ·rw[dead];trivial
 | sR xs=>
  rw[hg] at hs;obtain ⟨vs,Fi,h1,h2,h3⟩:=hs;refine ⟨G,λ_ _=>aH _,λA' hA _=>?_⟩
  simp only[lE,hg];rw[EZ (by intros;simp) (by intros;simp)]
  exact ⟨vs,Fi,h1,h2,λj y hy=>by
   obtain ⟨v,g1,g2⟩:=h3 j y hy
   exact ⟨v,g1,g2.imp id λ⟨cs,g3,g4⟩=>⟨cs,g3,an.mono hA same (λ_ _ h=>h) _ g4 (λ_ _=>aH _) (λ_ _ _ _ h=>h)⟩⟩⟩
theorem JE (h:ee P C A σ a w F) (live:List Nat) (fr:List (Nat×Md)):GK P C (gv live fr σ) a w:=by
 have hle:∀ i,i < σ.n->∀ b k,F i b k<=1:=λi hi b k=>by have:=h.qg b k;grind [dj]
 have each:∀ i,∃ G':FP,(∀ b k,i < σ.n->G' b k<=F i b k)/\(¬ i < σ.n->∀ b k,G' b k=0)/\∀ A':Cells,(∀ b k,A b k->A' b k)->(∀ b k,1<=F i b k->G' b k=0->A' b k)->i < σ.n->db P A' (gv live fr σ) a w (tmp a i) ((gv live fr σ).get i) G':=by
  intro i;by_cases hi:i < σ.n
  ·by_cases hl:live.any (Nat.beq i)=true
   ·obtain ⟨G',g1,g2⟩:=Xz (live:=live) (fr:=fr) (h.i9 i hi) (hle i hi);exact ⟨G',λb k _=>g1 b k,λhn=>absurd hi hn,λA' hA Di _=>by grind [Cp]⟩
   ·exact ⟨λ_ _=>0,λ_ _ _=>aW _,λ_ _ _=>rfl,λA' _ _ _=>by rw[Cp,aL (λhc=>hl hc.2)];trivial⟩
  ·exact ⟨λ_ _=>0,λ_ _ _=>aW _,λ_ _ _=>rfl,λA' _ _ sS=>absurd sS hi⟩
 obtain ⟨F',hF'⟩:=fW each;have q_:∀ b k,bf σ.n F' b k<=bf σ.n F b k:=λb k=>Mg b k λj hj=>(hF' j).1 b k hj;refine ⟨λb k=>A b k\/∃ j,j < σ.n/\1<=F j b k/\F' j b k=0,F',?_⟩
 have hold:∀ {b k j},j < σ.n->1<=F j b k->1<=0+bf σ.n F b k:=λ{b k j} hj hp=>by grind [dj]
 refine ⟨h.size,h.defers,λi hi=>(hF' i).2.2 _ (λ_ _ h=>.inl h) (λb k hp hz=>.inr ⟨i,hi,hp,hz⟩) hi,(λd r p snap hm=>by cases hm),λb k=>by have:=h.qg b k;have:=q_ b k;show 0+bf σ.n F' b k<=1;omega,λb k hp ha=>?_,λb k hp=>?_,
  λi=>by rw[EW];rfl,h.ext,λb k hp=>h.own b k (by have:=q_ b k;have hp:1<=0+bf σ.n F' b k:=hp;grind),λb k ha=>.inl (h.a0 b k ha),λb k ha=>?_,h.pv,λr t m H v hg hl=>?_,λj k hm R' qh=>?_,h.yz⟩
 ·have hp:1<=0+bf σ.n F' b k:=hp
  rcases ha with ha | ⟨j,hj,h1,h2⟩
  ·exact h.rf b k (by grind) ha
  ·obtain ⟨i,hi,IY⟩:=O_ (show 1<=bf σ.n F' b k by omega);have je:i≠j:=λe=>by grind
   have:=wi F hi hj je b k;have:=(hF' i).1 b k hi;have:=h.qg b k;omega
 ·rcases hp with hp | (ha | ⟨j,hj,h1,_⟩)
  ·exact h.ll b k (.inl (by have:=q_ b k;have hp:1<=0+bf σ.n F' b k:=hp;grind))
  ·exact h.ll b k (.inr ha)
  ·exact h.ll b k (.inl (hold hj h1))
 ·rcases ha with ha | ⟨j,hj,h1,_⟩
  ·exact h.a1 b k ha
  ·exact .inr (h.own b k (hold hj h1))
 ·rw[Cp] at hg;split at hg
  ·have:∃ m0 H0 v0,σ.get r=.box t m0 H0 v0:=by
    grind [C4,lE]
   obtain ⟨m0,H0,v0,hg0⟩:=this;exact h.whole r t m0 H0 v0 hg0 hl
  ·cases hg
 ·have UH:d8 w (tmp a j) (σ.get j)=some R'\/∃ H0,d8 w (tmp a j) (σ.get j)=some { R' with H:=H0 }:=by
   rw[Cp] at qh;split at qh
   ·unfold C4 at qh;split at qh
    ·grind [lE,d8]
    ·split at qh
     ·grind [lE,d8]
     ·rename_i t0 m0 H0 v0 hk
      have IR:σ.get j=.box t0 m0 H0 v0:=by
       grind [lE]
      split at qh
      all_goals simp_all [d8]
     grind [d8]
   grind [d8]
  rcases UH with hr | ⟨H0,hr⟩
  ·exact h.ou j k hm R' hr
  ·have:=h.ou j k hm _ hr;exact this
theorem abu (live:List Nat) (σ:St):AS live σ=gv live [] σ:=rfl
theorem abv (h:ee P C A σ a w F) (live:List Nat):GK P C (AS live σ) a w:=by grind [abu,JE]
end
end OT
namespace OT
open Go
def QK (P:Program) (C:Ctx) {R:Type} (K:Ex->St->Option R) (fin:St->Option R) (x:R):Exit->Act->World->Prop
 | .normal,a,w=>∃ σ,K .normal σ=some x/\GK P C σ a w
 | .exit id,a,w=>∃ σ,K (.exit id) σ=some x/\GK P C σ a w
 | .ret,a,w=>∃ σ,fin σ=some x/\GK P C σ a w
 | _,_,_=>False
noncomputable def codeOk (P:Program) (E:Env):Code->Bool
 | .skip=>true
 | .region id ops d=>ops.toList.all (λo=>sA P o.op)&&(match d with
  | false=>true
  | true=>P.follows .mixedOrders&&PN E id ops (pa E.od id))
 | .seq a b=>codeOk P E a&&codeOk P E b
 | .cond c a b=>dy P c&&codeOk P E a&&codeOk P E b
 | .block _ b=>codeOk P E b
 | .loop b=>codeOk P E b
 | .scope b=>codeOk P E b
 | .exit _=>true
 | .ret=>true
 | _=>true
section
variable {P:Program} {C:Ctx} {R:Type} {x:R} {E:Env} {fin:St->Option R} {n:Nat}
theorem abw (hE:ub P E):∀ (c:Code),codeOk P E c=true->∀ {σ:St} {A:Cells} {a:Act} {w:World} {F:Nat->FP} {K:Ex->St->Option R},ee P C A σ a w F->v_ E n fin c σ K=some x->c.wp P (QK P C K fin x) a w:=by
 intro c
 induction c with
 | skip=>intro _ σ A a w F K h hk;exact wp_skip ⟨σ,hk,A,F,h⟩
 | region id ops d=>
  intro hc σ A a w F K h hk;simp only[codeOk,aD] at hc;have da:∀ o ∈ ops.toList,sA P o.op=true:=λo ho=>bJ.1 hc.1 o ho
  cases d with
  | false=>exact Xr hE da h hk (λa w ⟨σ',h1,A',F',h2⟩=>by
    obtain ⟨A2,mX,F2,h3,h4⟩:=aaO _ h2 h1
    exact ⟨mX,h3,A2,F2,h4⟩)
  | true=>
   have h2:=hc.2;simp only[aD] at h2;exact abt hE h2.1 da h2.2 h hk (λa w ⟨σ',h1,h2⟩=>⟨σ',h1,h2⟩) (λc a w hq=>hq)
 | seq a b nL nw=>
  intro hc σ A ac w F K h hk;simp only[codeOk,aD] at hc;refine wp_seq (wp_mono (nL hc.1 h hk) λe a' w' hq=>?_)
  cases e with
  | normal=>obtain ⟨σ',h1,A',F',h2⟩:=hq;exact nw hc.2 h2 h1
  | exit j=>obtain ⟨σ',h1,h2⟩:=hq;exact ⟨σ',h1,h2⟩
  | ret=>exact hq
  | _=>exact hq.elim
 | cond c a b nL nw=>
  intro hc σ A ac w F K h hk;simp only[codeOk,aD] at hc;simp only[v_] at hk
  rcases f5 h hc.1.1 with hs | ⟨xs,e⟩
  rotate_left
  ·rw[e] at hk;cases hk
  grind [KE,wp_cond_true,wp_cond_false]
 | block id b ih=>
  intro hc σ A ac w F K h hk;refine wp_block (wp_mono (ih hc h hk) λe a' w' hq=>?_)
  cases e with
  | normal=>exact hq
  | exit j=>
   obtain ⟨σ',h1,h2⟩:=hq;simp only[ak] at h1;simp only[Exit.inBlock];by_cases hj:j=id
   ·subst hj;rw[aG (by simp)] at h1;rw[aG rfl];exact ⟨σ',h1,h2⟩
   ·have:Nat.beq j id=false:=by
     grind [Nat.eq_of_beq_eq_true]
    rw[this,aL (by simp)] at h1;rw[aL hj];exact ⟨σ',h1,h2⟩
  | ret=>exact hq
  | _=>exact hq.elim
 | loop b ih=>
  intro hc σ A ac w F K h hk;simp only[v_] at hk
  have key:∀ (m:Nat) (σ:St) (ac:Act) (w:World),GK P C σ ac w->If (v_ E n fin b) (gv (pa E.lv (tL b)) (Uz E.lf (tL b))) K m σ=some x->Code.rounds P b (QK P C K fin x) m ac w:=by
   intro m
   induction m with
   | zero=>intro σ ac w h hk;cases hk
   | succ m ihm=>
    intro σ ac w h hk;obtain ⟨A',F',h⟩:=h;rw[rounds_succ];refine wp_mono (ih hc h hk) λe a' w' hq=>?_
    cases e with
    | normal=>
     obtain ⟨σ',h1,A2,F2,h2⟩:=hq;exact ihm _ a' w' (JE h2 _ _) h1
    | exit j=>exact hq
    | ret=>exact hq
    | _=>exact hq.elim
  exact wp_loop_rounds n (key n _ ac w (JE h _ _) hk)
 | scope b ih=>
  intro hc σ A ac w F K h hk;refine wp_scope_straight (wp_mono (ih hc h hk) λe a' w' hq=>?_)
  cases e with
  | normal=>exact hq
  | exit j=>exact hq
  | ret=>exact hq
  | _=>exact hq.elim
 | exit id=>
  intro hc σ A ac w F K h hk;exact wp_exit ⟨_,hk,abv h _⟩
 | ret=>
  intro hc σ A ac w F K h hk;exact wp_ret ⟨σ,hk,A,F,h⟩
 | _=>grind [v_]
end
end OT
namespace OT
open Go
section
variable {P:Program} {C:Ctx} {A:Cells} {X:FP} {σ:St} {a:Act} {w:World} {F:Nat->FP} {R:Type} {x:R} {E:Env}
def E0 (tmps:Array Value):ResultVar->Sem Value
 | .tmp t=>pure (tmps.getD t undef)
 | .cell a t=>do loadVar t (<- asAddr (tmps.getD a undef))
theorem PW {α:Type} (f:α->Sem Value):∀ (l:List α) (vs:List Value),l.length=vs.length->(∀ (j:Nat) (y:α) (v:Value),l[j]?=some y->vs[j]?=some v->(f y).run P w=.ok v w)->(l.mapM f).run P w=.ok vs w
 | [],[],_,_=>rfl
 | y::l,v::vs,hl,h=>by
  have h0:=h 0 y v rfl rfl;have ih:=PW f l vs (by simpa using hl) (λj y v hy hv=>h (j+1) y v hy hv);simp_all
 | [],_::_,h,_=>by simp at h
 | _::_,[],h,_=>by simp at h
theorem R8 {fn:Func} {tmps:Array Value} {vs:List Value} (hl:fn.results.toList.length=vs.length) (h:∀ (j:Nat) (y:ResultVar) (v:Value),fn.results.toList[j]?=some y->vs[j]?=some v->(E0 tmps y).run P w=.ok v w) :
  (results fn tmps).run P w=.ok (if h:vs.toArray.size=1 then vs.toArray[0] else .tuple vs.toArray) w:=by
 have h1:=PW (P:=P) (w:=w) (E0 tmps) fn.results.toList vs hl h
 have h2:(fn.results.mapM (E0 tmps)).run P w=.ok vs.toArray w:=by
  have e:fn.results=fn.results.toList.toArray:=by simp
  rw[e,List.mapM_toArray,map_eq_pure_bind,Sem.run_bind,h1,Result.andThen_ok,Sem.run_pure]
 have e:results fn tmps=(do
  let vs <- fn.results.mapM (E0 tmps)
  pure (if h:vs.size=1 then vs[0] else .tuple vs)):=by
  unfold results;congr 1
 simp_all
def JF (E:Env):List (Ty×Md)->List ResultVar->Bool
 | [],[]=>true
 | _::rs,.tmp _::xs=>JF E rs xs
 | (t,_)::rs,.cell _ ty::xs=>(match E.TI ty with
  | some T=>decide (T=t)
  | none=>false)&&JF E rs xs
 | _,_=>false
theorem adu (hE:ub P E) (h:Rel P C A X σ a w F) {rv:ResultVar} {t:Ty} (B9:∀ b ty,rv=.cell b ty->E.TI ty=some t) {mv:Bool} {K:Md->t.den->St->Option R} (hk:nJ σ (Ku σ rv) mv t K=some x) :
  ∃ (tv:Value),(E0 a.tmps rv).run P w=.ok tv w/\∃ (A':Cells) (σ':St) (F':Nat->FP) (m:Md) (v:t.den) (cs:List Value) (Fv:FP),K m v σ'=some x/\(∀ b i,A b i->A' b i)/\Rel P C A' (λb i=>X b i+Fv b i) σ' a w F'/\tv=c_ t cs/\an P w A' t m [] v cs Fv:=by
 cases rv with
 | tmp i=>
  rcases f5 h (o:=.tmp i) rfl with hs | ⟨xs,e⟩
  rotate_left
  ·grind [Ku,nJ]
  obtain ⟨A',σ',F',m,v,cs,Fv,k1,k2,k3,k4,kr,k5,k6⟩:=vD h hs hk;exact ⟨_,rfl,A',σ',F',m,v,cs,Fv,k1,k2,k3,k5,k6⟩
 | cell i ty=>
  have hT:=B9 i ty rfl;have jx:=hE.ti _ _ hT;simp only[Ku] at hk;split at hk
  ·rename_i t0 m0 H0 v0 hg
   have hi:i < σ.n:=by
    grind [mQ]
   have hs:=h.i9 i hi;rw[hg] at hs;obtain ⟨b,o,L,F1,s1,s2,s3,s4,s5,s6⟩:=hs
   have gy:place σ a w i []=some ⟨t0,H0,L,some (b,o)⟩:=by
    grind [place,d8,fe,bv]
   have Oy:db P A σ a w (c_ t0 L) (.ref i [] (σ.lC i)) (λ_ _=>0):=⟨Below.refl _,λ_=>⟨_,gy,rfl,.inr (h.mH i)⟩⟩
   have ht:t0=t:=by
    grind [nJ,l6,c7]
   subst ht;obtain ⟨A',σ',F',m,v,cs,Fv,k1,k2,k3,k4,kr,k5,k6⟩:=vD h Oy hk;refine ⟨c_ t0 L,?_,A',σ',F',m,v,cs,Fv,k1,k2,k3,k5,k6⟩
   have e:a.tmps.getD i undef=.pointer (some ⟨b,o,none⟩):=s1;grind [zW,an.one,E0,asAddr]
  grind [nJ]
theorem acG (hE:ub P E) {ts:List Ty} {mv:Nat->Bool} {fin:St->((bu ts).den->Option R)->Option R}:∀ (rs:List (Ty×Md)) (D6:List ResultVar) (j:Nat) {σ:St} {A:Cells} {X:FP} {F:Nat->FP} {K:(bu (rs.map (·.1)++ts)).den->Option R},
  JF E rs D6=true->Rel P C A X σ a w F->UA σ ts mv fin rs D6 j K=some x ->
  ∃ (A':Cells) (σ':St) (X':FP) (F':Nat->FP) (E1:List Value) (L:List Kn) (Fi:Nat->FP) (pre:(bu ts).den->(bu (rs.map (·.1)++ts)).den),(∀ b i,A b i->A' b i)/\Rel P C A' X' σ' a w F'/\fin σ' (λy=>K (pre y))=some x/\(∀ y,lO rs (pre y)=(L,y)) /\
   E1.length=L.length/\E1.length=D6.length/\(∀ (k:Nat) (y:ResultVar) (v:Value),D6[k]?=some y->E1[k]?=some v->(E0 a.tmps y).run P w=.ok v w)/\(∀ b i,X b i+bf L.length Fi b i<=X' b i) /\
   ∀ A2:Cells,(∀ b i,A' b i->A2 b i)->(∀ b i,1<=X' b i->X b i=0->bf L.length Fi b i=0->A2 b i)->∀ k y,L[k]?=some y->∃ v cs,E1[k]?=some v/\v=c_ y.t cs/\an P w A2 y.t y.m [] y.v cs (Fi k):=by
 intro rs
 induction rs with
 | nil=>
  intro D6 j σ A X F K hrv h hk
  cases D6 with
  | nil=>exact ⟨A,σ,X,F,[],[],λ_ _ _=>0,id,λ_ _ h=>h,h,hk,λy=>rfl,rfl,rfl,(λk y v hy=>by cases hy),(λb i=>by simp[bf]),λA2 _ _ k y hy=>by cases hy⟩
  | cons _ _=>cases hrv
 | cons p rs ih=>
  intro D6 j σ A X F K hrv h hk;obtain ⟨t,m⟩:=p
  cases D6 with
  | nil=>cases hk
  | cons rv D6=>
   simp only[UA] at hk
   have B9:∀ b ty,rv=.cell b ty->E.TI ty=some t:=λb ty e=>by
    grind [JF]
   have aer:JF E rs D6=true:=by
    cases rv <;> grind [JF]
   obtain ⟨tv,lm,A1,qC,F1,m1,v1,cs,Fv,k1,k2,k3,k4,k5⟩:=adu hE h B9 hk;split at k1
   ·rename_i hm;obtain ⟨A',σ',X',F',E1,L,Fi,pre,g1,g2,g3,g4,g5,g6,g7,g8,g9⟩:=ih D6 (j+1) aer k3 k1;have yC:∀ b i,X' b i<=1:=λb i=>by have:=g2.qg b i;omega
    have Ce:∃ G:FP,(∀ b i,G b i<=Fv b i)/\∀ A2:Cells,(∀ b i,A1 b i->A2 b i)->(∀ b i,1<=Fv b i->G b i=0->A2 b i)->an P w A2 t m [] v1 cs G:=by
     by_cases hmm:m1=m
     ·subst hmm;exact ⟨Fv,λ_ _=>aH _,λA2 hA _=>an.mono hA (λ_ _ _ _ h=>h) (λ_ _ h=>h) t k5 (λ_ _=>aH _) (λ_ _ _ _ h=>h)⟩
     ·rcases hm with hm | hm
      ·grind
      ·exact an.fits t hm k5 (λb i=>by grind)
    obtain ⟨G,G1,G2⟩:=Ce
    have q_:∀ b i,bf (L.length+1) (λk=>match k with | 0=>G | k+1=>Fi k) b i=G b i+bf L.length Fi b i:=λb i=>by
     rw[Nat.add_comm,wj];congr 1
     ·simp[bf]
     grind
    refine ⟨A',σ',X',F',tv::E1,⟨t,m,v1⟩::L,λk=>match k with | 0=>G | k+1=>Fi k,λy=>(v1,pre y),λb i ha=>g1 b i (k2 b i ha),g2,g3,λy=>by grind [lO],by simp[g5],by simp[g6],λk y v hy hv=>?_,λb i=>?_,λA2 hA Di k y hy=>?_⟩
    ·grind
    ·grind
    ·have aes:∀ b i,1<=X' b i->X b i=0->G b i+bf L.length Fi b i=0->A2 b i:=λb i h1 h2 h3=>Di b i h1 h2 (by grind)
     cases k with
     | zero=>
      grind
     | succ k=>
      refine g9 A2 hA (λb i h1 h2 h3=>aes b i h1 Bys (by grind)) k y hy
   ·cases k1
theorem PX {l:List (Nat×Nat×Bool)} {i j:Nat} {c:Bool} (h:D4 l i j c=true):(i,j,c) ∈ l:=by
 induction l <;> grind [D4,Nat.beq_eq]
def qw (F:Nat->FP):List Nat->FP
 | []=>λ_ _=>0
 | i::l=>λb k=>F i b k+qw F l b k
theorem E2 (F:Nat->FP) (i:Nat) (G:FP) (b k:Nat):∀ (l:List Nat),i ∉ l->qw (gf F i G) l b k=qw F l b k
 | [],_=>rfl
 | j::l,hj=>by
  simp only[bB,jD] at hj;simp only[qw,E2 F i G b k l hj.2];rw[show gf F i G j=F j by grind [gf]]
theorem Tv:∀ (l:List Nat) {n:Nat} (F:Nat->FP),l.Nodup->(∀ i ∈ l,i < n)->∀ b k,qw F l b k<=bf n F b k
 | [],n,F,_,_,b,k=>aW _
 | i::l,n,F,hn,hl,b,k=>by
  have Pw:=cL.1 hn;have h1:=Tv l (gf F i λ_ _=>0) Pw.2 (λj hj=>hl j (aX _ hj)) b k;grind [E2,uO,qw]
theorem PY {F:Nat->FP} {b k:Nat}:∀ {l:List Nat},1<=qw F l b k->∃ i ∈ l,1<=F i b k
 | [],h=>by simp[qw] at h
 | i::l,h=>by
  simp only[qw] at h;rcases bM (F i b k) with h0 | h0
  ·obtain ⟨j,hj,hp⟩:=PY (F:=F) (b:=b) (k:=k) (l:=l) Bys;grind
  grind
def JG:List (PM×Ty)->Bool
 | []=>true
 | _::ps=>JG ps
theorem abx (h:Rel P C A X σ a w F):∀ (j:Nat) (ps:List (PM×Ty)) (es:List Nat) {K:(bu (lN ps)).den->Option R},JG ps=true->es.Nodup->j+ps.length<=C.args.size->yt σ j ps es K=some x ->
  ∃ (vs:(bu (lN ps)).den) (us:List Nat) (Gi:Nat->FP),K vs=some x/\(∀ i ∈ us,i ∈ es)/\us.Nodup/\(∀ i ∈ us,i < σ.n)/\(∀ i b k,i ∈ us->Gi i b k<=F i b k) /\
   ∀ A2:Cells,(∀ b k,A b k->A2 b k)->(∀ i b k,i ∈ us->1<=F i b k->Gi i b k=0->A2 b k)->ph P w A2 ps vs (C.args.toList.drop j) (qw Gi us):=by
 intro j ps
 induction ps generalizing j with
 | nil=>intro es K _ _ _ hk;exact ⟨(),[],λ_ _ _=>0,by cases es <;> exact hk,(λi hi=>by cases hi),fC,(λi hi=>by cases hi),(λi b k hi=>by cases hi),λ_ _ _=>trivial⟩
 | cons p ps ih=>
  intro es K hp ut hj hk;obtain ⟨pm,t⟩:=p;have Ba:j+1+ps.length<=C.args.size:=by grind
  have aaQ:(C.args.toList.drop j).tail=C.args.toList.drop (j+1):=by rw[List.tail_drop]
  have adv:(C.args.toList.drop j).head?=some (C.args.getD j undef):=by
   simp only[aZ] at hj;rw[List.head?_drop,dV,iC Bys];simp[show j < C.args.size by omega]
  have hF1:∀ i,i < σ.n->∀ b k,F i b k<=1:=λi hi b k=>by have:=h.qg b k;grind [dj]
  cases pm with
  | ro=>
   obtain ⟨vs,us,Gi,g1,g2,g3,g4,g5,g6⟩:=ih (j+1) es hp ut Ba hk;exact ⟨vs,us,Gi,g1,g2,g3,g4,g5,λA2 hA Di=>by grind [ph]⟩
  | fix f=>
   obtain ⟨vs,us,Gi,g1,g2,g3,g4,g5,g6⟩:=ih (j+1) es hp ut Ba hk;exact ⟨vs,us,Gi,g1,g2,g3,g4,g5,λA2 hA Di=>by grind [ph]⟩
  | tc f=>
   obtain ⟨vs,us,Gi,g1,g2,g3,g4,g5,g6⟩:=ih (j+1) es hp ut Ba hk;exact ⟨vs,us,Gi,g1,g2,g3,g4,g5,λA2 hA Di=>by grind [ph]⟩
  | pG f=>
   obtain ⟨vs,us,Gi,g1,g2,g3,g4,g5,g6⟩:=ih (j+1) es hp ut Ba hk;exact ⟨vs,us,Gi,g1,g2,g3,g4,g5,λA2 hA Di=>by grind [ph]⟩
  | jp m0 m=>
   cases es with
   | nil=>cases hk
   | cons i es=>
    have PZ:=cL.1 ut;simp only[yt] at hk;split at hk
    ·rename_i t' m' H v hg;split at hk
     ·rename_i hc;simp only[aD,bH,dB,bA] at hc;obtain ⟨⟨hH,hm⟩,EL⟩:=hc;subst hH;obtain ⟨e,hk⟩:=c7 hk;subst e;obtain ⟨vs,us,Gi,g1,g2,g3,g4,g5,g6⟩:=ih (j+1) es hp PZ.2 Ba hk
      have hi:i < σ.n:=by
       grind [mQ]
      have hs:=h.i9 i hi;rw[hg] at hs;obtain ⟨b,o,L,F1,s1,s2,s3,s4,s5,s6⟩:=hs;have afi:=h.pv i j (PX EL);have hiu:i ∉ us:=λhu=>PZ.1 (g2 i hu)
      have Ce:∃ G:FP,(∀ b k,G b k<=F1 b k)/\∀ A2:Cells,(∀ b i,A b i->A2 b i)->(∀ b i,1<=F1 b i->G b i=0->A2 b i)->an P w A2 t' m [] v L G:=by
       rcases hm with hm | hm
       ·subst hm;exact ⟨F1,λ_ _=>aH _,λA2 hA _=>an.mono hA (λ_ _ _ _ h=>h) (λ_ _ h=>h) t' s6 (λ_ _=>aH _) (λ_ _ _ _ h=>h)⟩
       ·exact an.fits t' hm s6 (λb' k=>by grind)
      obtain ⟨G,G1,G2⟩:=Ce;refine ⟨(v,vs),i::us,gf Gi i λb' k=>dt b o t'.sz b' k+G b' k,g1,λi' sS=>?_,cL.2 ⟨hiu,g3⟩,λi' sS=>?_,λi' b' k sS=>?_,λA2 hA Di=>?_⟩
      ·grind
      ·grind
      ·by_cases hii:i'=i
       ·grind [gf]
       ·simp only[gf,aL hii];grind
      ·refine ⟨λb' k=>dt b o t'.sz b' k+G b' k,qw Gi us,λb' k=>?_,⟨b,o,L,G,by grind,s2,s3,λ_ _=>aH _,G2 A2 hA λb' k hp hz=>?_⟩,?_⟩
       ·grind [qw,E2,gf]
       ·grind [gf]
       ·rw[aaQ];refine g6 A2 hA λi' b' k sS hp hz=>Di i' b' k (aX _ sS) hp ?_;have je:i'≠i:=λe=>by grind
        simp only[gf,aL je];exact hz
     ·cases hk
    ·cases hk
  | lD m=>
   cases es with
   | nil=>cases hk
   | cons i es=>
    have PZ:=cL.1 ut;simp only[yt] at hk
    have main:∀ (t':Ty) (m':Md) (H:List Path) (v:t'.den),(σ.get i=.own t' m' H v\/σ.get i=.box t' m' H v)->(if H.isEmpty&&(decide (m'=m)||fits m' m)&&D4 σ.ay i j true then kh t' t v λv=>yt σ (j+1) ps es λvs=>K (v,vs) else none)=some x ->
      ∃ (vs:(bu (lN ((PM.lD m,t)::ps))).den) (us:List Nat) (Gi:Nat->FP),K vs=some x/\(∀ i' ∈ us,i' ∈ i::es)/\us.Nodup/\(∀ i ∈ us,i < σ.n)/\(∀ i b k,i ∈ us->Gi i b k<=F i b k) /\
       ∀ A2:Cells,(∀ b k,A b k->A2 b k)->(∀ i b k,i ∈ us->1<=F i b k->Gi i b k=0->A2 b k)->ph P w A2 ((PM.lD m,t)::ps) vs (C.args.toList.drop j) (qw Gi us):=by
     intro t' m' H v hg hk;split at hk
     ·rename_i hc;simp only[aD,bH,dB,bA] at hc;obtain ⟨⟨hH,hm⟩,EL⟩:=hc;subst hH;obtain ⟨e,hk⟩:=c7 hk;subst e;obtain ⟨vs,us,Gi,g1,g2,g3,g4,g5,g6⟩:=ih (j+1) es hp PZ.2 Ba hk
      have hi:i < σ.n:=by
       grind [mQ]
      have hs:=h.i9 i hi
      have jb:∃ (cs:List Value) (F1:FP),c_ t' cs=C.args.getD j undef/\(∀ b k,F1 b k<=F i b k)/\an P w A t' m' [] v cs F1:=by
       have hl:=h.ou i j (PX EL);rcases hg with hg | hg
       ·rw[hg] at hs hl;obtain ⟨cs,h1,h2⟩:=hs;have:=hl _ rfl;grind [lX,an.length,an.one]
       ·rw[hg] at hs hl;obtain ⟨b,o,L,F1,s1,s2,s3,s4,s5,s6⟩:=hs;rw[s1] at hl;have:=hl _ rfl;grind [fe]
      obtain ⟨rx,F1,aet,hF,s6⟩:=jb;have hiu:i ∉ us:=λhu=>PZ.1 (g2 i hu)
      have Ce:∃ G:FP,(∀ b k,G b k<=F1 b k)/\∀ A2:Cells,(∀ b i,A b i->A2 b i)->(∀ b i,1<=F1 b i->G b i=0->A2 b i)->an P w A2 t' m [] v rx G:=by
       rcases hm with hm | hm
       ·subst hm;exact ⟨F1,λ_ _=>aH _,λA2 hA _=>an.mono hA (λ_ _ _ _ h=>h) (λ_ _ h=>h) t' s6 (λ_ _=>aH _) (λ_ _ _ _ h=>h)⟩
       ·exact an.fits t' hm s6 (λb' k=>by grind)
      obtain ⟨G,G1,G2⟩:=Ce;refine ⟨(v,vs),i::us,gf Gi i G,g1,λi' sS=>?_,cL.2 ⟨hiu,g3⟩,λi' sS=>?_,λi' b' k sS=>?_,λA2 hA Di=>?_⟩
      ·grind
      ·grind
      ·by_cases hii:i'=i
       ·subst hii;simp only[gf,aK];grind
       ·simp only[gf,aL hii];grind
      ·refine ⟨G,qw Gi us,λb' k=>?_,⟨rx,by rw[adv,aet],G2 A2 hA λb' k hp hz=>?_⟩,?_⟩
       ·simp only[qw,E2 Gi i _ b' k us hiu];simp only[gf,aK];exact aH _
       ·refine Di i b' k bF (by grind) ?_;simp only[gf,aK];exact hz
       ·rw[aaQ];refine g6 A2 hA λi' b' k sS hp hz=>Di i' b' k (aX _ sS) hp ?_;have je:i'≠i:=λe=>by grind
        simp only[gf,aL je];exact hz
     ·cases hk
    split at hk
    ·rename_i t' m' H v hg;exact main t' m' H v (.inl hg) hk
    ·rename_i t' m' H v hg;exact main t' m' H v (.inr hg) hk
    ·cases hk
end
end OT
namespace OT
open Go
section
variable {P:Program} {w:World} {A:Cells} {R:Type} {x:R} {E:Env}
theorem xQ:∀ (ps:List (PM×Ty)) (v:(bu (ps.map (·.2))).den),(jl ps v).length=ps.length
 | [],_=>rfl
 | (.ro,t)::ps,v=>by cases t <;> simp[jl,xQ ps v.2]
 | (.fix f,t)::ps,v=>by cases t <;> simp[jl,xQ ps v.2]
 | (.jp m m',t)::ps,v=>by simp[jl,xQ ps v.2]
 | (.lD m,t)::ps,v=>by simp[jl,xQ ps v.2]
 | (.tc m,t)::ps,v=>by simp[jl,xQ ps v.2]
 | (.pG m,t)::ps,v=>by simp[jl,xQ ps v.2]
theorem JH:∀ (ps:List (PM×Ty)) {v:(bu (ps.map (·.2))).den} {xs:List Value} {G:FP},qf P w A PA ps v xs G->xs.length=ps.length
 | [],_,_,_,h=>by have h:_=[]:=h;rw[h];rfl
 | (pm,t)::ps,_,_,_,h=>by
  obtain ⟨y,ys,F1,F2,rfl,_,_,h2⟩:=h;simp[JH ps h2]
theorem aby:∀ (ps:List (PM×Ty)) {v:(bu (ps.map (·.2))).den} {xs:List Value} {G:FP},qf P w A PA ps v xs G->JG ps=true ->
  ∃ Fi:Nat->FP,(∀ b k,bf ps.length Fi b k<=G b k)/\∀ i s,(jl ps v)[i]?=some s->∃ y,xs[i]?=some y/\(∀ σ a,db P A σ a w y s (Fi i))/\(∀ t m H v,s=.box t m H v->(i,i,false) ∈ wh 0 ps) /\
   ((i,i,true) ∈ wh 0 ps->∃ t m H v,s=.own t m H v):=by
 have main:∀ (ps:List (PM×Ty)) (n:Nat) {v:(bu (ps.map (·.2))).den} {xs:List Value} {G:FP},qf P w A PA ps v xs G->JG ps=true ->
   ∃ Fi:Nat->FP,(∀ b k,bf ps.length Fi b k<=G b k)/\∀ i s,(jl ps v)[i]?=some s->∃ y,xs[i]?=some y/\(∀ σ a,db P A σ a w y s (Fi i))/\(∀ t m H v,s=.box t m H v->(n+i,n+i,false) ∈ wh n ps) /\
    ((n+i,n+i,true) ∈ wh n ps->∃ t m H v,s=.own t m H v):=by
  have a7:∀ (ps:List (PM×Ty)) (n j k:Nat) (c:Bool),(j,k,c) ∈ wh n ps->n<=j/\j=k:=by
   intro ps
   induction ps with
   | nil=>intro n j k c h;cases h
   | cons p ps ih=>
    intro n j k c h;obtain ⟨pm,t⟩:=p
    cases pm with
    | ro=>have:=ih (n+1) j k c h;omega
    | fix f=>have:=ih (n+1) j k c h;omega
    | pG m=>have:=ih (n+1) j k c h;omega
    | jp m m'=>
     rcases bB.1 h with e | h
     all_goals grind
    | tc m=>
     rcases bB.1 h with e | h
     all_goals grind
    | lD m=>
     rcases bB.1 h with e | h
     all_goals grind
  intro ps
  induction ps with
  | nil=>intro n v xs G h _;exact ⟨λ_ _ _=>0,λb k=>aW _,λi s hs=>by cases hs⟩
  | cons p ps ih=>
   intro n v xs G h hp;obtain ⟨pm,t⟩:=p;obtain ⟨y,ys,F1,F2,rfl,hs,ha,hr⟩:=h;have hp':JG ps=true:=hp;obtain ⟨Fi,g1,g2⟩:=ih (n+1) hr hp'
   obtain ⟨s0,hs0,Zr,acl,jI⟩:∃ s0,jl ((pm,t)::ps) v=s0::jl ps v.2/\(∀ σ a,db P A σ a w y s0 F1)/\(∀ t' m' H' v',s0=.box t' m' H' v'->∃ m,(∃ m',pm=.jp m m')\/pm=.tc m)/\((∃ m,pm=.lD m)->∃ t' m H v,s0=.own t' m H v):=by
    cases pm with
    | ro=>
     obtain ⟨cs,h1,h2⟩:=ha
     cases t with
     | ptr e=>
      refine ⟨.cp e v.1,rfl,λσ a=>?_,(λ_ _ _ _ e=>by cases e),λ⟨m,e⟩=>by cases e⟩
      have hl:=Ro.length _ h2
      match cs,hl with
      | [u],_=>
       rw[ef _ _ rfl] at h1;subst h1;exact h2
     | _=>exact ⟨.val _ v.1,rfl,λσ a=>⟨cs,h1,h2⟩,(λ_ _ _ _ e=>by cases e),λ⟨m,e⟩=>by cases e⟩
    | fix f=>
     obtain ⟨⟨cs,h1,h2⟩,h3⟩:=ha
     cases t with
     | fn=>
      refine ⟨.val .fn (f,v.1.2),rfl,λσ a=>⟨cs,h1,?_⟩,(λ_ _ _ _ e=>by cases e),λ⟨m,e⟩=>by cases e⟩
      grind
     | _=>exact ⟨.dead,rfl,λσ a=>trivial,(λ_ _ _ _ e=>by cases e),λ⟨m,e⟩=>by cases e⟩
    | jp m m'=>
     obtain ⟨b,o,L,F3,h1,h2,h3,h4,h5,h6⟩:=ha;exact ⟨.box t m [] v.1,rfl,λσ a=>⟨b,o,L,F3,h1,h2,h3,h4,h5,h6⟩,λ_ _ _ _ _=>⟨m,.inl ⟨m',rfl⟩⟩,λ⟨m,e⟩=>by cases e⟩
    | tc m=>
     obtain ⟨b,o,L,F3,h1,h2,h3,h4,h5,h6⟩:=ha;exact ⟨.box t m [] v.1,rfl,λσ a=>⟨b,o,L,F3,h1,h2,h3,h4,h5,h6⟩,λ_ _ _ _ _=>⟨m,.inr rfl⟩,λ⟨m,e⟩=>by cases e⟩
    | lD m=>
     obtain ⟨cs,h1,h2⟩:=ha;exact ⟨.own t m [] v.1,rfl,λσ a=>⟨cs,h1,h2⟩,(λ_ _ _ _ e=>by cases e),λ_=>⟨_,_,_,_,rfl⟩⟩
    | pG m=>
     obtain ⟨H,cs,hH,h1,h2⟩:=ha;obtain rfl:=bH.1 hH;exact ⟨.own t m [] v.1,rfl,λσ a=>⟨cs,h1,h2⟩,(λ_ _ _ _ e=>by cases e),λ_=>⟨_,_,_,_,rfl⟩⟩
   refine ⟨λk=>match k with | 0=>F1 | k+1=>Fi k,λb k=>?_,λi s hi=>?_⟩
   ·have:bf (ps.length+1) (λk=>match k with | 0=>F1 | k+1=>Fi k) b k=F1 b k+bf ps.length Fi b k:=by
     rw[Nat.add_comm,wj];grind [bf]
    grind
   ·rw[hs0] at hi
    cases i with
    | zero=>
     injection hi with hi;subst hi;refine ⟨y,rfl,Zr,λt' m' H' v' e=>?_,λhm=>?_⟩
     ·obtain ⟨m,⟨_,rfl⟩ | rfl⟩:=acl t' m' H' v' e
      ·exact bF
      ·exact bF
     ·refine jI ?_
      cases pm with
      | lD m=>exact ⟨m,rfl⟩
      | ro=>have:=a7 ps (n+1) _ _ _ hm;omega
      | fix f=>have:=a7 ps (n+1) _ _ _ hm;omega
      | pG m=>have:=a7 ps (n+1) _ _ _ hm;omega
      | jp m m'=>
       rcases bB.1 hm with e | hm
       all_goals grind
      | tc m=>
       rcases bB.1 hm with e | hm
       all_goals grind
    | succ i=>
     obtain ⟨y',q1,q2,q3,q4⟩:=g2 i s hi;have aeu:n+1+i=n+(i+1):=by omega
     rw[aeu] at q3 q4;refine ⟨y',q1,q2,λt' m' H' v' e=>?_,λhm=>q4 ?_⟩
     ·have:=q3 t' m' H' v' e
      cases pm with
      | ro=>exact this
      | fix f=>exact this
      | pG m=>exact this
      | jp m m'=>exact aX _ this
      | tc m=>exact aX _ this
      | lD m=>exact aX _ this
     ·cases pm with
      | ro=>exact hm
      | fix f=>exact hm
      | pG m=>exact hm
      | jp m m'=>
       rcases bB.1 hm with e | hm
       all_goals grind
      | tc m=>
       rcases bB.1 hm with e | hm
       all_goals grind
      | lD m=>
       rcases bB.1 hm with e | hm
       all_goals grind
 intro ps v xs G h hp;obtain ⟨Fi,g1,g2⟩:=main ps 0 h hp;exact ⟨Fi,g1,λi s hi=>by grind⟩
theorem P0:∀ (ps:List (PM×Ty)) (n j k:Nat) (c:Bool),(j,k,c) ∈ wh n ps->n<=j/\j=k/\j < n+ps.length:=by
 intro ps
 induction ps with
 | nil=>intro n j k c h;cases h
 | cons p ps ih=>
  intro n j k c h;obtain ⟨pm,t⟩:=p;simp only[aZ]
  cases pm with
  | ro=>have:=ih (n+1) j k c h;omega
  | fix f=>have:=ih (n+1) j k c h;omega
  | pG m=>have:=ih (n+1) j k c h;omega
  | jp m m'=>
   rcases bB.1 h with e | h
   all_goals grind
  | tc m=>
   rcases bB.1 h with e | h
   all_goals grind
  | lD m=>
   rcases bB.1 h with e | h
   all_goals grind
theorem P1:∀ (ss:List Slot) (n i:Nat),oG (BP n ss) i=if n<=i then ss[i - n]? else none
 | [],n,i=>by simp[BP,oG]
 | s::ss,n,i=>by
  simp only[BP,oG,P1 ss (n+1) i];by_cases hi:n=i
  ·simp_all
  grind [Nat.eq_of_beq_eq_true]
theorem Zs {g:v6} {v:(bu (g.ps.map (·.2))).den} {xs:List Value} {F0:FP} {n:Nat} (h:qf P w A PA g.ps v xs F0) (hp:JG g.ps=true) (hn:g.ps.length<=n) (h1:∀ b i,F0 b i<=1) (h2:∀ b i,1<=F0 b i->¬ A b i) (h3:∀ b i,1<=F0 b i\/A b i->b < w.heap.size) (Mw:xG P w F0) :
  ∃ F,ee P { w0:=w,A0:=A,F0:=F0,args:=xs.toArray } A (D5 g.ps v n) { tmps:=xs.toArray++Array.replicate (n - xs.toArray.size) undef,defers:=[] } w F:=by
 obtain ⟨Fi,g1,g2⟩:=aby g.ps h hp;have hlen:=JH g.ps h;have Xd:=xQ g.ps v
 have xm:∀ i,(D5 g.ps v n).get i=if i < n then (match (jl g.ps v)[i]? with | some s=>s | none=>.dead) else .dead:=λi=>by
  grind [St.get,D5,P1,Nat.blt_eq]
 have aev:∀ i (y:Value),xs[i]?=some y->tmp { tmps:=xs.toArray++Array.replicate (n - xs.toArray.size) undef,defers:=[] } i=y:=λi y hy=>by
  have hi:=(aM.1 hy).1;simp_all [tmp,fQ]
 have q_:∀ b k,bf n (λi=>if i < g.ps.length then Fi i else λ_ _=>0) b k<=F0 b k:=λb k=>by
  have e:n=g.ps.length+(n - g.ps.length):=by omega
  rw[e,wj];have e1:=congrFun (congrFun (yu (n:=g.ps.length) (f:=λi=>if i < g.ps.length then Fi i else λ_ _=>0) (g:=Fi) (λj hj=>by grind)) b) k;grind [nQ]
 refine ⟨λi=>if i < g.ps.length then Fi i else λ_ _=>0,?_,rfl,λi hi=>?_,(λd r p snap hm=>by cases hm),λb k=>?_,λb k hp=>?_,λb k hp=>?_,λi=>rfl,Ext.refl _ _,λb k hp=>?_,λ_ _ h=>h,λ_ _ h=>.inl h,λj k hm=>?_,λr t m H v' hg hl=>?_,λj k hm R hR=>?_,Mw⟩
 ·grind [D5]
 ·rw[xm];have hi:i < n:=hi;rw[aG hi]
  cases hs:(jl g.ps v)[i]? with
  | none=>trivial
  | some s=>
   grind
 ·have:=q_ b k;have:=h1 b k;show 0+bf n _ b k<=1;omega
 ·have hp:1<=0+bf n (λi=>if i < g.ps.length then Fi i else λ_ _=>0) b k:=hp;grind
 ·refine h3 b k (hp.imp (λhp=>?_) id);have hp:1<=0+bf n (λi=>if i < g.ps.length then Fi i else λ_ _=>0) b k:=hp;grind
 ·have hp:1<=0+bf n (λi=>if i < g.ps.length then Fi i else λ_ _=>0) b k:=hp;grind
 ·obtain ⟨_,rfl,hj⟩:=P0 g.ps 0 j k false hm;simp_all
 ·exfalso;rw[xm] at hg;split at hg
  ·cases hs:(jl g.ps v)[r]? with
   | none=>grind
   | some s=>
    rw[hs] at hg;obtain ⟨y,_,_,q3,_⟩:=g2 r s hs;exact hl r (q3 t m H v' hg)
  ·cases hg
 ·obtain ⟨_,rfl,hj⟩:=P0 g.ps 0 j k true hm;have Ba:j < (jl g.ps v).length:=by omega
  have hs:=aB Ba;obtain ⟨y,q1,q2,_,q4⟩:=g2 j _ hs;obtain ⟨t,m,H,v',e⟩:=q4 hm;have hjn:j < n:=by omega
  rw[xm,aG hjn,hs] at hR;simp only[e,d8,aP] at hR;subst hR;rw[aev j y q1];have h2:=q2 (D5 g.ps v n) { tmps:=#[],defers:=[] };rw[e] at h2;obtain ⟨cs,c1,c2⟩:=h2;have:=lX (an.length _ c2) (an.one _ c2);simp_all
noncomputable def OE (P:Program) (E:Env) (fn:Func) (ps:List (PM×Ty)) (rs:List (Ty×Md)) (es:List Nat):Bool:=
 codeOk P E (Gz fn)&&JF E rs fn.results.toList&&JG ps&&Nat.ble ps.length fn.ntmps&&decide es.Nodup
theorem Oi (hE:ub P E) {f:FuncId} {fn:Func} (hf:P.funcs[f]?=some fn) (hb:fn.body.isSome=true) {g:v6} (hh:∀ v H,g.Ga v H=true->H=[]) {es fr:List Nat} (bd:OE P E fn g.ps g.rs es=true) (hF:∀ v out,g.F v=some out->∃ k,Ox E k fn g.ps g.rs es fr v=some out):Sound P f g:=by
 intro w A F0 v xs mz h1 h2 h3 Mw out pM;replace mz:=mz.none (hh v);obtain ⟨k,hk⟩:=hF v out pM;simp only[OE,aD,dR,bA] at bd;obtain ⟨⟨⟨⟨aaR,hrv⟩,yJ⟩,hnt⟩,ut⟩:=bd;obtain ⟨c,hc⟩:=eH.1 hb;have hbo:Gz fn=c:=by simp[Gz,hc]
 rw[hbo] at aaR;obtain ⟨F,Zr⟩:=Zs mz yJ hnt h1 h2 h3 Mw;unfold Ox at hk;rw[hbo] at hk;have hxl:=JH g.ps mz
 have DM:∀ (a':Act) (w':World) (σ':St),O8 g.ps g.rs es fn.results.toList (mvs fr) σ'=some out->GK P { w0:=w,A0:=A,F0:=F0,args:=xs.toArray } σ' a' w' ->
   a'.defers=[]/\∃ rv,(results fn a'.tmps).run P w'=.ok rv w'/\(∃ XA,Ending.returned rv=.returned XA/\Ext w w' F0/\∃ (A':Cells) (G GR GM:FP),(∀ b i,A b i->A' b i)/\(∀ b i,A' b i->A b i\/1<=F0 b i\/w.heap.size<=b) /\
    (∀ b i,1<=G b i->1<=F0 b i\/w.heap.size<=b)/\(∀ b i,G b i<=1)/\(∀ b i,1<=G b i->¬ A' b i)/\(∀ b i,1<=G b i\/A' b i->b < w'.heap.size)/\(∀ b i,GR b i+GM b i<=G b i) /\
    oN P w' A' (lO g.rs out).1 XA GR/\ph P w' A' g.ps (lO g.rs out).2 xs GM):=by
  intro a' w' σ' ho hr;obtain ⟨A1,F1,hr⟩:=hr;unfold O8 at ho;obtain ⟨A2,mX,X2,F2,E1,L,Fi,pre,r1,r2,r3,r4,r5,r6,r7,r8,r9⟩:=acG hE g.rs fn.results.toList 0 hrv hr ho;obtain ⟨vs,us,Gi,m1,m2,m3,m4,m5,m6⟩:=abx r2 0 g.ps es yJ ut (by simp[hxl]) r3;have aew:pre vs=out:=Option.some.inj m1;have qB:lO g.rs out=(L,vs):=by rw[<-aew,r4]
  have hGR:∀ b i,bf L.length Fi b i<=X2 b i:=λb i=>by grind
  have aex:∀ b i,qw Gi us b i<=qw F2 us b i:=λb i=>by
   have:∀ l:List Nat,(∀ j ∈ l,j ∈ us)->qw Gi l b i<=qw F2 l b i:=by
    intro l
    induction l <;> grind [qw]
   grind
  have hGM:∀ b i,qw Gi us b i<=bf mX.n F2 b i:=λb i=>bI (aex b i) (Tv us F2 m3 m4 b i);refine ⟨r2.defers,_,R8 (by rw[r6]) r7,_,rfl,r2.ext,?_⟩
  obtain ⟨A3,sv⟩:∃ A3:Cells,∀ b i,A3 b i↔(A2 b i\/(1<=X2 b i+bf mX.n F2 b i/\bf L.length Fi b i+qw Gi us b i=0)):=⟨λb i=>A2 b i\/(1<=X2 b i+bf mX.n F2 b i/\bf L.length Fi b i+qw Gi us b i=0),λ_ _=>iG⟩
  have acH:∀ b i,A2 b i->A3 b i:=λb i h=>(sv b i).2 (.inl h);have yC:∀ b i,X2 b i+bf mX.n F2 b i<=1:=λb i=>r2.qg b i;refine ⟨A3,λb i=>bf L.length Fi b i+qw Gi us b i,bf L.length Fi,qw Gi us,λb i ha=>acH b i (r2.a0 b i ha),λb i ha=>?_,λb i hp=>?_,λb i=>?_,λb i hp ha=>?_,λb i hp=>?_,λ_ _=>aH _,?_,?_⟩
  ·rcases (sv b i).1 ha with ha | ⟨hp,_⟩
   ·exact r2.a1 b i ha
   ·exact .inr (r2.own b i hp)
  ·have hp:1<=bf L.length Fi b i+qw Gi us b i:=hp;exact r2.own b i (by grind)
  ·grind
  ·have hp:1<=bf L.length Fi b i+qw Gi us b i:=hp
   rcases (sv b i).1 ha with ha | ⟨_,hz⟩
   ·exact r2.rf b i (by grind) ha
   ·omega
  ·rcases hp with hp | ha
   ·have hp:1<=bf L.length Fi b i+qw Gi us b i:=hp;exact r2.ll b i (.inl (by grind))
   ·rcases (sv b i).1 ha with ha | ⟨hp,_⟩
    ·exact r2.ll b i (.inr ha)
    ·exact r2.ll b i (.inl hp)
  ·rw[qB]
   have U5:=r9 A3 acH (λb i hx _ hz=>(sv b i).2 (.inr ⟨by omega,by
    grind⟩))
   show oN P w' A3 L _ _
   match L,r5,U5 with
   | [],_,_=>trivial
   | [y],hl,U5=>
    match E1,hl with
    | [u],_=>
     obtain ⟨u',cs,e1,e2,e3⟩:=U5 0 y rfl;injection e1 with e1;subst e1;refine ⟨cs,by simpa using e2,e3.le λb i=>by simp[bf]⟩
   | y::z::L,hl,U5=>
    refine ⟨E1.toArray,Fi,?_,λ_ _=>aH _,λj q hq=>?_⟩
    all_goals grind
  grind [dj,PY,wi]
 refine calls_of_wp hf hc (wp_mono (abw hE c aaR Zr hk) λe a' w' hq=>?_)
 cases e with
 | normal=>obtain ⟨σ',h4,h5⟩:=hq;exact DM a' w' σ' h4 h5
 | ret=>obtain ⟨σ',h4,h5⟩:=hq;exact DM a' w' σ' h4 h5
 | exit j=>obtain ⟨σ',h4,h5⟩:=hq;cases h4
 | _=>exact hq.elim
end
end OT
namespace OT
open Go
def P2 (w:World):Cells:=λb _=>b < w.heap.size
def DN:Ty->Bool
 | .int _ | .bool | .str | .unit=>true
 | .pair a b=>DN a&&DN b
 | .aa e=>DN e
 | _=>false
def Cq:(T:Ty)->T.den->Prop
 | .int k,n=>k.min<=qM k n/\qM k n<=k.max
 | .str,s=>List.length s<=maxLen
 | .pair a b,v=>Cq a v.1/\Cq b v.2
 | .aa e,v=>List.length v<=maxLen/\∀ x ∈ (v:List e.den),Cq e x
 | _,_=>True
def XB:(ps:List (PM×Ty))->(bu (ps.map (·.2))).den->Prop
 | [],_=>True
 | (_,T)::ps,v=>Cq T v.1/\XB ps v.2
section
variable {P:Program} {w:World} {H:Type} {enc:TypeId×Value->H}
theorem JI {T:Ty} {i:TypeId} (h:bj P T (.inl i)=true):P.cellsOf i=T.sz:=by
 obtain ⟨inf,h1,h2,_⟩:=lG (mJ h);grind [Program.cellsOf]
theorem Zt {a:Addr} {k:Nat} {u:Value} (h:w.cell? (a.add k)=some u) (hk:k=0\/a.spot=none):a.spot=none:=by
 rcases hk with rfl | hk
 ·unfold Addr.add at h;rw[aG rfl] at h;unfold World.cell? at h;split at h
  all_goals simp_all
 ·exact hk
theorem abz:∀ (T:Ty),DN T=true ->
  (∀ i,bj P T (.inl i)=true->∀ fuel cs x,DataW.trod enc P w 0 (λ_=>true) true fuel i cs=some x->∃ v:T.den,Cq T v/\Ro P w (P2 w) T v cs) /\
  (∀ fs off,bj P T (.inr (fs,off))=true->∀ n (cs:List Value),cs.length=off+T.sz->(∀ f ∈ fs,∃ x,DataW.trod enc P w 0 (λ_=>true) true n f.type ((cs.drop f.offset).take (P.cellsOf f.type))=some x)->∃ v:T.den,Cq T v/\Ro P w (P2 w) T v (cs.drop off)):=by
 intro T
 induction T with
 | int k=>
  intro _;refine ⟨λi hl fuel cs x h=>?_,λfs off hl=>by simp[bj] at hl⟩
  obtain ⟨n,rfl,_,hwf⟩:=DataW.trod_int (ru hl) h;simp only[Lit.wf,aD,bA] at hwf
  cases k with
  | u8=>
   have h1:qM .u8 (UInt8.ofInt n)=n:=by
    have:=Mo .u8 n (λ_=>by
     have h1:(0:Int)<=n:=hwf.1;have h2:n<=(255:Int):=hwf.2
     omega)
    exact this
   refine ⟨(UInt8.ofInt n:UInt8),?_,?_⟩
   ·show IntKind.u8.min<=qM .u8 (UInt8.ofInt n)/\qM .u8 (UInt8.ofInt n)<=IntKind.u8.max;grind
   ·show [Value.int .u8 n]=[Value.int .u8 (qM .u8 (UInt8.ofInt n))]
    rw[h1]
  | _=>exact ⟨n,hwf,rfl⟩
 | bool=>
  intro _;refine ⟨λi hl fuel cs x h=>?_,λfs off hl=>by simp[bj] at hl⟩
  have hu:P.underlying i=some .bool:=by
   grind [bj]
  obtain ⟨b,rfl,_⟩:=DataW.trod_bool hu h;exact ⟨b,trivial,rfl⟩
 | str=>
  intro _;refine ⟨λi hl fuel cs x h=>?_,λfs off hl=>by simp[bj] at hl⟩
  obtain ⟨s,rfl,_,hsm⟩:=DataW.trod_string (nM hl) h;exact ⟨s.data.toList,(by show s.data.toList.length<=maxLen;simp_all),by simp only[Ro]⟩
 | unit=>
  intro _;refine ⟨λi hl fuel cs x h=>?_,λfs off hl n cs hlen _=>⟨(),trivial,?_⟩⟩
  ·simp only[bj,aD] at hl;have h2:=hl.2;split at h2
   ·rename_i fs hu;obtain ⟨xs,n,_,_,hlen,_⟩:=DataW.trod_struct hu h
    have ot:P.cellsOf i=0:=by
     grind [lG,Program.cellsOf,Ty.sz]
    rw[ot] at hlen;exact ⟨(),trivial,by grind [Ro]⟩
   ·cases h2
  grind [Ro,List.drop_of_length_le,Ty.sz]
 | pair a b nL nw=>
  intro ha;simp only[DN,aD] at ha
  have acI:∀ fs off,bj P (.pair a b) (.inr (fs,off))=true->∀ n (cs:List Value),cs.length=off+(Ty.pair a b).sz->(∀ f ∈ fs,∃ x,DataW.trod enc P w 0 (λ_=>true) true n f.type ((cs.drop f.offset).take (P.cellsOf f.type))=some x)->∃ v:(Ty.pair a b).den,Cq (.pair a b) v/\Ro P w (P2 w) (.pair a b) v (cs.drop off):=by
   intro fs off hl n cs hlen hf
   cases fs with
   | nil=>simp[bj] at hl
   | cons f r=>
    simp only[bj,aD,eU,dR] at hl;obtain ⟨⟨⟨ho,_⟩,h1⟩,h2⟩:=hl;simp only[Ty.sz] at hlen;obtain ⟨x,hx⟩:=hf f bF;rw[ho,JI h1] at hx;obtain ⟨v1,o1,r1⟩:=(nL ha.1).1 _ h1 _ _ _ hx;obtain ⟨v2,o2,r2⟩:=(nw ha.2).2 r (off+a.sz) h2 n cs Bys (λf' hf'=>hf f' (aX _ hf'));exact ⟨(v1,v2),⟨o1,o2⟩,r1,by simp_all⟩
  refine ⟨λi hl fuel cs x h=>?_,acI⟩
  have hl0:=hl;simp only[bj,aD] at hl;have h2:=hl.2;split at h2
  ·rename_i fs hu;split at h2
   ·rename_i f r KG
    have h3:bj P (.pair a b) (.inr (f::r,0))=true:=by
     grind [bj]
    obtain ⟨xs,n,_,_,hlen,hxl,abA⟩:=DataW.trod_struct hu h;rw[JI hl0] at hlen
    have:=acI (f::r) 0 h3 n cs Bys (λf' hf'=>by
     rw[<-KG] at hf';obtain ⟨j,hj,e⟩:=dE.1 hf';have Ba:j < fs.size:=by simpa using hj
     have:=abA j f' (by grind)
     grind)
    simpa using this
   ·cases h2
  ·cases h2
 | aa e ih=>
  intro ha;simp only[DN] at ha;refine ⟨λi hl fuel cs x h=>?_,λfs off hl=>by simp[bj] at hl⟩
  obtain ⟨el,hu,ot,hle⟩:=vO hl
  rcases DataW.trod_slice hu h with ⟨rfl,_⟩ | ⟨a,len,cap,elems,rest,n,_,rfl,_,_,hlc,hcm,sW,Zu,ry,_⟩
  ·exact ⟨[],⟨aW _,λx hx=>by cases hx⟩,none,0,rfl,aH _,λ_=>rfl,λad e=>by cases e⟩
  ·rw[JI hle] at Zu ry
   have tk:∀ k y,(w.cells? 0 (a.add (k*e.sz)) e.sz).bind (DataW.trod enc P w 0 (λ_=>true) true n el)=some y->∃ ca,w.cells? 0 (a.add (k*e.sz)) e.sz=some ca/\DataW.trod enc P w 0 (λ_=>true) true n el ca=some y:=λk y hk=>by
    cases hc:w.cells? 0 (a.add (k*e.sz)) e.sz <;> grind
   have aaS:0 < cap->a.spot=none:=λJy=>by
    have Py:∃ ca,w.cells? 0 (a.add (0*e.sz)) e.sz=some ca:=by
     by_cases hlen:0 < len
     ·have h0:=Zu 0 hlen;rw[aB Bys] at h0;obtain ⟨ca,h1,_⟩:=tk 0 _ h0;grind
     ·obtain rfl:len=0:=by omega
      obtain ⟨xv,wm⟩:=ry rfl;have h0:=wm 0 Bys;rw[aB Bys] at h0;obtain ⟨ca,h1,_⟩:=tk (0+0) _ h0;grind
    obtain ⟨ca,h1⟩:=Py;obtain ⟨_,Bc,h2⟩:=World.cells?_some h1;grind [Addr.add,Zt]
   have each:∀ k:Fin len,∃ v:e.den,Cq e v/\∃ L:List Value,L.length=e.sz/\(∀ j u,L[j]?=some u->ce w a.block (a.off+k.val*e.sz+j)=some u/\P2 w a.block (a.off+k.val*e.sz+j))/\Ro P w (P2 w) e v L:=λk=>by
    have h0:=Zu k.val k.isLt;rw[aB (by grind)] at h0;obtain ⟨ca,h1,h2⟩:=tk k.val _ h0;obtain ⟨v,ho,hv⟩:=(ih ha).1 _ hle _ _ _ h2;obtain ⟨_,Bc,h3⟩:=World.cells?_some h1;refine ⟨v,ho,ca,Bc,λj u hu=>?_,hv⟩
    have hj:=(aM.1 hu).1;have h4:=h3 j Bys;rw[hu] at h4;have qB:=aaS (by grind);obtain ⟨b,off,sp⟩:=a;simp only at qB;subst qB;rw[rF,rF] at h4;have h5:ce w b (off+k.val*e.sz+j)=some u:=Ig h4 (Ro.one e hv u (bW hu));exact ⟨h5,yH h5⟩
   obtain ⟨f,hf⟩:=fW each;refine ⟨List.ofFn f,⟨by simp;omega,λx hx=>?_⟩,some a,cap,by simp,by simpa using hlc,(λe=>by cases e),λad e=>?_⟩
   ·grind
   injection e with e;subst e;refine ⟨aaS,λk y hk=>?_⟩
   rw[List.getElem?_ofFn] at hk;split at hk
   ·rename_i a7;injection hk with hk;subst hk;exact (hf ⟨k,a7⟩).2
   ·cases hk
 | _=>grind [DN]
theorem arg_val {T:Ty} (ha:DN T=true) {i:TypeId} (hl:bj P T (.inl i)=true) {r:Reach} {b0:Nat} {v:Value} (h:Value.okWide P w r b0 i v):v=c_ T v.cells.toList:=by
 cases T with
 | int k=>
  have hu:=ru hl;cases v <;> simp[Value.okWide,Cell.okWide,Cell.ok,hu] at h <;> simp[c_,isAgg,Value.cells]
 | bool=>
  have hu:P.underlying i=some .bool:=by
   grind [bj]
  cases v <;> simp[Value.okWide,Cell.okWide,Cell.ok,hu] at h <;> simp[c_,isAgg,Value.cells]
 | str=>
  have hu:=nM hl;cases v <;> simp[Value.okWide,Cell.okWide,Cell.ok,hu] at h <;> simp[c_,isAgg,Value.cells]
 | aa e=>
  obtain ⟨el,hu,_⟩:=vO hl;cases v <;> simp[Value.okWide,Cell.okWide,Cell.ok,hu] at h <;> simp[c_,isAgg,Value.cells]
 | unit=>
  simp only[bj,aD] at hl;have h2:=hl.2;split at h2
  ·rename_i fs hu;simp only[Value.okWide,hu] at h;obtain ⟨cs,rfl,_⟩:=h;simp[c_,isAgg,Value.cells]
  ·cases h2
 | pair a b=>
  simp only[bj,aD] at hl;have h2:=hl.2;split at h2
  ·rename_i fs hu;simp only[Value.okWide,hu] at h;obtain ⟨cs,rfl,_⟩:=h;simp[c_,isAgg,Value.cells]
  ·cases h2
 | _=>simp[DN] at ha
def Dj (P:Program):List (PM×Ty)->List TypeId->Bool
 | [],[]=>true
 | (.ro,T)::ps,t::ts=>DN T&&bj P T (.inl t)&&P.readableRec t&&Nat.blt t P.types.size&&Dj P ps ts
 | _,_=>false
theorem Tw:∀ (ps:List (PM×Ty)) (ts:List TypeId) (args:List Value) (ds:List (DataW H)) (p:List MemPlace) {b0:Nat},Dj P ps ts=true->DataW.TrodAll enc P w 0 (λ_=>true) true ts args ds p ->
  (∀ (j:Nat) t v,ts[j]?=some t->args[j]?=some v->Value.okWide P w .any b0 t v)->∃ v,XB ps v/\qf P w (P2 w) PA ps v args (λ_ _=>0)
 | [],[],args,ds,p,b0,_,h,_=>by
  cases args with
  | nil=>exact ⟨(),trivial,rfl⟩
  | cons _ _=>simp[DataW.TrodAll] at h
 | (.ro,T)::ps,t::ts,args,ds,p,b0,hl,h,bd=>by
  simp only[Dj,aD] at hl
  cases args with
  | nil=>simp[DataW.TrodAll] at h
  | cons v args=>
   cases ds with
   | nil=>simp[DataW.TrodAll] at h
   | cons d ds=>
    obtain ⟨p1,q1,⟨fuel,h1⟩,h2,_⟩:=h;obtain ⟨x,hox,hx⟩:=(abz T hl.1.1.1.1).1 t hl.1.1.1.2 _ _ _ h1;obtain ⟨xs,aey,hxs⟩:=Tw ps ts args ds q1 (b0:=b0) hl.2 h2 (λj t' v' ht hv=>bd (j+1) t' v' ht hv);exact ⟨(x,xs),⟨hox,aey⟩,v,args,λ_ _=>0,λ_ _=>0,rfl,λ_ _=>aH _,⟨_,arg_val hl.1.1.1.1 hl.1.1.1.2 (bd 0 t v rfl rfl),hx⟩,hxs⟩
theorem Np (yd:laidOutB P=true) {W W':World} (hb:RowKit.Below W.heap.size W W') {sp:Nat->Bool}:∀ (ps:List (PM×Ty)) (ts:List TypeId) (args:List Value) (ds:List (DataW H)) (p:List MemPlace),Dj P ps ts=true->DataW.TrodAll enc P W 0 (λ_=>true) true ts args ds p ->
  (∀ x ∈ p,x.block < W.heap.size)->(∀ x ∈ p,sp x.block=true)->DataW.TrodAll enc P W' 0 sp true ts args ds p
 | [],[],args,ds,p,_,h,_,_=>by
  grind [DataW.TrodAll]
 | (.ro,T)::ps,t::ts,args,ds,p,hl,h,a7,qB=>by
  simp only[Dj,aD] at hl
  cases args with
  | nil=>simp[DataW.TrodAll] at h
  | cons v args=>
   cases ds with
   | nil=>simp[DataW.TrodAll] at h
   | cons d ds=>
    obtain ⟨p1,q1,h1,h2,rfl⟩:=h;have ht:t < P.types.size:=by simp_all
    exact ⟨p1,q1,WideElems.Trod_stays yd hl.1.1.2 ht h1 (λx hx=>hb.same (a7 x (dL _ hx))) (λx hx=>qB x (dL _ hx)),
     Np yd hb ps ts args ds q1 hl.2 h2 (λx hx=>a7 x (cB _ hx)) (λx hx=>qB x (cB _ hx)),rfl⟩
theorem XC {f:FuncId} {cap:Bool} {ps:List (PM×Ty)} {Fn:(bu (ps.map (·.2))).den->Option (bu ([((Ty.bool,ai .bool):Ty×Md)].map (·.1)++lN ps)).den} (hs:Sound P f { cap:=cap,ps:=ps,rs:=[(.bool,ai .bool)],F:=Fn }) (U6:∀ v,XB ps v->∃ u,Fn v=some (true,u))
  {ts:List TypeId} (hl:Dj P ps ts=true) {args:List Value} {ds:List (DataW H)} {p:List MemPlace} (hA:DataW.TrodAll enc P w 0 (λ_=>true) true ts args ds p) {b0:Nat} (bd:∀ (j:Nat) t v,ts[j]?=some t->args[j]?=some v->Value.okWide P w .any b0 t v) (ht:xG P w λ_ _=>0) :
  Calls P f args.toArray w λe W'=>e=.returned (.bool true)/\RowKit.Below w.heap.size w W':=by
 obtain ⟨v,hov,hv⟩:=Tw ps ts args ds p hl hA bd;obtain ⟨u,hu⟩:=U6 v hov;refine (hs w (P2 w) (λ_ _=>0) v args hv (λ_ _=>aW _) (λb i h=>by omega) (λb i h=>?_) ht _ hu).mono λe W' h=>?_
 ·rcases h with h | h
  ·omega
  ·exact h
 ·obtain ⟨rv,rfl,fh,A',G,GR,GM,_,_,_,_,_,_,_,vU,_⟩:=h;obtain ⟨cs,h1,h2⟩:=vU;simp only[lO] at h1 h2;have h2:cs=[.bool true]:=h2;subst h2;exact ⟨by rw[h1];rfl,fh.os,fh.tape,fh.output,fh.size,λb hb=>fh.obj b hb λ_=>rfl⟩
theorem Zv {C:Checked} {f:Func} {s:ChangeSpec} {W W':World} {args:Array Value} {ds:List (DataW H)} {p:List MemPlace} {apart fresh handsOn:Bool} (yd:laidOutB P=true) {ps:List (PM×Ty)} {ts:List TypeId} (hts:f.params.toList=ts) (hl:Dj P ps ts=true) {tb:TypeId} (hr:f.resultTypes=#[tb]) (hu:P.underlying tb=some .bool)
  (adw:s.vars=[]) (hW:DataW.Whole enc P f.params.toList s.vars apart W args.toList ds [] p) (hA:DataW.TrodAll enc P W 0 (λ_=>true) true ts args.toList ds p) (hfn:s.fn H (ds++[])={ results:=[.lit (.bool true)],args:=ds }) (hb:RowKit.Below W.heap.size W W') :
  s.post enc P f apart fresh handsOn false W args (.bool true) W':=by
 have a7:∀ x ∈ p,x.block < W.heap.size:=λx hx=>by simpa using hW.lt x hx
 refine ⟨ds,[],p,[],p,[],hW,?_,?_,?_,World.keptBut_mono (λx hx=>⟨hx,.inr (.inl hx)⟩) (hb.frame (· ∈ p)),λe=>by cases e⟩
 ·rw[hfn,hr];exact ⟨[],[],RowKit.shut_bool hu true,rfl,rfl⟩
 ·grind [Np]
 ·rw[hfn,adw];rfl
end
end OT
namespace OT
open Go
def U7 (P:Program) (l:List (Nat×Ty)):Bool:=l.all λp=>bj P p.2 (.inl p.1)
def OF (P:Program) (l:List (Nat×Ty)):Bool:=l.all λp=>!(p.2.oZ&&isAgg p.2)||(sU P p.2 (.inl p.1)&&(P.eqGuardType P.depth p.1 == false)&&Nat.ble (dep p.2) 10000)
theorem JJ {α:Type}:∀ {l:List (Nat×α)} {i:Nat} {x:α},oG l i=some x->(i,x) ∈ l
 | (k,y)::l,i,x,h=>by
  simp only[oG] at h;split at h
  ·simp_all
  ·exact aX _ (JJ h)
def GZ (P:Program) (l:List (Nat×v6)):Prop:=∀ f g,oG l f=some g->Sound P f g/\wT P f g.cap
theorem aj (P:Program):GZ P []:=λf g h=>by cases h
theorem abB {P:Program} {f:Nat} {g:v6} {l:List (Nat×v6)} (h1:Sound P f g) (h2:wT P f g.cap) (h3:GZ P l):GZ P ((f,g)::l):=λf' g' h=>by
 simp only[oG] at h;split at h
 ·simp_all
 ·exact h3 f' g' h
theorem acJ {P:Program} {E:Env} {tl:List (Nat×Ty)} {gl:List (Nat×v6)} (h1:E.TI=oG tl) (h2:E.G=oG gl) (h3:U7 P tl=true) (h4:OF P tl=true) (h5:GZ P gl):ub P E where
 ti i T h:=by rw[h1] at h;exact bJ.1 h3 _ (JJ h)
 eq i T h hq ha:=by
  rw[h1] at h;have:=bJ.1 h4 _ (JJ h);simp_all
 fn f g h:=by rw[h2] at h;exact h5 f g h
def Ok (P:Program) (f:FuncId) (g:v6):Prop:=Sound P f g/\wT P f g.cap
theorem fc {P:Program} {f:Nat} {g:v6} {l:List (Nat×v6)} (h:Ok P f g) (h3:GZ P l):GZ P ((f,g)::l):=abB h.1 h.2 h3
def P3 (fn:Func) (cap:Bool):Bool:=!(fn.name == "runtime.NumGoroutine")&&!fn.body.isNone&&Nat.beq fn.nfree (match cap with | true=>1 | false=>0)
noncomputable def okB (P:Program) (E:Env) (fn:Func) (ps:PQ) (rs:RQ) (es:List Nat) (cap:Bool) (tl:TL):Bool:=(U7 P tl&&OF P tl)&&(P3 fn cap&&OE P E fn ps rs es)
theorem adx {P:Program} {E:Env} {f:FuncId} {fn:Func} (hf:P.funcs[f]?=some fn) {g:v6} (hh:∀ v H,g.Ga v H=true->H=[]) {es fr:List Nat} {tl:TL} {gl:GL} (h1:E.TI=oG tl) (h2:E.G=oG gl) (bd:okB P E fn g.ps g.rs es g.cap tl=true) (hg:GZ P gl) (hF:∀ v,g.F v=lift λk=>Ox E k fn g.ps g.rs es fr v):Ok P f g:=by
 simp only[okB,P3,aD,cD,eU] at bd;obtain ⟨⟨a1,a2⟩,⟨⟨b1,b2⟩,b3⟩,c⟩:=bd
 have hb:fn.body.isSome=true:=by
  simp_all
 exact ⟨Oi (acJ h1 h2 a1 a2 hg) hf hb hh c λv out h=>WH (by rw[<-hF];exact h),fn,hf,b1,b2,b3⟩
structure FD where
 fn:Func
 tl:TL
 ps:PQ
 rs:RQ
 gl:GL:=[]
 es:List Nat:=[]
 fr:List Nat:=[]
 cap:Bool:=false
 fz:List (Nat×Nat×Nat):=[]
 lv:List (Nat×List Nat):=[]
 lx:List (Nat×List Nat):=[]
 lf:List (Nat×List (Nat×Md)):=[]
 od:List (Nat×List Nat):=[]
 ar:List (Nat×List Nat):=[]
 bx:List (Nat×List Nat):=[]
 pd:List (Nat×List Nat):=[]
 er:List (Nat×List (Nat×Nat)):=[]
noncomputable def FD.E (D:FD):Env:={ TI:=oG D.tl,G:=oG D.gl,fz:=D.fz,lv:=D.lv,lx:=D.lx,lf:=D.lf,od:=D.od,ar:=D.ar,bx:=D.bx,pd:=D.pd,er:=D.er }
noncomputable def FD.W (D:FD) (k:Nat) (a:(bu (D.ps.map (·.2))).den):Option (bu (D.rs.map (·.1)++lN D.ps)).den:=Ox D.E k D.fn D.ps D.rs D.es D.fr a
noncomputable def FD.F (D:FD) (a:(bu (D.ps.map (·.2))).den):Option (bu (D.rs.map (·.1)++lN D.ps)).den:=lift λk=>D.W k a
noncomputable def FD.sig (D:FD):v6:={ cap:=D.cap,ps:=D.ps,rs:=D.rs,F:=D.F }
noncomputable def FD.fin (D:FD):St->Option (bu (D.rs.map (·.1)++lN D.ps)).den:=O8 D.ps D.rs D.es D.fn.results.toList (mvs D.fr)
noncomputable def FD.K0 (D:FD):KT (bu (D.rs.map (·.1)++lN D.ps)).den:=aca D.fin
noncomputable def FD.N (D:FD) (k:Nat) (p:List Nat):St->KT (bu (D.rs.map (·.1)++lN D.ps)).den->Option (bu (D.rs.map (·.1)++lN D.ps)).den:=v_ D.E k D.fin (sub p (Gz D.fn))
noncomputable def FD.L (D:FD) (k:Nat) (p live:List Nat) (C4:List (Nat×Md)) (K:KT (bu (D.rs.map (·.1)++lN D.ps)).den) (σ:St):Option (bu (D.rs.map (·.1)++lN D.ps)).den:=If (D.N k p) (gv live C4) K k σ
theorem am {P:Program} {D:FD} {f:FuncId} (hf:P.funcs[f]?=some D.fn) (ht:(U7 P D.tl&&OF P D.tl)=true) (bd:(P3 D.fn D.cap&&OE P D.E D.fn D.ps D.rs D.es)=true) (hg:GZ P D.gl):Ok P f D.sig:=
 adx (hh:=λ_ _ h=>bH.1 h) (es:=D.es) (fr:=D.fr) (tl:=D.tl) (gl:=D.gl) (E:=D.E) hf rfl rfl (by rw[okB,ht,eJ];exact bd) hg λ_=>rfl
end OT
namespace OT
open Go
theorem bi {n:Int} (h:-9223372036854775808<=n/\n<=9223372036854775807):af n=n:=by
 grind [af,IntKind.wrap_i64]
theorem ao:maxLen=9223372036854775807:=by simp[maxLen]
theorem tm {V R:Type} {B:(V->Option R)->V->Option R} (f:V->R) (I:V->Prop) (μ:V->Nat)
  (h:∀ v,I v->∀ self,B self v=some (f v)\/∃ v',B self v=self v'/\f v'=f v/\I v'/\μ v' < μ v):∀ (k:Nat) (v:V),I v->μ v < k->al B k v=some (f v)
 | 0,v,_,hk=>by omega
 | k+1,v,hI,hk=>by
  show B (al B k) v=some (f v)
  rcases h v hI (al B k) with h1 | ⟨v',h1,h2,h3,h4⟩
  ·exact h1
  ·rw[h1,tm f I μ h k v' h3 Bys,h2]
def Cr {α:Type} (e:α->α->Bool) (xs ys:List α):Bool:=(xs.zip ys).all λp=>e p.1 p.2
theorem XD {α:Type} (e:α->α->Bool) (xs ys:List α) (i:Nat) (hx:i < xs.length) (hy:i < ys.length):Cr e (xs.drop i) (ys.drop i)=(e xs[i] ys[i]&&Cr e (xs.drop (i+1)) (ys.drop (i+1))):=by
 grind [Cr,List.drop_eq_getElem_cons,List.zip_cons_cons]
theorem P4 {α:Type} {B:(Int->Option (Bool×Unit))->Int->Option (Bool×Unit)} {xs ys:List α} (e:α->α->Bool) (hlen:xs.length=ys.length) (DO:xs.length<=maxLen)
  (gb:∀ (i:Nat) (hx:i < xs.length) (hy:i < ys.length) self,B self (i:Int)=if e xs[i] ys[i]=true then self (af ((i:Int)+1)) else some (false,()))
  (pM:∀ self,B self (xs.length:Int)=some (true,())):∀ k,xs.length < k->al B k 0=some (Cr e xs ys,()):=by
 intro k hk
 have h:=tm (B:=B) (λv=>(Cr e (xs.drop v.toNat) (ys.drop v.toNat),())) (λv=>0<=v/\v<=(xs.length:Int)) (λv=>xs.length - v.toNat) (λv hv self=>by
  obtain ⟨h0,h1⟩:=hv;obtain ⟨i,rfl⟩:=dG h0;simp only[aC];by_cases hi:i < xs.length
  ·have hy:i < ys.length:=by omega
   rw[XD e xs ys i hi hy,gb i hi hy];cases he:e xs[i] ys[i] <;> grind [bi,ao]
  ·have sS:i=xs.length:=by omega
   simp_all [Cr]) k 0 ⟨by omega,by omega⟩ (by simpa using hk)
 simpa using h
theorem XE {α:Type} {B:((List α×Int)->Option (List α×Unit))->(List α×Int)->Option (List α×Unit)} {xs:List α} (DO:xs.length<=maxLen)
  (gb:∀ (i:Nat) (hx:i < xs.length) (acc:List α) self,acc.length=xs.length->B self (acc,(i:Int))=self (acc.set i xs[i],af ((i:Int)+1)))
  (pM:∀ acc self,B self (acc,(xs.length:Int))=some (acc,())) (z:α):∀ k,xs.length < k->al B k (List.replicate xs.length z,0)=some (xs,()):=by
 intro k hk;refine tm (B:=B) (λ_=>(xs,())) (λv=>0<=v.2/\v.2<=(xs.length:Int)/\v.1.length=xs.length/\∀ j,j < v.2.toNat->v.1[j]?=xs[j]?) (λv=>xs.length - v.2.toNat) (λv hv self=>?_) k _ ⟨by simp,by simp,by simp,by simp⟩ (by simpa using hk);obtain ⟨acc,i⟩:=v;obtain ⟨h0,h1,h2,h3⟩:=hv;simp only at h0 h1 h2 h3;obtain ⟨i,rfl⟩:=dG h0;simp only[aC] at h3 ⊢;by_cases hi:i < xs.length
 ·right;have hw:af ((i:Int)+1)=((i+1:Nat):Int):=by grind [bi,ao]
  refine ⟨(acc.set i xs[i],((i+1:Nat):Int)),by grind,trivial,⟨by omega,by grind,by simpa using h2,λj hj=>?_⟩,?_⟩
  all_goals grind
 ·have sS:i=xs.length:=by omega
  subst sS;left;rw[pM]
  have:acc=xs:=dT λj=>by
   grind
  rw[this]
end OT
namespace OT
open Go
theorem Cs {V R:Type} (B:(V->Option R)->V->Option R) (k:Nat) (v:V):al B (k+1) v=B (al B k) v:=rfl
def kK {α:Type} (f:α->Nat):List α->Nat
 | []=>0
 | x::xs=>f x+kK f xs
theorem P5 {α:Type} (f:α->Nat):∀ (xs:List α) (x:α),x ∈ xs->f x<=kK f xs
 | y::xs,x,h=>by
  simp only[kK];rcases bB.1 h with rfl | h
  ·omega
  ·have:=P5 f xs x h;omega
 | [],_,h=>by cases h
theorem IZ {α:Type} (f:α->Nat):∀ (xs ys:List α),kK f (xs++ys)=kK f xs+kK f ys
 | [],ys=>by simp[kK]
 | x::xs,ys=>by simp only[dA,kK,IZ f xs ys];omega
theorem Dk {α:Type} (f:α->Nat) (h:∀ x,f x=0):∀ (xs:List α),kK f xs=0
 | []=>rfl
 | x::xs=>by simp[kK,h x,Dk f h xs]
theorem Tz {α:Type} (f:α->Nat):∀ (xs:List α),kK (λx=>32*(f x+1)) xs=32*(xs.length+kK f xs)
 | []=>rfl
 | x::xs=>by simp only[kK,Tz f xs,aZ];omega
def zz:(t:Ty)->t.den->Nat
 | .str,v=>List.length v
 | .pair a b,v=>zz a v.1+zz b v.2
 | .aa e,v=>List.length v+kK (zz e) v
 | _,_=>0
theorem P6 {e:Ty} {xs:List e.den} {x:e.den} (h:x ∈ xs):zz e x+1<=zz (.aa e) xs:=by
 have:=P5 (zz e) xs x h;have:1<=xs.length:=List.length_pos_of_mem h;show _<=List.length xs+_;omega
theorem P7 {e:Ty} (xs:List e.den):xs.length<=zz (.aa e) xs:=gJ _ _
theorem Mx {e:Ty} (x:e.den) (xs:List e.den):zz (.aa e) (x::xs)=zz e x+1+zz (.aa e) xs:=by
 grind [zz,kK]
theorem wA {e:Ty} (xs ys:List e.den):zz (.aa e) (xs++ys)=zz (.aa e) xs+zz (.aa e) ys:=by
 grind [zz,IZ]
def wB (n:Int) (z:Nat):Int:=if (z:Int)<=n then n - z else -1
theorem abC {α:Type} {B:((Int×Int)->Option (Int×Unit))->(Int×Int)->Option (Int×Unit)} {xs:List α} (DO:xs.length<=maxLen) (z:α->Nat)
  (gb:∀ (i:Nat) (hx:i < xs.length) (n:Int) self,0<=n->n<=1048576->B self (n,(i:Int))=if wB n (z xs[i]) < 0 then some (-1,()) else self (wB n (z xs[i]),af ((i:Int)+1)))
  (pM:∀ n self,B self (n,(xs.length:Int))=some (n,())) (n:Int) (h0:0<=n) (h1:n<=1048576) :
  ∀ k,xs.length < k->al B k (n,0)=some (wB n (kK z xs),()):=by
 have main:∀ (m i:Nat) (n:Int),xs.length - i=m->i<=xs.length->0<=n->n<=1048576->∀ k,m < k->al B k (n,(i:Int))=some (wB n (kK z (xs.drop i)),()):=by
  intro m
  induction m with
  | zero=>
   intro i n hm hi h0 h1 k hk;have sS:i=xs.length:=by omega
   subst sS;cases k <;> grind [al,wB,kK]
  | succ m ih=>
   intro i n hm hi h0 h1 k hk;have a7:i < xs.length:=by omega
   rw[cJ a7];simp only[kK]
   cases k with
   | zero=>omega
   | succ k=>
    show B (al B k) _=_;rw[gb i a7 n _ h0 h1];by_cases hz:(z xs[i]:Int)<=n
    ·have e:wB n (z xs[i])=n - (z xs[i]:Int):=aG hz;have aez:¬ (n - (z xs[i]:Int) < 0):=by omega
     have hw:af ((i:Int)+1)=((i+1:Nat):Int):=by grind [bi,ao]
     rw[e,aL aez,hw,ih (i+1) _ Bys Bys Bys Bys k Bys];grind [wB]
    grind [wB]
 intro k hk
 simpa using main xs.length 0 n Bys Bys h0 h1 k hk
theorem abD {n:Int} {a b:Nat} (h:(a:Int)<=n):wB (n - a) b=wB n (a+b):=by
 grind [wB]
theorem Ct {α:Type} (xs:List α) (i:Nat) (a:α) (h:i < xs.length):(xs.set i a)[i]?=some a:=by simp[h]
def qj:Int:=4611686018427387904
def chain {α:Type} (E:α->Int->α->Int->Prop) (W:α->Nat):List α->Int->List α->Int->Prop
 | [],k,ys,k'=>ys=[]/\k'=k
 | x::xs,k,ys,k'=>∃ y Nq k1,ys=y::Nq/\0<=k/\k+W x<=qj/\k<=k1/\k1<=k+W x/\E x k y k1/\chain E W xs k1 Nq k'
theorem XF {α:Type} {B:((List α×Int×Int)->Option (Int×List α×Unit))->(List α×Int×Int)->Option (Int×List α×Unit)} {xs:List α} (DO:xs.length<=maxLen) (E:α->Int->α->Int->Prop) (W:α->Nat)
  (hE:∀ x ∈ xs,∀ k:Int,0<=k->k+W x<=qj->∃ y k',k<=k'/\k'<=k+W x/\E x k y k')
  (gb:∀ (i:Nat) (acc:List α) (k:Int) self (x y:α) (k':Int),i < acc.length->acc[i]?=some x->0<=k->k+W x<=qj->k<=k'->k'<=k+W x->E x k y k'->B self (acc,k,(i:Int))=self (acc.set i y,k',af ((i:Int)+1)))
  (pM:∀ (acc:List α) (k:Int) self,B self (acc,k,(acc.length:Int))=some (k,acc,())) (k:Int) (h0:0<=k) (h1:k+kK W xs<=qj) :
  ∃ ys k',k<=k'/\k'<=k+kK W xs/\ys.length=xs.length/\chain E W xs k ys k'/\∀ f,xs.length < f->al B f (xs,k,0)=some (k',ys,()):=by
 have main:∀ (rest pre:List α) (k:Int),(pre++rest).length<=maxLen->(∀ x ∈ rest,x ∈ xs)->0<=k->k+kK W rest<=qj ->
   ∃ ys k',k<=k'/\k'<=k+kK W rest/\ys.length=rest.length/\chain E W rest k ys k'/\∀ f,rest.length < f->al B f (pre++rest,k,(pre.length:Int))=some (k',pre++ys,()):=by
  intro rest
  induction rest with
  | nil=>
   intro pre k hm _ h0 h1;refine ⟨[],k,fD _,by simp[kK],rfl,⟨rfl,rfl⟩,λf hf=>?_⟩
   cases f with
   | zero=>simp at hf
   | succ f=>
    simp only[cV];exact pM pre k _
  | cons x rest ih=>
   intro pre k hm hx h0 h1;simp only[kK] at h1;obtain ⟨y,k1,g1,g2,g3⟩:=hE x (hx x bF) k h0 Bys;obtain ⟨ys,k',i1,i2,i3,i4,i5⟩:=ih (pre++[y]) k1 (by simpa using hm) (λz hz=>hx z (aX _ hz)) Bys Bys;refine ⟨y::ys,k',by omega,by grind [kK],by simp[i3],⟨y,ys,k1,rfl,h0,by omega,g1,g2,g3,i4⟩,λf hf=>?_⟩
   cases f with
   | zero=>omega
   | succ f=>
    show B (al B f) _=_;have hlen:pre.length < (pre++x::rest).length:=by simp
    rw[gb pre.length (pre++x::rest) k _ x y k1 hlen (by simp) h0 Bys g1 g2 g3];grind [ao,bi]
 obtain ⟨ys,k',i1,i2,i3,i4,i5⟩:=main xs [] k (by simpa using DO) (λx h=>h) h0 h1;grind
theorem XG {α:Type} {ys:List α} {B:((Int×Int)->Option (Int×Unit))->(Int×Int)->Option (Int×Unit)} {xs:List α} {k k':Int} (DO:ys.length<=maxLen) {E:α->Int->α->Int->Prop} {W:α->Nat} (hc:chain E W xs k ys k')
  (gb:∀ (i:Nat) (k:Int) self (x y:α) (k':Int),i < ys.length->ys[i]?=some y->0<=k->k+W x<=qj->k<=k'->k'<=k+W x->E x k y k'->B self (k,(i:Int))=self (k',af ((i:Int)+1)))
  (pM:∀ (k:Int) self,B self (k,(ys.length:Int))=some (k,())):∀ f,ys.length < f->al B f (k,0)=some (k',()):=by
 have main:∀ (xs Nq pre:List α) (k:Int),pre++Nq=ys->chain E W xs k Nq k'->∀ f,Nq.length < f->al B f (k,(pre.length:Int))=some (k',()):=by
  intro xs
  induction xs with
  | nil=>
   intro Nq pre k hp hc f hf;obtain ⟨rfl,rfl⟩:=hc;cases f <;> grind [al]
  | cons x xs ih=>
   intro Nq pre k hp hc f hf;obtain ⟨y,ys2,k1,rfl,c1,c2,c3,c4,c5,c6⟩:=hc
   cases f with
   | zero=>omega
   | succ f=>
    show B (al B f) _=_;have hl:pre.length < ys.length:=by grind
    rw[gb pre.length k _ x y k1 hl (by grind) c1 c2 c3 c4 c5]
    have hw:af ((pre.length:Int)+1)=(((pre++[y]).length:Nat):Int):=by
     grind [ao,bi]
    grind
 intro f hf
 simpa using main xs ys [] k rfl hc f hf
end OT
namespace OT
open Go
theorem toG {e:Ty} {W:List e.den->Nat->Option (List e.den×Unit)} {z:e.den} {f:e.den->Option (e.den×Unit)}
  (hW:∀ x k,W x k=if 0<=(x.length:Int)/\(x.length:Int)<=(x.length:Int)/\(x.length:Int)<=(cg:Int) then (al (λ(self:(List e.den×Int)->Option (List e.den×Unit)) v=>bif decide (v.2 < (x.length:Int)) then (if 0<=v.2 then ((x[v.2.toNat]?).bind λa=>(f a).bind λr=>if 0<=v.2/\v.2 < (v.1.length:Int) then ((v.1[v.2.toNat]?).bind λ_=>self (v.1.set v.2.toNat r.1,af (v.2+(1:Int)))) else none) else none) else some (v.1,())) k (List.replicate (x.length:Int).toNat z,(0:Int))) else none)
  (hf:∀ a,zz e a<=1048576->f a=some (a,())) (x:List e.den) (h:zz (.aa e) x<=1048576):lift (W x)=some (x,()):=by
 have hl:x.length<=1048576:=bI (P7 (e:=e) x) h;refine ag (k:=x.length+1) λk hk=>(hW x k).trans ?_;have hc:0<=(x.length:Int)/\(x.length:Int)<=(x.length:Int)/\(x.length:Int)<=(cg:Int):=by grind [cg]
 simp only[hc,cM,aK,aC];refine XE (xs:=x) (by rw[ao];omega) (λi hi acc self ha=>?_) (λacc self=>?_) _ k Bys
 ·have a7:(i:Int) < (x.length:Int):=by omega
  have Zw:(i:Int) < (acc.length:Int):=by omega
  simp only[a7,Zw,aO,aS,aN,cM,aK,aC,aB hi,aB (show i < acc.length by omega),aA,hf x[i] (by have:=P6 (e:=e) (aJ hi);omega)]
 ·simp
theorem P8 {e:Ty} {W:List e.den->Nat->Option (Bool×Unit)} {f:e.den->e.den->Option (Bool×Unit)}
  (hW:∀ x k,W x k=bif !decide ((x.length:Int)=(x.length:Int)) then some (false,()) else al (λ(self:Int->Option (Bool×Unit)) v=>bif decide (v < (x.length:Int)) then (if 0<=v then ((x[v.toNat]?).bind λa=>if 0<=v then ((x[v.toNat]?).bind λb=>(f a b).bind λr=>bif !r.1 then some (false,()) else self (af (v+(1:Int)))) else none) else none) else some (true,())) k (0:Int))
  (hf:∀ a,zz e a<=4611686018427387904->f a a=some (true,())) (x:List e.den) (h:zz (.aa e) x<=4611686018427387904):lift (W x)=some (true,()):=by
 have hl:x.length<=4611686018427387904:=bI (P7 (e:=e) x) h;refine ag (k:=x.length+1) λk hk=>(hW x k).trans ?_;simp only[aO,aU,aF];have:=λB h1 h2=>P4 (B:=B) (xs:=x) (ys:=x) (λ_ _=>true) rfl (by rw[ao];omega) h1 h2 k Bys;rw[show Cr (λ_ _=>true) x x=true by simp[Cr]] at this;refine this _ (λi hi hj self=>?_) (λself=>?_)
 ·have a7:(i:Int) < (x.length:Int):=by omega
  simp only[a7,aO,aS,aN,aK,aC,aB hi,aA,aU,aF,hf x[i] (by have:=P6 (e:=e) (aJ hi);omega)]
 ·simp
theorem szG {e:Ty} {W:List e.den->Int->Nat->Option (Int×Unit)} {f:e.den->Int->Option (Int×Unit)}
  (hW:∀ x n k,W x n k=bif decide (af (n - (x.length:Int)) < (0:Int)) then some ((-1:Int),()) else al (λ(self:Int×Int->Option (Int×Unit)) v=>bif decide (v.2 < (x.length:Int)) then (if 0<=v.2 then ((x[v.2.toNat]?).bind λa=>(f a v.1).bind λr=>bif decide (r.1 < (0:Int)) then some ((-1:Int),()) else self (r.1,af (v.2+(1:Int)))) else none) else some (v.1,())) k (af (n - (x.length:Int)),(0:Int)))
  (hf:∀ a n,Cq e a->0<=n->n<=1048576->f a n=some (wB n (zz e a),())) (x:List e.den) (n:Int) (hx:Cq (.aa e) x) (h0:0<=n) (h1:n<=1048576):lift (W x n)=some (wB n (zz (.aa e) x),()):=by
 obtain ⟨hl,sW⟩:=hx;have Ge:=hl;rw[ao] at Ge;have hw:af (n - (List.length x:Int))=n - (List.length x:Int):=bi Bys;have hz:zz (.aa e) x=List.length x+kK (zz e) x:=rfl;by_cases hc:n - (List.length x:Int) < 0
 ·rw[show wB n (zz (.aa e) x)=-1 from aL Bys];refine ag (k:=0) λk _=>(hW x n k).trans ?_;grind
 ·rw[show wB n (zz (.aa e) x)=wB (n - (List.length x:Int)) (kK (zz e) x) by grind [abD]];refine ag (k:=List.length x+1) λk hk=>(hW x n k).trans ?_;simp only[hw,hc,aI,aF];refine abC (xs:=x) hl (zz e) (λi hi m self hm0 D7=>?_) (λm self=>?_) _ Bys Bys k Bys
  all_goals grind
theorem mkC {α:Type} (z:α->Nat) {W:List α->Int->Nat->Option (Int×List α×Unit)} (E:α->Int->α->Int->Prop) {S:(List α×Int×Int->Option (Int×List α×Unit))->List α×Int×Int->Option (Int×List α×Unit)}
  (hW:∀ x k f,W x k f=al (λself v=>bif decide (v.2.2 < (v.1.length:Int)) then S self v else some (v.2.1,v.1,())) f (x,k,(0:Int)))
  (hE:∀ (x:α) (k:Int),0<=k->k+32*(((z x:Nat):Int)+1)<=qj->∃ y k',k<=k'/\k'<=k+32*(((z x:Nat):Int)+1)/\E x k y k')
  (gb:∀ (i:Nat) (acc:List α) (k:Int) self (x y:α) (k':Int),i < acc.length->acc[i]?=some x->0<=k->k+32*(((z x:Nat):Int)+1)<=qj->k<=k'->k'<=k+32*(((z x:Nat):Int)+1)->E x k y k'->(i:Int) < (acc.length:Int)->S self (acc,k,(i:Int))=self (acc.set i y,k',af ((i:Int)+1)))
  (x:List α) (k:Int) (h0:0<=k) (h1:k+32*((x.length+kK z x:Nat):Int)<=qj):∃ (k':Int) (y:List α),lift (W x k)=some (k',y,())/\y.length<=4611686018427387904/\chain E (λx=>32*(z x+1)) x k y k'/\k<=k'/\k'<=k+32*((x.length+kK z x:Nat):Int):=by
 have hB:qj=4611686018427387904:=rfl;have hs:kK (λx:α=>32*(z x+1)) x=32*(x.length+kK z x):=Tz z x
 obtain ⟨ys,k',g1,g2,g3,g4,g5⟩:=XF (B:=λself v=>bif decide (v.2.2 < (v.1.length:Int)) then S self v else some (v.2.1,v.1,())) (xs:=x) (by rw[ao];omega) E (λx:α=>32*(z x+1)) (λx hx k h0 h1=>by
   grind) (λi acc k self x y k' hi hx h0 h1 h2 h3 hE=>by
   grind) (λacc k self=>by simp) k h0 (by rw[hs];omega)
 exact ⟨k',ys,ag (k:=x.length+1) λf hf=>(hW x k f).trans (g5 f Bys),by omega,g4,g1,by grind⟩
theorem mkG {α:Type} (z:α->Nat) {W:List α->Int->Nat->Option (Int×List α×Unit)} (E:α->Int->α->Int->Prop) {S:(List α×Int×Int->Option (Int×List α×Unit))->List α×Int×Int->Option (Int×List α×Unit)}
  (hW:∀ x k f,W x k f=al (λself v=>bif decide (v.2.2 < (v.1.length:Int)) then S self v else some (v.2.1,v.1,())) f (x,k,(0:Int)))
  (hE:∀ (x:α) (k:Int),0<=k->k+32*(((z x:Nat):Int)+1)<=qj->∃ y k',k<=k'/\k'<=k+32*(((z x:Nat):Int)+1)/\E x k y k')
  (gb:∀ (i:Nat) (acc:List α) (k:Int) self (x y:α) (k':Int),i < acc.length->acc[i]?=some x->0<=k->k+32*(((z x:Nat):Int)+1)<=qj->k<=k'->k'<=k+32*(((z x:Nat):Int)+1)->E x k y k'->(i:Int) < (acc.length:Int)->S self (acc,k,(i:Int))=self (acc.set i y,k',af ((i:Int)+1)))
  (x:List α) (k:Int) (h0:0<=k) (h1:k+32*((x.length+kK z x:Nat):Int)<=qj):∃ (k':Int) (y:List α),lift (W x k)=some (k',y,())/\k<=k'/\k'<=k+32*((x.length+kK z x:Nat):Int):=by
 obtain ⟨k',y,a,b,c,d⟩:=mkC z E hW hE gb x k h0 h1;grind
theorem TA {α:Type} (z:α->Nat) {W:List α->Int->Nat->Option (Int×List α×Unit)} {W2:List α->Int->Nat->Option (Int×Unit)} (E:α->Int->α->Int->Prop) {S:(List α×Int×Int->Option (Int×List α×Unit))->List α×Int×Int->Option (Int×List α×Unit)} {S2:List α->Int->(Int×Int->Option (Int×Unit))->Int×Int->Option (Int×Unit)}
  (hW:∀ x k f,W x k f=al (λself v=>bif decide (v.2.2 < (v.1.length:Int)) then S self v else some (v.2.1,v.1,())) f (x,k,(0:Int)))
  (hW2:∀ y k f,W2 y k f=al (λself v=>bif decide (v.2 < (y.length:Int)) then S2 y k self v else some (v.1,())) f (k,(0:Int)))
  (hE:∀ (x:α) (k:Int),0<=k->k+32*(((z x:Nat):Int)+1)<=qj->∃ y k',k<=k'/\k'<=k+32*(((z x:Nat):Int)+1)/\E x k y k')
  (gb:∀ (i:Nat) (acc:List α) (k:Int) self (x y:α) (k':Int),i < acc.length->acc[i]?=some x->0<=k->k+32*(((z x:Nat):Int)+1)<=qj->k<=k'->k'<=k+32*(((z x:Nat):Int)+1)->E x k y k'->(i:Int) < (acc.length:Int)->S self (acc,k,(i:Int))=self (acc.set i y,k',af ((i:Int)+1)))
  (UG:∀ (k0:Int) (i:Nat) (ys:List α) (k:Int) self (x y:α) (k':Int),i < ys.length->ys[i]?=some y->0<=k->k+32*(((z x:Nat):Int)+1)<=qj->k<=k'->k'<=k+32*(((z x:Nat):Int)+1)->E x k y k'->(i:Int) < (ys.length:Int)->S2 ys k0 self (k,(i:Int))=self (k',af ((i:Int)+1)))
  (x:List α) (k:Int) (h0:0<=k) (h1:k+32*((x.length+kK z x:Nat):Int)<=qj):∃ (k':Int) (y:List α),lift (W x k)=some (k',y,())/\lift (W2 y k)=some (k',())/\k<=k'/\k'<=k+32*((x.length+kK z x:Nat):Int):=by
 obtain ⟨k',y,a,b,c,d⟩:=mkC z E hW hE gb x k h0 h1;refine ⟨k',y,a,ag (k:=y.length+1) λf hf=>(hW2 y k f).trans ?_,d⟩
 exact XG (B:=λself v=>bif decide (v.2 < (y.length:Int)) then S2 y k self v else some (v.1,())) (by rw[ao];omega) c (λi k self x y' k' hi hx h0 h1 h2 h3 hE=>by
   grind) (λk self=>by simp) f Bys
end OT
namespace OT
open Go
def bt {S O α:Type} (f:Nat->S->α->Sum O S) (fin:S->O):Nat->List α->S->O
 | _,[],s=>fin s
 | i,x::xs,s=>match f i s x with
  | .inl o=>o
  | .inr s'=>bt f fin (i+1) xs s'
theorem c8 {V S O α:Type} {B:(V->Option O)->V->Option O} (xs:List α) (enc:S->Int->V) (f:Nat->S->α->Sum O S) (fin:S->O) (I:Nat->S->Prop) (DO:xs.length<=maxLen)
  (gb:∀ (i:Nat) (hi:i < xs.length) (s:S) self,I i s->B self (enc s (i:Int))=match f i s xs[i] with | .inl o=>some o | .inr s'=>self (enc s' (af ((i:Int)+1))))
  (hI:∀ (i:Nat) (hi:i < xs.length) (s s':S),I i s->f i s xs[i]=.inr s'->I (i+1) s')
  (pM:∀ (s:S) self,I xs.length s->B self (enc s (xs.length:Int))=some (fin s)) (s:S) (h0:I 0 s):∀ k,xs.length < k->al B k (enc s 0)=some (bt f fin 0 xs s):=by
 have main:∀ (m i:Nat) (s:S),xs.length - i=m->i<=xs.length->I i s->∀ k,m < k->al B k (enc s (i:Int))=some (bt f fin i (xs.drop i) s):=by
  intro m
  induction m with
  | zero=>
   intro i s hm hi hs k hk;have sS:i=xs.length:=by omega
   subst sS;cases k <;> grind [al,bt]
  | succ m ih=>
   intro i s hm hi hs k hk;have a7:i < xs.length:=by omega
   cases k <;> grind [al,List.drop_eq_getElem_cons,bt,bi,ao]
 intro k hk
 simpa using main xs.length 0 s Bys Bys h0 k hk
theorem uS {O α:Type} (p:α->Bool) (bad:O) (fin:Unit->O):∀ (xs:List α) (i:Nat),bt (λ_ _ x=>if p x then .inr () else .inl bad) fin i xs ()=if xs.all p then fin () else bad
 | [],_=>rfl
 | x::xs,i=>by
  simp only[bt,eI];by_cases h:p x=true
  ·simp[h,uS p bad fin xs (i+1)]
  ·simp[h]
def oO {α:Type} (c:α->Int):List α->Int
 | []=>0
 | x::xs=>if c x=0 then oO c xs else c x
theorem E3 {O α:Type} (c:α->Int) (bad:Int->O) (fin:Unit->O):∀ (xs:List α) (i:Nat),bt (λ_ _ x=>if c x=0 then .inr () else .inl (bad (c x))) fin i xs ()=if oO c xs=0 then fin () else bad (oO c xs)
 | [],_=>rfl
 | x::xs,i=>by
  simp only[bt,oO];by_cases h:c x=0
  ·simp[h,E3 c bad fin xs (i+1)]
  ·simp[h]
theorem XH {R:Type} (a:Option R):both a a=a:=by simp[both]
theorem Ef {R α:Type} {v:List α} {a b r:Option R} (h1:v=[]->a=r) (h2:b=r):BL v a b=r:=by
 cases v <;> grind [BL,XH]
theorem c9 {n:Nat} (h:n<=200000000000):n<=cg:=by grind [cg]
end OT
namespace OT
open Go
def yO:Ty->Bool
 | .int _ | .bool | .str | .unit=>true
 | .pair a b=>yO a&&yO b
 | _=>false
def rU:(t:Ty)->t.den->List Value
 | .int k,v=>[.int k (qM k v)]
 | .bool,v=>[.bool v]
 | .str,v=>[.string ⟨List.toArray v⟩]
 | .unit,_=>[]
 | .pair a b,v=>rU a v.1++rU b v.2
 | _,_=>[]
section
variable {P:Program} {w:World} {A:Cells}
theorem xC:∀ (t:Ty),yO t=true->∀ (v:t.den),Ro P w A t v (rU t v):=by
 intro t
 induction t <;> grind [yO,Ro.length,Ro,rU]
theorem acK:∀ (t:Ty),yO t=true->∀ {v:t.den} {cs:List Value},Ro P w A t v cs->cs=rU t v:=by
 intro t
 induction t with
 | pair a b nL nw=>
  intro h v cs hr;simp only[yO,aD] at h;have h1:=nL h.1 hr.1;have h2:=nw h.2 hr.2;rw[<-cE a.sz cs,h1,h2];rfl
 | int k=>intro _ v cs h;exact h
 | bool=>intro _ v cs h;exact h
 | str=>intro _ v cs h;exact h
 | unit=>intro _ v cs h;exact h
 | _=>grind [yO]
theorem Nr:∀ (t:Ty),yO t=true->t.flat=true:=by
 intro t
 induction t <;> grind [yO,Ty.flat]
end
theorem Zx {w:World} {b i:Nat} {u:Value} {c:Array Value} {e:TypeId} {fr:Nat×Nat} (h:w.heap[b]?=some (.cells c e fr)) (hu:ce w b i=some u):c[i]?=some u:=by
 unfold ce at hu;simp only[h,World.cell?] at hu
 cases hc:c[i]? with
 | none=>grind
 | some v=>
  simp only[hc,Option.isSome_none,aE,aR,aA] at hu;rw[(GA hu).1]
theorem R9 {w:World} {b i:Nat} {u:Value} {c:Array Value} {e:TypeId} {fr:Nat×Nat} (h:w.heap[b]?=some (.cells c e fr)) (hg:c[i]?=some u) (hu:u.oneCell'=true):ce w b i=some u:=by
 grind [Ig,World.cell?]
end OT
namespace OT
open Go Go.Sort
instance ae0 (e:Ty):Inhabited e.den:=⟨e.zero⟩
noncomputable def Bm (e:Ty) (cs:e.den×e.den×Unit->Option (Int×Unit)) (v:List e.den):Option (List e.den):=open Classical in
 if List.length v<=cg then (if h:∃ cf:e.den->e.den->Int,(∀ x y,cs (x,y,())=some (cf x y,()))/\SWO (Go.Proofs.ltOf cf) then some (pdq (Go.Proofs.ltOf h.choose) v.toArray 0 v.toArray.size (Lib.bitLen v.toArray.size) true true).toList else none) else none
theorem P9 {e:Ty} {cs:e.den×e.den×Unit->Option (Int×Unit)} {cf:e.den->e.den->Int} (h1:∀ x y,cs (x,y,())=some (cf x y,())) (h2:SWO (Go.Proofs.ltOf cf)) (v:List e.den) (hl:List.length v<=cg):Bm e cs v=some (pdq (Go.Proofs.ltOf cf) v.toArray 0 v.toArray.size (Lib.bitLen v.toArray.size) true true).toList:=by
 have hex:∃ cf:e.den->e.den->Int,(∀ x y,cs (x,y,())=some (cf x y,()))/\SWO (Go.Proofs.ltOf cf):=⟨cf,h1,h2⟩
 have he:hex.choose=cf:=by
  grind
 grind [Bm]
theorem U8 {e:Ty} {cs:e.den×e.den×Unit->Option (Int×Unit)} {v r:List e.den} (h:Bm e cs v=some r):∃ cf:e.den->e.den->Int,(∀ x y,cs (x,y,())=some (cf x y,()))/\SWO (Go.Proofs.ltOf cf)/\List.length v<=cg/\r=(pdq (Go.Proofs.ltOf cf) v.toArray 0 v.toArray.size (Lib.bitLen v.toArray.size) true true).toList:=by
 grind [P9,Bm]
theorem P_ {α:Type} [Inhabited α] {lt:α->α->Bool} (h:SWO lt) (v:List α):(pdq lt v.toArray 0 v.toArray.size (Lib.bitLen v.toArray.size) true true).toList.Perm v/\(pdq lt v.toArray 0 v.toArray.size (Lib.bitLen v.toArray.size) true true).toList.Pairwise λx y=>lt y x=false:=by
 have hs:=pdq_sorts lt h v.toArray 0 v.toArray.size (Lib.bitLen v.toArray.size) true true (aW _) (aH _) (Or.inl rfl);generalize pdq lt v.toArray 0 v.toArray.size (Lib.bitLen v.toArray.size) true true=p at hs ⊢;obtain ⟨⟨h1,h2,h3⟩,h4⟩:=hs;refine ⟨?_,?_⟩
 ·grind [Array.extract_size]
 ·rw[bN];intro i j hi hj qN;have Ba:j < p.size:=by simpa using hj
  have:=h4 i j (aW _) qN Bys;grind
section
variable {P:Program}
theorem Zy {w w':World} (h:Ext w w' (λ_ _=>0)):∃ q os,w'=grow (w.drewN q) os:=by
 refine ⟨w'.drawn - w.drawn,w'.heap.extract w.heap.size w'.heap.size,?_⟩
 have hh:w'.heap=w.heap++w'.heap.extract w.heap.size w'.heap.size:=by
  apply Array.ext_getElem?;intro i;by_cases hi:i < w.heap.size
  ·rw[h.obj i hi λ_=>rfl,fQ hi]
  grind
 have h1:=h.os;have h2:=h.tape;have h3:=h.output;have h4:=h.drawn
 cases w with
 | mk heap tape drawn os output=>
  cases w' <;> grind [grow,World.drewN,World.mk.injEq]
theorem Zz {α:Type} [Inhabited α] {enc:α->List Value} {k b m:Nat} {dk:Array α} {os:Array Obj} {w:World} {F0:FP} (h:xG P w F0) (hb:1<=F0 b 0):xG P (Go.Proofs.sortWorldK enc k w b 0 m dk os) λ_ _=>0:=λe=>by
 obtain ⟨⟨w0,g,hw⟩,hs,hf⟩:=h e;grind [Go.Proofs.sortWorldK,grow,Go.Sort.putRowK,Go.Sort.putRow,Go.Sort.mapBlock,Go.Sort.ahead]
theorem ZA {e:Ty} (hs:yO e=true) (ha:isAgg e=true) {g:Nat} {cF:e.den×e.den×Unit->Option (Int×Unit)} (hg:Sound P g { ps:=[(.ro,e),(.ro,e)],rs:=[(.int .i64,ai (.int .i64))],F:=cF }) {cf:e.den->e.den->Int} (hc:∀ x y,cF (x,y,())=some (cf x y,())) (b size:Nat) (w:World) (ht:∀ m dk os,xG P (Go.Proofs.sortWorldK (rU e) e.sz w b 0 m dk os) λ_ _=>0):Go.Proofs.CmpLays P g #[] (rU e) e.sz cf b 0 size w:=by
 intro m os dk _ x y
 have mz:qf P (Go.Proofs.sortWorldK (rU e) e.sz w b 0 m dk os) (λ_ _=>False) PA [(.ro,e),(.ro,e)] (x,y,()) [.agg (rU e x).toArray,.agg (rU e y).toArray] (λ_ _=>0):=
  ⟨_,_,λ_ _=>0,λ_ _=>0,rfl,λ_ _=>aH _,⟨rU e x,by simp[c_,ha],xC e hs x⟩,_,_,λ_ _=>0,λ_ _=>0,rfl,λ_ _=>aH _,⟨rU e y,by simp[c_,ha],xC e hs y⟩,rfl⟩
 refine (hg _ (λ_ _=>False) (λ_ _=>0) (x,y,()) _ mz (λ_ _=>aW _) (λ_ _ h=>by omega) (λ_ _ h=>by grind) (ht _ _ _) (cf x y,()) (hc x y)).mono ?_;rintro ex w' ⟨rv,rfl,fh,A',G,GR,GM,_,_,_,_,_,_,_,vU,_⟩;obtain ⟨cs,h1,h2⟩:=vU;refine ⟨?_,Zy fh⟩
 have h2:cs=[.int .i64 (cf x y)]:=h2;rw[h1,h2];rfl
theorem abE {ρ:Go.Shelf.Ren} (L:Go.Proofs.SlLaysF0.n6 P ρ) {e:Ty} (hs:yO e=true) (ha:isAgg e=true) (hl:bj P e (.inl (ρ.t 24))=true) (h1:1<=e.sz) {g:Nat} {cF:e.den×e.den×Unit->Option (Int×Unit)}
  (hg:Ok P g { ps:=[(.ro,e),(.ro,e)],rs:=[(.int .i64,ai (.int .i64))],F:=cF }) (he:wT P (ρ.f 6) false) :
  Ok P (ρ.f 6) { ps:=[(.lD (ah (.aa e)),.aa e),(.fix g,.fn)],rs:=[],F:=λv=>(Bm e cF v.1).map λr=>(r,()) }:=by
 refine ⟨?_,he⟩
 intro w A F0 v xs mz hle zw JK Mw out pM;obtain ⟨vs,⟨fg,fv⟩,⟨⟩⟩:=v;obtain ⟨x,To,F1,F2,rfl,hF,⟨cs,rfl,jb⟩,x2,aeA,F3,F4,rfl,hF2,⟨⟨du,rfl,hfn⟩,aeB⟩,DH⟩:=mz;have DH:aeA=[]:=DH;subst DH;have hfg:fg=g:=aeB rfl;subst hfg;obtain ⟨AT,rfl,fn,afj,afk⟩:=hfn
 have ady:AT=#[]:=by
  obtain ⟨fn',k1,_,_,k4⟩:=hg.2;grind
 subst ady;have xA:c_ .fn [.func (.func fg) #[] #[]]=.func (.func fg) #[] #[]:=rfl;have pM:(Bm e cF vs).map (λr=>(r,()))=some out:=pM
 cases aaT:Bm e cF vs with
 | none=>grind
 | some r=>
 rw[aaT] at pM;injection pM with pM;subst pM;obtain ⟨cf,hc,hO,pL,hr⟩:=U8 aaT;have U9:=P_ hO vs;rw[<-hr] at U9;have aaH:=jb;simp only[an,hole,bX,aE,aR,ah,vT,Md.own,aK] at jb;obtain ⟨xa,cap,rfl,g2,g3,g4,g5⟩:=jb;have KJ:c_ (.aa e) [.slice xa (List.length vs) cap]=.slice xa (List.length vs) cap:=rfl;rw[xA,KJ]
 have My:∀ (w':World) (F1':FP),Ext w w' F0->(∀ b i,F1' b i<=F1 b i)->an P w' A (.aa e) (ah (.aa e)) [] r [.slice xa (List.length vs) cap] F1' ->
   ∃ rv,Ending.returned (.tuple #[])=.returned rv/\Ext w w' F0/\∃ (A':Cells) (G GR GM:FP),(∀ b i,A b i->A' b i)/\(∀ b i,A' b i->A b i\/1<=F0 b i\/w.heap.size<=b)/\(∀ b i,1<=G b i->1<=F0 b i\/w.heap.size<=b)/\(∀ b i,G b i<=1)/\(∀ b i,1<=G b i->¬ A' b i)/\(∀ b i,1<=G b i\/A' b i->b < w'.heap.size)/\(∀ b i,GR b i+GM b i<=G b i) /\
   oN P w' A' [] rv GR/\ph P w' A' [(.lD (ah (.aa e)),.aa e),(.fix fg,.fn)] (r,()) [.slice xa (List.length vs) cap,.func (.func fg) #[] #[]] GM:=λw' F1' fh hF1 hrp=>
  ⟨_,rfl,fh,A,F0,λ_ _=>0,F0,λ_ _ h=>h,λ_ _ h=>.inl h,λ_ _ h=>.inl h,hle,zw,λb i h=>cW (JK b i h) fh.size,λb i=>by grind,trivial,F1',F2,λb i=>by grind,⟨_,rfl,hrp⟩,trivial⟩
 by_cases h0:List.length vs=0
 ·have hvs:vs=[]:=cA h0
  have hrn:r=[]:=by
   have:=U9.1.length_eq;grind
  rw[h0];refine (Go.Proofs.AnyF.slices_SortFunc_none L xa cap (.func (.func fg) #[] #[]) w).mono ?_;rintro ex w' ⟨rfl,hw⟩;rw[hw];rw[h0] at My;refine My w F1 (Ext.refl _ _) (λ_ _=>aH _) ?_;grind
 ·cases xa with
  | none=>grind
  | some ad=>
   obtain ⟨q1,q2,q3,Fi,q4,q5⟩:=g5 ad rfl;obtain ⟨b,off,sp⟩:=ad;simp only at q1 q2 q3 q4 q5;subst q1;subst q2;obtain ⟨c,el,fr,c1,c2,c3,c4⟩:=q3;have hb:=(cH.1 c1).1;have ot:vs.toArray.size=List.length vs:=by simp
   have Qa:List.length vs*e.sz<=cap*e.sz:=bC _ g2;have Jy:1<=List.length vs*e.sz:=Nat.mul_le_mul (show 1<=List.length vs by omega) h1
   have tk:∀ (i:Nat) (y:e.den),vs[i]?=some y->Has w b (i*e.sz) (rU e y):=λi y hy=>by
    obtain ⟨L0,l1,l2,l3⟩:=q5 i y hy;have:=acK e hs (an.flat e (Nr e hs) l3);grind
   have hH:Go.Sort.HoldsK (rU e) e.sz w b 0 vs.toArray:=by
    intro j hj;rw[Go.Sort.size_flatK,ot] at hj;rw[bZ,Go.Sort.get_flatK _ _ _ _ (by grind)];have hi:j / e.sz < List.length vs:=by rw[fI h1];exact hj
    have hy:=aB hi;have hm:=Nat.mod_lt j h1
    have sW:(rU e (vs[j / e.sz]))[j % e.sz]?=some ((rU e (vs[j / e.sz]))[j % e.sz]!):=by
     have hlen:=Ro.length e (xC (P:=P) (w:=w) (A:=A) e hs (vs[j / e.sz]));grind
    have hce:=tk _ _ hy _ _ sW;have hdm:j / e.sz*e.sz+j % e.sz=j:=by grind [Nat.div_add_mod]
    rw[hdm] at hce;have pH:=Ro.one e (xC (P:=P) (w:=w) (A:=A) e hs (vs[j / e.sz])) _ (bW sW);have hcc:=vN hce pH;refine ⟨?_,?_⟩
    ·grind
    ·simp only[World.frozen?,c1];have:=c3 j Bys;grind
   have hb0:1<=F0 b 0:=by
    grind [dt]
   have U_:=Go.Proofs.AnyQ.slices_SortFunc_eq L e.sz (λw=>by rw[GN hl,ha]) (λw=>run_sizeOf hl) (rU e) (λy=>Ro.length e (xC (P:=P) (w:=w) (A:=A) e hs y)) (λy u hu=>Ro.one e (xC (P:=P) (w:=w) (A:=A) e hs y) u hu) cf hO fg #[] b 0 cap vs.toArray w
    (λargs w=>GV hg.2 args) (ZA hs ha hg.1 hc b _ w λm dk os=>Zz Mw hb0) hH hb (by grind [cg])
   rw[ot] at U_;refine U_.mono ?_;rintro ex w' ⟨rfl,n,os,rfl⟩;rw[ot] at hr;have Dh:(pdq (Go.Proofs.ltOf cf) vs.toArray 0 (List.length vs) (Lib.bitLen (List.length vs)) true true)=r.toArray:=by rw[hr]
   rw[Dh];have xk:r.length=List.length vs:=U9.1.length_eq
   have hold:∀ b',b' < w.heap.size->b'≠b->(Go.Proofs.sortWorldK (rU e) e.sz w b 0 n r.toArray os).heap[b']?=w.heap[b']?:=λb' Cf je=>by
    grind [Go.Proofs.sortWorldK,grow,Go.Sort.putRowK,Go.Sort.putRow,Go.Sort.mapBlock,Go.Sort.ahead]
   have zB:(Go.Proofs.sortWorldK (rU e) e.sz w b 0 n r.toArray os).heap[b]?=some (.cells (Go.Sort.putCells id 0 (Go.Sort.flatK (rU e) e.sz r.toArray) c) el fr):=by
    simp only[Go.Proofs.sortWorldK,grow,Go.Sort.putRowK,Go.Sort.putRow,Go.Sort.mapBlock,Go.Sort.ahead];rw[fQ (by simpa using hb),gF,aG rfl,c1];rfl
   have pA:(Go.Sort.putCells id 0 (Go.Sort.flatK (rU e) e.sz r.toArray) c).size=c.size:=by simp[Go.Sort.putCells]
   have fh:Ext w (Go.Proofs.sortWorldK (rU e) e.sz w b 0 n r.toArray os) F0:=by
    have jI:∀ i,i < cap*e.sz->1<=F0 b i:=λi hi=>by
     grind [dt]
    refine ⟨?_,λb' i Cf hz u hu=>?_,λb' m hm=>?_,λb' i Cf=>?_,rfl,rfl,rfl,λb' Cf hz=>?_,gJ _ _⟩
    ·grind
    ·by_cases Nb:b'=b
     ·subst Nb;have hi:¬ i < cap*e.sz:=λhi=>by grind
      exfalso;have:=Zx c1 hu;grind
     grind [BQ]
    ·by_cases Nb:b'=b
     ·subst Nb;obtain ⟨c',e',f',m1,m2,m3⟩:=hm;rw[c1] at m1;injection m1 with m1;injection m1 with m1 m4 m5;subst m1;subst m4;subst m5;exact ⟨_,_,_,zB,by grind,m3⟩
     ·have Cf:b' < w.heap.size:=hm.lt;grind [yL]
    ·by_cases Nb:b'=b
     ·grind [World.frozen?]
     grind [zX]
    grind
   refine My _ F1 fh (λ_ _=>aH _) ?_;simp only[an,hole,bX,aE,aR,ah,vT,Md.own,aK];refine ⟨some ⟨b,0,none⟩,cap,by rw[xk],by grind,g3,(λe=>by cases e),λad e2=>?_⟩
   injection e2 with e2;subst e2;refine ⟨rfl,rfl,⟨_,_,_,zB,by grind,c3,c4⟩,λ_ _ _=>0,λb' i=>?_,λi y hy=>?_⟩
   ·have h3:=q4 b' i
    have h4:bf (List.length r) (λ_ _ _=>0) b' i=0:=by
     generalize List.length r=nn
     induction nn <;> grind [bf]
    grind
   ·refine ⟨rU e y,Ro.length e (xC (P:=P) (w:=w) (A:=A) e hs y),λj u hu=>?_,?_⟩
    ·have hj:=(aM.1 hu).1;have hlen:=Ro.length e (xC (P:=P) (w:=w) (A:=A) e hs y);have hi:=(aM.1 hy).1
     have qN:i*e.sz+j < r.length*e.sz:=by
      have:=bC e.sz (show i+1<=r.length from hi);grind
     have hdiv:(i*e.sz+j) / e.sz=i:=(Go.Sort.blk_iff e.sz i _ h1).1 ⟨by omega,by omega⟩;have afl:(i*e.sz+j) % e.sz=j:=by grind [Nat.mod_eq_sub_div_mul]
     have xm:(Go.Sort.putCells id 0 (Go.Sort.flatK (rU e) e.sz r.toArray) c)[i*e.sz+j]?=some u:=by
      have a7:i*e.sz+j < c.size:=by grind
      grind [Go.Sort.putCells,Go.Sort.size_flatK,Go.Sort.get_flatK]
     have pH:=Ro.one e (xC (P:=P) (w:=w) (A:=A) e hs y) _ (bW hu);grind [R9]
    grind [Ro.flat,Nr,xC]
end
end OT
