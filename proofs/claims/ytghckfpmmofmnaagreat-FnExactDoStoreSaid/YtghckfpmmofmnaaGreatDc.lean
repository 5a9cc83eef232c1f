/- The proof's parts, merged: Maps  made, asked, turned.. No conditions but those that each states. -/
import Derived.Test.YtghckfpmmofmnaaGreatDb
import Derived.MapKept
import Derived.WideMake
import Derived.OrdersHeld
import Derived.LoopN
import Derived.Scope
import Derived.ProofKit
import Derived.Deep.Slices
import Derived.Laws.BitsLemmas
import Derived.Shelf.SlSortCmp.NoneTotal
set_option linter.unusedVariables false
set_option linter.unusedSimpArgs false
namespace OT
open Go
section
variable {P:Program} {w:World} {A:Cells}
def LH:Value->Bool
 | .int _ _ | .bool _ | .string _=>true
 | _=>false
theorem Ro.simple:∀ (t:Ty) {v:t.den} {cs:List Value},t.oZ=true->Ro P w A t v cs->∀ x ∈ cs,LH x=true:=by
 intro t
 induction t with
 | int k=>intro v cs _ h x hx;simp only[Ro] at h;subst h;simp at hx;subst hx;rfl
 | bool=>intro v cs _ h x hx;simp only[Ro] at h;subst h;simp at hx;subst hx;rfl
 | str=>intro v cs _ h x hx;simp only[Ro] at h;subst h;simp at hx;subst hx;rfl
 | unit=>grind [Ro]
 | pair a b nz nr=>
  intro v cs he h x hx;simp only[Ty.oZ,aD] at he;rw[<-cP a.sz cs] at hx;rcases bO.1 hx with hx | hx
  ·exact nz he.1 h.1 x hx
  ·exact nr he.2 h.2 x hx
 | arr n e ih=>
  intro v cs he h x hx;obtain ⟨_,hv,hl,hr⟩:=h;obtain ⟨j,hj,rfl⟩:=cV.1 hx
  have hs:0 < e.sz:=by
   grind
  have hi:j / e.sz < n:=by
   rw[eY hs];omega
  have h1:=hr (j / e.sz) _ (aB Bys);refine ih he h1 _ (eZ.2 ⟨j % e.sz,?_⟩);grind [Nat.mod_lt,Nat.div_add_mod]
 | _=>grind [Ty.oZ]
theorem QY {x:Value} (h:LH x=true) (n:Nat):Instr.sameBits n x x=true:=by
 cases x <;> simp[LH] at h <;> cases n <;> simp[Instr.sameBits,MapKept.bytes_beq]
theorem Wq {t:Ty} {v:t.den} {cs:List Value} (ha:isAgg t=true) (he:t.oZ=true) (h:Ro P w A t v cs):Instr.sameBits 10000 (dm t cs) (dm t cs)=true:=by
 have hs:=Ro.simple t he h;simp only[dm,ha,aH,Instr.sameBits,beq_self_eq_true,dT,bG];rintro ⟨x,y⟩ uO;have hz:(x,y) ∈ cs.zip cs:=by simpa using uO
 have SA:x=y/\x ∈ cs:=by
  clear h hs uO
  induction cs with
  | nil=>simp at hz
  | cons c cs ih=>
   grind [List.zip_cons_cons]
 grind [QY]
theorem OL:∀ (t:Ty),(∀ (i:TypeId) (d:Nat) (e:Bool) (v:t.den) (cs:List Value),bn P t (.inl i)=true->sT P t (.inl i)=true->dep t<=d->Ro P w A t v cs->(Instr.checkKey e d i (dm t cs)).run P w=.ok () w) /\
  (∀ (fs:List Field) (off d:Nat) (e:Bool) (v:t.den) (xs:Array Value),bn P t (.inr (fs,off))=true->sT P t (.inr fs)=true->dep t<=d+1->Ro P w A t v (xs.toList.drop off) ->
   (forIn fs PUnit.unit λf _=>(if f.name ≠ "_" then do
     let x <- part f.type xs f.offset
     Instr.checkKey e d f.type x
     pure (ForInStep.yield PUnit.unit)
    else pure (ForInStep.yield PUnit.unit):Sem (ForInStep PUnit))).run P w=.ok () w):=by
 intro t
 induction t with
 | int k=>
  refine ⟨λi d e v cs hl he hd h=>?_,λfs off d e v xs hl=>by simp[bn] at hl⟩
  simp only[Ro] at h;subst h
  cases d with
  | zero=>simp[dep] at hd
  | succ d=>rw[eo _ _ rfl];simp[Instr.checkKey,run_underlying (rn hl)]
 | bool=>
  refine ⟨λi d e v cs hl he hd h=>?_,λfs off d e v xs hl=>by simp[bn] at hl⟩
  simp only[Ro] at h;subst h
  have hu:P.underlying i=some .bool:=by
   grind [bn]
  cases d <;> simp_all [dep,Instr.checkKey,run_underlying]
 | str=>
  refine ⟨λi d e v cs hl he hd h=>?_,λfs off d e v xs hl=>by simp[bn] at hl⟩
  simp only[Ro] at h;subst h;cases d <;> simp_all [dep,Instr.checkKey,run_underlying,nA]
 | unit=>
  refine ⟨λi d e v cs hl he hd h=>?_,λfs off d e v xs hl he hd h=>?_⟩
  ·simp only[Ro] at h;subst h;simp only[bn,aD] at hl;have h3:=hl.2;split at h3
   ·rename_i fs hu;have Dr:fs.toList=[]:=bC.1 h3
    cases d with
    | zero=>simp[dep] at hd
    | succ d=>
     show (Instr.checkKey e (d+1) i (.agg #[])).run P w=_;simp_all [Instr.checkKey,run_underlying]
   ·cases h3
  simp_all [bn]
 | pair a b nz nr=>
  have second:∀ (fs:List Field) (off d:Nat) (e:Bool) (v:(Ty.pair a b).den) (xs:Array Value),bn P (.pair a b) (.inr (fs,off))=true->sT P (.pair a b) (.inr fs)=true->dep (.pair a b)<=d+1->Ro P w A (.pair a b) v (xs.toList.drop off) ->
    (forIn fs PUnit.unit λf _=>(if f.name ≠ "_" then do
      let x <- part f.type xs f.offset
      Instr.checkKey e d f.type x
      pure (ForInStep.yield PUnit.unit)
     else pure (ForInStep.yield PUnit.unit):Sem (ForInStep PUnit))).run P w=.ok () w:=by
   intro fs off d e v xs hl he hd h1
   cases fs with
   | nil=>simp_all
   | cons f r=>
    simp only[bn,aD,eI,dK] at hl;simp only[sT,aD,bne_iff_ne,ne_eq] at he;simp only[dep] at hd;obtain ⟨Wc,Wd⟩:=h1;have p1:=wh (P:=P) (w:=w) hl.1.2 (cs:=xs) (off:=off) (Ro.length _ Wc);have e1:=nz.1 f.type d e v.1 _ hl.1.2 he.1.2 Bys Wc;rw[dE] at Wd;have e2:=nr.2 r (off+a.sz) d e v.2 xs hl.2 he.2 Bys Wd;simp_all
  refine ⟨λi d e v cs hl he hd h=>?_,second⟩
  simp only[bn,aD] at hl;simp only[sT,aD,cC] at he;have h3:=hl.2;have h4:=he.2;split at h3
  ·rename_i fs hu;rw[hu] at h4;simp only at h4;split at h3
   ·rename_i f r JY;rw[JY] at h4;simp only at h4
    cases d with
    | zero=>grind [dep]
    | succ d=>
     show (Instr.checkKey e (d+1) i (.agg cs.toArray)).run P w=_;rw[Instr.checkKey];simp only[Sem.run_bind,run_underlying hu,Result.andThen_ok];rw[<-Array.forIn_toList,JY];have:=second (f::r) 0 d e v cs.toArray (by grind [bn]) (by grind [sT]) hd (by simpa using h);rw[this];rfl
   ·cases h3
  ·cases h3
 | arr n e ih=>
  refine ⟨λi d em v cs hl he hd h=>?_,λfs off d em v xs hl=>by simp[bn] at hl⟩
  simp only[bn,aD] at hl;have h3:=hl.2;simp only[sT] at he;split at h3
  ·rename_i n' el hu;simp only[aD,eI,dK] at h3;obtain ⟨⟨rfl,_⟩,hle⟩:=h3;rw[hu] at he;simp only at he;obtain ⟨inf,i1,i2,_⟩:=lD (mG hle);have ol:P.cellsOf el=e.sz:=by grind [Program.cellsOf]
   obtain ⟨_,l1,_,r1⟩:=h
   cases d with
   | zero=>simp[dep] at hd
   | succ d=>
    simp only[dep] at hd;show (Instr.checkKey em (d+1) i (.agg cs.toArray)).run P w=_;rw[Instr.checkKey];simp only[Sem.run_bind,run_underlying hu,Result.andThen_ok,Std.Legacy.Range.forIn_eq_forIn_range',Std.Legacy.Range.size,Nat.sub_zero,Nat.add_one_sub_one,Nat.div_one]
    have key:∀ (m j:Nat),j+m=n->(forIn (List.range' j m) PUnit.unit λi _=>(do
       let x <- part el cs.toArray (i*(<- Go.sizeOf el))
       Instr.checkKey em d el x
       pure (ForInStep.yield PUnit.unit):Sem (ForInStep PUnit))).run P w=.ok () w:=by
     intro m
     induction m with
     | zero=>simp_all
     | succ m ihm=>
      intro j hj;have a1:=r1 j _ (aB (l:=v) (i:=j) Bys);have p1:=wh (P:=P) (w:=w) hle (cs:=cs.toArray) (off:=j*e.sz) (Ro.length _ a1);have e1:=ih.1 el d em _ _ hle he Bys a1;rw[gR];simp only[List.forIn_cons,Sem.run_bind,run_sizeOf hle,p1,e1,Result.andThen_ok,Sem.run_pure];grind
    simp_all
  ·cases h3
 | _=>grind [sT]
def EC (P:Program) (w:World) (A:Cells) (k v:Ty) (es:List (Value×Value)) (m:List (k.den×v.den)):Prop:=
 es.length=m.length/\∀ (i:Nat) (y:k.den×v.den),m[i]?=some y->∃ (kc vc:List Value),es[i]?=some (dm k kc,dm v vc)/\Ro P w A k y.1 kc/\Ro P w A v y.2 vc
structure NI (P:Program) (k:Ty) (i:TypeId):Prop where
 lay:bn P k (.inl i)=true
 agg:isAgg k=true
 oZ:k.oZ=true
 flat:k.flat=true
 sT:sT P k (.inl i)=true
 dep:dep k<=9000
theorem LI {k v:Ty} {i:TypeId} (h:bn P (.map k v) (.inl i)=true):∃ ki vi,P.underlying i=some (.map ki vi)/\NI P k ki/\bn P v (.inl vi)=true/\Z5 P v vi=true:=by
 simp only[bn,aD] at h;have h2:=h.2;split at h2
 ·rename_i ki vi hu;simp only[aD,abQ,dK] at h2;obtain ⟨⟨⟨h3,h4⟩,⟨⟨⟨⟨h5,h6⟩,h7⟩,h8⟩,h9⟩⟩,Im⟩:=h2;exact ⟨ki,vi,hu,⟨h3,h5,h6,h7,h8,h9⟩,h4,Im⟩
 ·cases h2
theorem Wr {k v:Ty} {ki:TypeId} (K:NI P k ki) {x:k.den} {xc:List Value} (hx:Ro P w A k x xc):∀ (es:List MapEntry) (m:List (k.den×v.den)) (i:Nat),EC P w A k v (es.map λe=>(e.key,e.val)) m ->
  (Instr.findAsking ki (dm k xc) es i).run P w=.ok ((m.findIdx? λy=>k.eq x y.1).bind λj=>(es[j]?).map λe=>(i+j,e.val)) w:=by
 intro es
 induction es with
 | nil=>
  simp_all [Instr.findAsking]
 | cons e es ih=>
  intro m i h
  cases m with
  | nil=>have:=h.1;simp at this
  | cons y m=>
   obtain ⟨kc,vc,h1,h2,h3⟩:=h.2 0 y rfl;simp only[dR,eS,aQ,bJ] at h1;have heq:(Op.equal ki (dm k xc) (dm k kc)).run P w=.ok (k.eq x y.1) w:=(Z_ (P:=P) (w:=w) (A:=A) k).1 ki Op.maxDepth x y.1 xc kc K.lay K.sT (by have:=K.dep;grind [Op.maxDepth]) hx h2
   have rq:EC P w A k v (es.map λe=>(e.key,e.val)) m:=⟨by have:=h.1;simpa using this,λj z hz=>by
    have:=h.2 (j+1) z (by simpa using hz)
    simpa using this⟩
   simp only[Instr.findAsking,Sem.run_bind,h1.1,heq,Result.andThen_ok,List.findIdx?_cons]
   cases hq:k.eq x y.1 with
   | true=>simp
   | false=>
    simp only[aF,aS,ih m (i+1) rq,Option.bind_map];congr 2;grind
theorem Ws {k:Ty} {ki:TypeId} (K:NI P k ki):∃ d,P.underlying ki=some d/\∀ x y,Instr.sameNow d x y=none:=by
 have hl:=K.lay;have ha:=K.agg;have he:=K.oZ
 cases k with
 | pair a b=>
  simp only[bn,aD] at hl;have h3:=hl.2;split at h3
  ·rename_i fs hu;exact ⟨_,hu,λ_ _=>rfl⟩
  ·cases h3
 | unit=>
  simp only[bn,aD] at hl;have h3:=hl.2;split at h3
  ·rename_i fs hu;exact ⟨_,hu,λ_ _=>rfl⟩
  ·cases h3
 | arr n e=>
  simp only[bn,aD] at hl;have h3:=hl.2;split at h3
  ·rename_i n' el hu;exact ⟨_,hu,λ_ _=>rfl⟩
  ·cases h3
 | _=>simp[isAgg] at ha
theorem SB {k v:Ty} {ki:TypeId} (K:NI P k ki) {x:k.den} {xc:List Value} (hx:Ro P w A k x xc) {es:List MapEntry} {m:List (k.den×v.den)} (h:EC P w A k v (es.map λe=>(e.key,e.val)) m) :
  (Instr.findKey ki (dm k xc) es).run P w=.ok ((m.findIdx? λy=>k.eq x y.1).bind λj=>(es[j]?).map λe=>(j,e.val)) w:=by
 obtain ⟨d,hu,hd⟩:=Ws K;have ha:=Wr (v:=v) K hx es m 0 h;simp only[bQ] at ha;unfold Instr.findKey;simp only[Sem.run_bind,run_underlying hu,Result.andThen_ok];cases es <;> simp_all [Instr.findNow]
theorem Gy {k v:Ty} {m:Md} {y:List (k.den×v.den)} {cs:List Value} {F:FP} (h:au P w A (.map k v) m [] y cs F) :
  k.flat=true/\v.flat=true/\∃ (r:Nat) (es:Array MapEntry) (clock:Nat),cs=[.map (some r)]/\w.heap[r]?=some (.map es clock)/\EC P w A k v (es.toList.map λe=>(e.key,e.val)) y/\(m.own=true->1<=F r 0):=by
 simp only[au,hole,bP,aF,aS] at h;split at h
 ·rename_i hm;obtain ⟨h1,h2,r,vx,h3,h4,h5,h6,h7⟩:=h;obtain ⟨es,clock,q1,q2⟩:=VQ h4;refine ⟨h1,h2,r,es,clock,h3,q1,?_,λ_=>h5⟩
  have q2:(es.toList.map λe=>(e.key,e.val))=vx:=q2;rw[q2];exact ⟨h6,h7⟩
 ·rename_i hm;obtain ⟨_,_,h1,h2,r,vx,h3,h4,h5,h6,h7⟩:=h;obtain ⟨es,clock,q1,q2⟩:=VQ h4;refine ⟨h1,h2,r,es,clock,h3,q1,?_,λe=>absurd e hm⟩
  have q2:(es.toList.map λe=>(e.key,e.val))=vx:=q2;rw[q2];exact ⟨h6,h7⟩
theorem Wt {α:Type} {k:Ty} (m:List (k.den×α)) (x:k.den):jY k m x=(m.findIdx? λe=>k.eq x e.1).bind λj=>(m[j]?).map (·.2):=by
 unfold jY
 induction m with
 | nil=>rfl
 | cons y m ih=>
  simp only[hK,List.findIdx?_cons]
  cases hq:k.eq x y.1 with
  | true=>simp
  | false=>
   simp only[aF,aS];rw[ih];cases m.findIdx? (λe=>k.eq x e.1) <;> simp
theorem Yp {v:Ty} {i:TypeId} (hz:Z5 P v i=true) (hv:bn P v (.inl i)=true) {z:Value} {L:List Value} (h1:(zeroValue i).run P w=.ok z w) (h2:z.cells.toList=L) (hl:L.length=v.sz):z=dm v L:=by
 obtain ⟨inf,i1,i2,i3,i4⟩:=lD (mG hv);unfold Z5 at hz;rw[i1] at hz;simp only at hz
 cases hzz:inf.zero with
 | none=>grind
 | some z0=>
  have:z=z0:=by
   simp_all [zeroValue,typeInfo]
  subst this;rw[hzz] at hz;unfold dm
  cases ha:isAgg v with
  | true=>
   rw[ha] at hz;cases z <;> simp at hz;simp only[Value.cells] at h2;subst h2;simp
  | false=>
   grind [Value.cells]
theorem Yq:∀ (t:Ty),t.oZ=true->∀ {v1 v2:t.den} {rp d9:List Value},Ro P w A t v1 rp->Ro P w A t v2 d9->t.eq v1 v2=true->d9=rp:=by
 intro t
 induction t with
 | int k=>
  intro _ v1 v2 rp d9 h1 h2 he;simp only[Ro] at h1 h2;subst h1;subst h2;have:v1=v2:=by cases k <;> simpa [Ty.eq] using he
  rw[this]
 | bool=>
  grind [Ro,Ty.eq]
 | str=>
  grind [Ro,Ty.eq]
 | unit=>
  grind [Ro]
 | pair a b nz nr=>
  intro hq v1 v2 rp d9 h1 h2 he;simp only[Ty.oZ,aD] at hq;simp only[Ty.eq,aD] at he;have e1:=nz hq.1 h1.1 h2.1 he.1;have e2:=nr hq.2 h1.2 h2.2 he.2;grind [List.take_append_drop]
 | arr n e ih=>
  intro hq v1 v2 rp d9 h1 h2 he;obtain ⟨_,l1,c1,r1⟩:=h1;obtain ⟨_,l2,c2,r2⟩:=h2;refine List.ext_getElem Bys λj hj2 hj1=>?_
  have hs:0 < e.sz:=by
   grind
  have hi:j / e.sz < n:=by
   rw[eY hs];omega
  have a1:=r1 (j / e.sz) _ (aB Bys);have a2:=r2 (j / e.sz) _ (aB Bys)
  have Kb:e.eq (v1[j / e.sz]'Bys) (v2[j / e.sz]'Bys)=true:=by
   simp only[Ty.eq,bG] at he;exact he (_,_) (eZ.2 ⟨j / e.sz,by grind⟩)
  have h3:=ih hq a1 a2 Kb;have hm:=Nat.mod_lt j hs;have hd:=Nat.div_add_mod j e.sz;have h4:=cN (·[j % e.sz]?) h3;grind
 | _=>grind [Ty.oZ]
theorem Uf {k v:Ty} {t:TypeId} (hl:bn P (.map k v) (.inl t)=true) (hz:v.w8=true) {x:k.den} {xc:List Value} (hx:Ro P w A k x xc) {r:Nat} {es:Array MapEntry} {clock:Nat} (hb:w.heap[r]?=some (.map es clock)) {y:List (k.den×v.den)}
  (he:EC P w A k v (es.toList.map λe=>(e.key,e.val)) y) (ok:Bool) :
  ∃ vc,Ro P w A v (CQ (jY k y x) v.zero) vc/\(Instr.lookup t (.map (some r)) (dm k xc) ok).run P w=.ok (if ok then .tuple #[dm v vc,.bool (jY k y x).isSome] else dm v vc) w:=by
 obtain ⟨ki,vi,hu,K,hv,adK⟩:=LI hl;have hc:=(OL (P:=P) (w:=w) (A:=A) k).1 ki 10000 es.isEmpty x xc K.lay K.sT (by have:=K.dep;omega) hx;have hf:=SB (v:=v) K hx he;obtain ⟨L,hL⟩:=wi v hz;obtain ⟨z,DX,Ak⟩:=AN (P:=P) (w:=w) hv hL;obtain ⟨r1,r2,r3⟩:=CU (P:=P) (w:=w) (A:=A) v hL hv;rw[Wt]
 cases OM:y.findIdx? (λe=>k.eq x e.1) with
 | none=>
  rw[OM] at hf;simp only[Option.bind_none] at hf ⊢;refine ⟨L,r2,?_⟩
  have Su:z=dm v L:=Yp adK hv DX Ak r3;cases ok <;> simp[Instr.lookup,run_underlying hu,MapKept.run_getObj_map hb,hc,hf,DX,Su]
 | some j=>
  rw[OM] at hf;have hj:j < y.length:=(eG.1 OM).1;obtain ⟨kc,vc,g1,g2,g3⟩:=he.2 j y[j] (aB hj);rw[eL] at g1
  cases hej:es.toList[j]? with
  | none=>grind
  | some e=>
   rw[hej] at g1;simp only[bN,aQ,bJ] at g1;simp only[hej,aA,bN,aB hj] at hf ⊢;refine ⟨vc,g3,?_⟩
   cases ok <;> simp[Instr.lookup,run_underlying hu,MapKept.run_getObj_map hb,hc,hf,g1.2]
end
section
variable {P:Program} {C:Ctx} {A:Cells} {X:FP} {σ:St} {a:Act} {w:World} {F:Nat->FP} {R:Type} {x:R} {Q:Exit->Act->World->Prop} {o:Oper} {E:Env}
theorem QZ (h:ek P C A σ a w F) (kY:∀ i T,E.TI i=some T->bn P T (.inl i)=true) {t:Nat} (ho:o.op=.makeMap t none) {K:St->Option R}
  (hk:(qQ E t λt=>match t with
  | .map k v=>if k.flat&&v.flat then K (σ.cq o.dst (.own (.map k v) (aj (.map k v)) [] [])) else none
  | _=>none)=some x):o.wp P a w (λa' w'=>Nx P C K x a' w'/\Ext w w' (λ_ _=>0)) Q:=by
 obtain ⟨T,hT,hk⟩:=ik hk;split at hk
 ·rename_i k v;split at hk
  ·rename_i hc;simp only[aD] at hc
   have lg:(execOp a.eval o).run P w=.ok (.value (.map (some w.heap.size))) (w.alloc (.map #[] 0)):=by
    simp[execOp,ho,run_makeMap_plain]
   have f_:=qg w (.map #[] 0)
   have h1:Rel P C A (λb i=>0+d8 w.heap.size 0 1 b i) σ a (w.alloc (.map #[] 0)) F:=by
    refine h.grow f_ (λ_ _ h=>h) (λ_ _ h=>.inl h) (λb i=>?_);by_cases hb:b=w.heap.size
    ·subst hb;right;exact ⟨aI _,by simp,by grind [d8]⟩
    grind [d8]
   have zC:(w.alloc (.map #[] 0)).heap[w.heap.size]?=some (.map #[] 0):=heap_alloc_new w _;refine pg lg ⟨qC h1 hk (Fd:=d8 w.heap.size 0 1) ⟨_,(eo (.map k v) _ rfl).symm,?_⟩ (λb i=>by simp) (λ_ _ _ _ e=>by cases e),f_⟩;simp only[au,hole,bP,aF,aS,aj,vS,Md.own,aH];refine ⟨hc.1,hc.2,w.heap.size,[],rfl,?_,by simp[d8],rfl,λi y hy=>by cases hy⟩
   exact VR zC
  ·cases hk
 ·cases hk
theorem Q5 (h:ek P C A σ a w F) (kY:∀ i T,E.TI i=some T->bn P T (.inl i)=true) {t:Nat} {y z:Operand} {ok:Bool} (ho:o.op=.lookup t y z ok) (bd:d_ P y=true/\d_ P z=true) {K:St->Option R}
  (hk:Lq E σ t (eh σ y) (eh σ z) ok o.dst K=some x):o.wp P a w (λa' w'=>Nx P C K x a' w'/\Ext w w' (λ_ _=>0)) Q:=by
 unfold Lq at hk;obtain ⟨T,hT,hk⟩:=ik hk;have jr:=kY _ _ hT;split at hk
 ·rename_i k v;split at hk
  ·rename_i hz
   rcases gi h bd.1 with hs | ⟨xs,e⟩
   rotate_left
   ·grind
   rcases gi h bd.2 with CZ | ⟨xs,e2⟩
   rotate_left
   ·exfalso;rw[e2] at hk;split at hk
    ·split at hk
     ·obtain ⟨_,_,_,_,_,_,_,_,h1,_⟩:=lZ h hk;grind [di]
     ·cases hk
    ·cases hk
   split at hk
   ·rename_i r p snap hv;rw[hv] at hs;split at hk
    ·rename_i pH;obtain ⟨hr,t',m',H',v',co,dr,F',h1,jt,h3,h4,h5,h6⟩:=lZ h hk;split at h1
     ·rename_i hH;have hH:=bC.1 hH;subst hH;obtain ⟨e1,h1⟩:=di h1;subst e1;obtain ⟨pl,g1,g2,g3⟩:=hs.2 pH;rw[h3] at g1;injection g1 with g1;subst g1;obtain ⟨f1,f2,b,es,clock,q1,q2,q3,q4⟩:=Gy h4;simp only at g2;subst q1;rw[eo (.map k v) _ rfl] at g2;split at h1
      ·rename_i t2 ix hix;rw[hix] at CZ;obtain ⟨e2,h1⟩:=di h1;subst e2;obtain ⟨kc,MA,nB⟩:=CZ;obtain ⟨vc,r1,r2⟩:=Uf (P:=P) jr hz nB q2 q3 ok
       have lg:(execOp a.eval o).run P w=.ok (.value (if ok then .tuple #[dm v vc,.bool (jY t2 v' ix).isSome] else dm v vc)) w:=by
        simp_all [execOp]
       cases ok with
       | true=>
        simp only at h1;refine pg lg ⟨cx h h1 ⟨#[dm v vc,.bool (jY t2 v' ix).isSome],λ_ _ _=>0,rfl,λb i=>by grind [nH],λj y hy=>?_⟩ (λ_ _ _ _ e=>by cases e),Ext.refl _ _⟩
        match j with
        | 0=>simp at hy;subst hy;exact ⟨_,rfl,.inr ⟨vc,rfl,Ro.rep v _ (iP v) r1⟩⟩
        | 1=>simp at hy;subst hy;exact ⟨_,rfl,.inr ⟨[.bool _],rfl,rfl⟩⟩
        | n+2=>simp at hy
       | false=>
        simp only at h1;exact pg lg ⟨cx h h1 ⟨vc,rfl,r1⟩ (λ_ _ _ _ e=>by cases e),Ext.refl _ _⟩
      ·cases h1
     ·cases h1
    ·cases hk
   ·cases hk
  ·cases hk
 ·cases hk
theorem Ug {r:Nat} {es Kc:Array MapEntry} {clock D0:Nat} (hb:w.heap[r]?=some (.map es clock)):Ext w { w with heap:=w.heap.setIfInBounds r (.map Kc D0) } (d8 r 0 1):=by
 have aeu:∀ b,b≠r->(w.heap.setIfInBounds r (.map Kc D0))[b]?=w.heap[b]?:=λb lU=>by grind
 refine ⟨by simp,λb i hbs hz u hu=>?_,λb n hn=>?_,λb i hbs=>?_,rfl,rfl,rfl,λb hbs hz=>?_,aI _⟩
 ·grind [d8,ce,BM]
 ·obtain ⟨c,e,fr,h1,h2,h3⟩:=hn;have hbr:b≠r:=λe=>by grind
  exact ⟨c,e,fr,by grind,h2,h3⟩
 ·grind [World.frozen?]
 ·have hbr:b≠r:=λe=>by simp_all [d8]
  grind
theorem Uh {k v:Ty} {t:TypeId} (hl:bn P (.map k v) (.inl t)=true) {x:k.den} {xc:List Value} (hx:Ro P w A k x xc) {z:v.den} {zc':List Value} (hzr:Ro P w A v z zc') {r:Nat} {es:Array MapEntry} {clock:Nat} (hb:w.heap[r]?=some (.map es clock)) {y:List (k.den×v.den)}
  (he:EC P w A k v (es.toList.map λe=>(e.key,e.val)) y) :
  ∃ (Kc:Array MapEntry) (D0:Nat),(Instr.mapUpdate t (.map (some r)) (dm k xc) (dm v zc')).run P w=.ok () { w with heap:=w.heap.setIfInBounds r (.map Kc D0) }/\EC P w A k v (Kc.toList.map λe=>(e.key,e.val)) (nG k y x z):=by
 obtain ⟨ki,vi,hu,K,hv,_⟩:=LI hl;have hc:=(OL (P:=P) (w:=w) (A:=A) k).1 ki 10000 false x xc K.lay K.sT (by have:=K.dep;omega) hx;have hf:=SB (v:=v) K hx he;unfold nG
 cases OM:y.findIdx? (λe=>k.eq x e.1) with
 | none=>
  rw[OM] at hf;simp only[Option.bind_none] at hf ⊢;refine ⟨es.push { key:=dm k xc,val:=dm v zc',born:=clock },clock+1,?_,?_,λi q hq=>?_⟩
  ·simp[Instr.mapUpdate,run_underlying hu,MapKept.run_getObj_map hb,hc,hf,MapKept.run_setObj_map _ hb,Result.andThen]
  ·have:=he.1;grind
  ·have hlen:(es.toList.map λe=>(e.key,e.val)).length=y.length:=he.1;rw[Array.toList_push,fJ];by_cases hi:i < y.length
   ·rw[cS hi] at hq;rw[cS (by grind)];exact he.2 i q hq
   grind
 | some j=>
  rw[OM] at hf;have hfj:=eG.1 OM;have hj:j < y.length:=hfj.1;obtain ⟨kc,vc,g1,g2,g3⟩:=he.2 j y[j] (aB hj);rw[eL] at g1;have hlen:es.size=y.length:=by have:=he.1;simpa using this
  have xo:es.toList[j]?=some es[j]:=by simp[hlen,hj]
  rw[xo] at g1;simp only[bN,aQ,bJ] at g1;simp only[aA] at hf ⊢;rw[xo] at hf;simp only[bN] at hf
  have adL:k.eq x (y[j]).1=true:=by
   grind
  have aez:dm k kc=dm k xc:=by
   have:=Yq k K.oZ hx g2 adL;rw[this]
  have HT:(Instr.keyThatStays (dm k xc) (dm k xc)).run P w=.ok (dm k xc) w:=by
   simp[Instr.keyThatStays,Wq K.agg K.oZ hx]
  have yu:(es[j]?).map (·.key)=some (dm k xc):=by
   grind
  refine ⟨es.modify j λe=>{ e with key:=dm k xc,val:=dm v zc' },clock,?_,?_,λi q hq=>?_⟩
  ·simp[Instr.mapUpdate,run_underlying hu,MapKept.run_getObj_map hb,hc,hf,yu,HT,MapKept.run_setObj_map _ hb,Result.andThen]
  ·simp[hlen]
  ·rw[eC] at hq;rw[eL,dL,fT];by_cases sw:j=i
   ·grind
   ·rw[aV sw] at hq ⊢;have:=he.2 i q hq;grind
theorem LJ (h:ek P C A σ a w F) (kY:∀ i T,E.TI i=some T->bn P T (.inl i)=true) {t:Nat} {y z u:Operand} (ho:o.op=.mapUpdate t y z u) (hd:o.dst=none) (bd:d_ P y=true/\d_ P z=true/\d_ P u=true) {K:St->Option R}
  (hk:Lr E σ t (eh σ y) (eh σ z) (eh σ u) K=some x):o.wp P a w (Nx P C K x) Q:=by
 unfold Lr at hk;obtain ⟨T,hT,hk⟩:=ik hk;have jr:=kY _ _ hT;split at hk
 ·rename_i k v
  rcases gi h bd.1 with hs | ⟨xs,e⟩
  rotate_left
  ·grind
  split at hk
  ·rename_i r p snap hv;rw[hv] at hs;split at hk
   ·rename_i pH;obtain ⟨hr,t',m',H',v',co,dr,F',h1,jt,h3,h4,h5,h6⟩:=lZ h hk;split at h1
    ·rename_i hH;simp only[aD,bC] at hH;obtain ⟨jz,hH⟩:=hH;subst hH;obtain ⟨e1,h1⟩:=di h1;subst e1;obtain ⟨pl,g1,g2,g3⟩:=hs.2 pH;rw[h3] at g1;injection g1 with g1;subst g1;split at h1
     ·rename_i t2 ix t3 uv hix huv
      have CZ:dn P A σ a w (a.eval z) (.val t2 ix) (λ_ _=>0):=by
       grind [gi]
      have hs3:dn P A σ a w (a.eval u) (.val t3 uv) (λ_ _=>0):=by
       grind [gi]
      obtain ⟨e2,h1⟩:=di h1;subst e2;obtain ⟨e3,h1⟩:=di h1;subst e3;obtain ⟨kc,MA,nB⟩:=CZ;obtain ⟨uc,hu1,hu2⟩:=hs3;obtain ⟨hr,m2,H2,v2,d9,DW,F2,q1,q2,q3,q4,q5,q6⟩:=DV h h1;obtain ⟨_,e2,e3,e4⟩:=At.inj ⟨jt⟩ q1;subst e2;subst e3;have e4:=fW e4;subst e4;rw[h3] at q2;injection q2 with q2;injection q2 with q21 q22 q23 q24;subst q23;subst q24;have ja:=q3;obtain ⟨f1,f2,b,es,clock,b1,b2,b3,b4⟩:=Gy q3;have b4:=b4 jz;simp only at g2;subst b1;rw[eo (.map t2 t3) _ rfl] at g2;obtain ⟨Kc,D0,r1,r2⟩:=Uh (P:=P) jr nB hu2 b2 b3;generalize An:({ w with heap:=w.heap.setIfInBounds b (.map Kc D0) }:World)=w2 at r1;have f_:Ext w w2 (d8 b 0 1):=by grind [Ug]
      have Ig:∀ b i,F r b i<=1:=λb i=>by have:=h.qe b i;grind [dy]
      have lg:(execOp a.eval o).run P w=.ok .skip w2:=by
       simp[execOp,ho,g2,MA,hu1,r1]
      refine Ou lg hd ?_
      have hA:∀ b' i,A b' i->∀ u,ce w b' i=some u->ce w2 b' i=some u:=λb' i ha u hu=>by
       refine f_.cell b' i (h.ld b' i (.inr ha)) ?_ u hu;rcases bI (d8 b 0 1 b' i) with h0 | h0
       ·exact h0
       ·have:b'=b/\i=0:=by
         grind [d8]
        obtain ⟨rfl,rfl⟩:=this;exact absurd ha (h.qS b' 0 (by grind [dy]))
      have zC:ce w2 b 0=some (Eo (entriesOf Kc)):=by
       grind [VR]
      have HP:au P w2 A (.map t2 t3) m' [] (nG t2 v' ix uv) [.map (some b)] F2:=by
       simp only[au,hole,bP,aF,aS,jz,aH];refine ⟨f1,f2,b,entriesOf Kc,rfl,zC,b4,r2.1,λi q hq=>?_⟩
       obtain ⟨kc',vc',j1,j2,j3⟩:=r2.2 i q hq;exact ⟨kc',vc',j1,Ro.mono hA (λ_ _ h=>h) t2 j2,Ro.mono hA (λ_ _ h=>h) t3 j3⟩
      have hF2:∀ b' i,d8 b 0 1 b' i<=F2 b' i:=λb' i=>by
       grind [d8]
      have w_:∀ b' o',dr=some (b',o')->Has w2 b' o' [.map (some b)]:=λb' o' ea j u hu=>by
       have hh1:=(q5 b' o' ea).1 j u hu;have hj:=(aP.1 hu).1;have hj0:j=0:=by simpa using hj
       subst hj0;have h2:=q4 b' (o'+0);have h4:=hF2 b' (o'+0);have h5:=Ig b' (o'+0);have h7:=dy F hr b' (o'+0)
       have h6:lC dr (Ty.map t2 t3).sz b' (o'+0)=1:=by
        grind [lC,d8,Ty.sz]
       exact f_.cell _ _ (h.ld b' (o'+0) (.inl (by grind))) Bys u hh1
      obtain ⟨A3,CV,Fr,n1,n2,n3,n4,n5⟩:=q6 w2 A [.map (some b)] F2 (λ_ _=>0) (f_.mono λb' i hz=>by
        grind) (λ_ _ h=>h) (λ_ _ h=>.inl h) (λb i=>by omega) w_ (λ_=>rfl) HP
      refine ⟨_,n1,A3,_,n5 yf (zR (h.mD r)) (Gj (h.mD r)) rfl λp' snap hb bd hlen=>?_⟩
      have h5:=IZ (h.mD r) hb bd;refine ⟨ej p'+1,False,by omega,λ_=>.inl Bys,λ_=>by omega,?_⟩
      intro q pl hq hp;grind [cb]
     ·cases h1
    ·cases h1
   ·cases hk
  ·cases hk
 ·cases hk
theorem Q6 (h:ek P C A σ a w F) (kY:∀ i T,E.TI i=some T->bn P T (.inl i)=true) {t:Nat} {y:Operand} (ho:o.op=.call { callee:=.builtin .len,args:=#[y],argTypes:=#[t] }) (bd:d_ P y=true) {K:St->Option R}
  (hk:Ls E σ t (eh σ y) (λn=>K (σ.cq o.dst (.val (.int .i64) (n:Int))))=some x):o.wp P a w (Nx P C K x) Q:=by
 unfold Ls at hk;obtain ⟨T,hT,hk⟩:=ik hk;have jr:=kY _ _ hT;split at hk
 ·rename_i k v
  rcases gi h bd with hs | ⟨xs,e⟩
  rotate_left
  ·grind
  split at hk
  ·rename_i r p snap hv;rw[hv] at hs;split at hk
   ·rename_i pH;obtain ⟨hr,t',m',H',v',co,dr,F',h1,jt,h3,h4,h5,h6⟩:=lZ h hk;split at h1
    ·rename_i hH;have hH:=bC.1 hH;subst hH;obtain ⟨e1,h1⟩:=di h1;subst e1;obtain ⟨pl,g1,g2,g3⟩:=hs.2 pH;rw[h3] at g1;injection g1 with g1;subst g1;obtain ⟨f1,f2,b,es,clock,q1,q2,q3,q4⟩:=Gy h4;simp only at g2;subst q1;rw[eo (.map k v) _ rfl] at g2;obtain ⟨ki,vi,hu,_,_,_⟩:=LI jr;have hlen:es.size=List.length v':=by have:=q3.1;simpa using this
     have lg:(execOp a.eval o).run P w=.ok (.value (.int .i64 ((List.length v':Nat):Int))) w:=by
      rw[B8 ho];simp[Builtin.len_,g2,run_underlying hu,MapKept.run_getObj_map q2,goInt,hlen]
     exact pg lg (cx h h1 ⟨[.int .i64 _],rfl,rfl⟩ (λ_ _ _ _ e=>by cases e))
    ·cases h1
   ·cases hk
  ·cases hk
 ·cases hk
end
end OT
namespace OT
open Go
structure ul (P:Program) (E:Env):Prop where
 ti:∀ i T,E.TI i=some T->bn P T (.inl i)=true
 eq:aaa P E
 fn:∀ f g,E.G f=some g->Sound P f g/\wH P f g.cap
def Ui (P:Program) (t:TypeId):Bool:=match P.underlying t with
 | some (.slice _)=>true
 | some .string=>true
 | _=>false
theorem Kd {P:Program} {t:TypeId} (h:Ui P t=true):(∃ e',P.underlying t=some (.slice e'))\/P.underlying t=some .string:=by
 grind [Ui]
def ON (P:Program) (c:Call):Bool:=match c.callee with
 | .builtin .append | .builtin .copy=>match c.argTypes.toList with
  | [_,tx]=>Ui P tx
  | _=>false
 | _=>true
def sD (P:Program):Op->Bool
 | .move x | .assign x | .nilCheck x | .box _ x | .load _ x | .unOp _ _ x | .convert _ _ x | .fieldAddr _ x _ | .field _ x _=>d_ P x
 | .pick c a b=>d_ P c&&d_ P a&&d_ P b
 | .mapUpdate _ m k v=>d_ P m&&d_ P k&&d_ P v
 | .lookup _ a x _ | .store _ a x | .binOp _ _ a x _ | .indexAddr _ a x | .index _ a x | .makeSlice _ a x=>d_ P a&&d_ P x
 | .build _ ps | .buildSlice _ _ ps=>ps.toList.all λp=>d_ P p.2
 | .slice _ x lo hi _=>d_ P x&&lo.all (d_ P)&&hi.all (d_ P)
 | .makeFunc (.func f) _ cs=>(P.funcs[f]?).any λfn=>fn.nfree == cs.size
 | .call c=>c.args.toList.all (d_ P)&&ON P c
 | _=>true
section
variable {P:Program} {C:Ctx} {A:Cells} {X:FP} {σ:St} {a:Act} {w:World} {F:Nat->FP} {R:Type} {x:R} {Q:Exit->Act->World->Prop} {o:Oper} {E:Env}
theorem Ap {α:Type} {l:Array α} {m:List α} (h:l.toList=m):l=m.toArray:=by grind
def xd (E:Env):Op->Bool
 | .move _ | .assign _ | .pick .. | .build .. | .load .. | .nilCheck _ | .binOp .. | .unOp .. | .fieldAddr .. | .field .. | .indexAddr .. | .index .. | .slice .. | .extract .. | .makeFunc ..=>true
 | .convert _ t _=>match E.TI t with
  | some T=>T.flat
  | none=>false
 | .call c=>match c.callee with
  | .builtin .len=>match c.argTypes.toList with
   | [t]=>!VN (E.TI t)
   | _=>false
  | _=>false
 | _=>false
theorem NJ (hE:ul P E) (h:ek P C A σ a w F) {iK i:Nat} (dt:sD P o.op=true) (rm:xd E o.op=true) {K:St->Option R} (hk:sM E iK i o σ K=some x):Tk P o a w (Nx P C K x):=by
 unfold sM at hk
 cases ho:o.op with
 | move y=>rw[ho] at hk dt;exact V5 h ho dt hk
 | assign y=>rw[ho] at hk dt;exact QU h ho dt hk
 | pick c y z=>
  grind [sD,V6]
 | build t ps=>rw[ho] at hk dt;exact T_ h hE.ti ho dt hk
 | load t y=>rw[ho] at hk dt;exact TU h hE.ti ho dt hk
 | nilCheck y=>rw[ho] at hk dt;exact No h ho dt hk
 | binOp op t y z t2=>
  rw[ho] at hk dt;simp only[sD,aD] at dt;exact T7 h hE.ti hE.eq ho dt hk
 | unOp op t y=>
  rw[ho] at hk dt;refine Wb h ho dt (K:=K) ?_;grind
 | convert s t y=>
  rw[ho] at hk dt rm;refine Oz h hE.ti ho dt (λT hT=>?_) hk;grind [xd]
 | fieldAddr t y j=>rw[ho] at hk dt;exact LB h hE.ti ho dt hk
 | field t y j=>rw[ho] at hk dt;exact TZ h hE.ti ho dt hk
 | indexAddr t y z=>
  rw[ho] at hk dt;simp only[sD,aD] at dt;exact LC h hE.ti ho dt hk
 | index t y z=>
  rw[ho] at hk dt;simp only[sD,aD] at dt;exact T5 h hE.ti ho dt hk
 | slice t y lo hi mx=>
  rw[ho] at hk dt
  cases mx with
  | none=>
   simp only[sD,aD] at dt;refine T6 h hE.ti ho ⟨dt.1.1,λz hz=>?_,λz hz=>?_⟩ hk
   all_goals grind
  | some m=>cases hk
 | extract y j=>
  grind [OA]
 | makeFunc fn first cs=>
  rw[ho] at hk dt
  cases fn with
  | func f=>exact Ns h ho dt hk
  | _=>cases hk
 | call c=>
  rw[ho] at hk dt rm;simp only[sD,aD] at dt;obtain ⟨mm,hc⟩:=dt;obtain ⟨callee,args,ts⟩:=c
  cases callee with
  | builtin b=>
   cases b with
   | len=>
    simp only at hk;split at hk
    ·rename_i y t h1 h2;have e1:=Ap h1;have e2:=Ap h2
     subst e1;subst e2;simp only[eA,aD] at mm;simp only[xd,cC] at rm;rw[rm] at hk;exact Yj h hE.ti ho mm.1 hk
    ·cases hk
   | _=>grind [xd]
  | _=>grind [xd]
 | _=>grind [xd]
def quiet (E:Env):Op->Bool
 | .alloc _ | .box .. | .buildSlice .. | .makeSlice .. | .convert .. | .makeMap .. | .lookup ..=>true
 | .call c=>match c.callee with
  | .value (.func f)=>match E.G f with
   | some g=>yE g.ps
   | none=>false
  | _=>false
 | _=>false
theorem Wu (hE:ul P E) (h:ek P C A σ a w F) {iK i:Nat} (dt:sD P o.op=true) (rm:xd E o.op=false) {K:St->Option R} (hk:sM E iK i o σ K=some x) :
  o.wp P a w (λa' w'=>Nx P C K x a' w'/\(quiet E o.op=true->Ext w w' (λ_ _=>0))) Q:=by
 have wq:∀ {N:Act->World->Prop},o.wp P a w (λa' w'=>N a' w'/\Ext w w' (λ_ _=>0)) Q->o.wp P a w (λa' w'=>N a' w'/\(quiet E o.op=true->Ext w w' (λ_ _=>0))) Q:=λh=>Oper.wp_mono (λa' w' h=>⟨h.1,λ_=>h.2⟩) h;have wn:∀ {N:Act->World->Prop},quiet E o.op=false->o.wp P a w N Q->o.wp P a w (λa' w'=>N a' w'/\(quiet E o.op=true->Ext w w' (λ_ _=>0))) Q:=λhq h=>Oper.wp_mono (λa' w' h=>⟨h,λe=>by grind⟩) h;unfold sM at hk
 cases ho:o.op with
 | alloc t=>rw[ho] at hk;rw[<-ho];exact wq (We h hE.ti ho hk)
 | box t y=>rw[ho] at hk dt;rw[<-ho];exact wq (aaC h ho dt hk)
 | buildSlice t n ps=>rw[ho] at hk dt;rw[<-ho];exact wq (LF h hE.ti ho dt hk)
 | store t y z=>
  rw[ho] at hk dt;simp only[sD,aD] at dt;rw[<-ho];refine wn (by rw[ho];rfl) ?_
  cases hd:o.dst with
  | none=>rw[hd] at hk;exact TW h hE.ti ho hd dt hk
  | some d=>grind
 | convert s t y=>rw[ho] at hk dt;rw[<-ho];exact wq (QT h hE.ti ho dt hk)
 | makeMap t rv=>
  rw[ho] at hk;rw[<-ho]
  cases rv with
  | none=>exact wq (QZ h hE.ti ho hk)
  | some _=>cases hk
 | lookup t y z ok=>
  rw[ho] at hk dt;simp only[sD,aD] at dt;rw[<-ho];exact wq (Q5 h hE.ti ho dt hk)
 | mapUpdate t y z u=>
  rw[ho] at hk dt;simp only[sD,aD] at dt;rw[<-ho];refine wn (by rw[ho];rfl) ?_
  cases hd:o.dst with
  | none=>rw[hd] at hk;exact LJ h hE.ti ho hd ⟨dt.1.1,dt.1.2,dt.2⟩ hk
  | some d=>grind
 | makeSlice t y z=>
  rw[ho] at hk dt;simp only[sD,aD] at dt;rw[<-ho];exact wq (Nq h hE.ti ho dt hk)
 | call c=>
  rw[ho] at hk dt rm;simp only[sD,aD] at dt;obtain ⟨mm,hc⟩:=dt;obtain ⟨callee,args,ts⟩:=c;rw[<-ho]
  cases callee with
  | builtin b=>
   cases b with
   | len=>
    simp only at hk;split at hk
    ·rename_i y t h1 h2;have e1:=Ap h1;have e2:=Ap h2
     subst e1;subst e2;simp only[eA,aD] at mm;simp only[xd,Bool.not_eq_false'] at rm;rw[rm] at hk;exact wn (by rw[ho];rfl) (Q6 h hE.ti ho mm.1 hk)
    ·cases hk
   | append=>
    simp only at hk;split at hk
    ·rename_i y z t In h1 h2;have e1:=Ap h1;subst e1;simp only[ON] at hc;split at hc
     ·rename_i t0 tx h3;rw[h3] at h2;injection h2 with h2 h4;subst h2;have e2:=Ap h3;subst e2;simp only[eA,aD] at mm;exact wn (by rw[ho];rfl) (step_append h hE.ti ho ⟨mm.1,mm.2.1⟩ (Kd hc) hk)
     ·cases hc
    ·cases hk
   | copy=>
    simp only at hk;split at hk
    ·rename_i y z t In h1 h2;have e1:=Ap h1;subst e1;simp only[ON] at hc;split at hc
     ·rename_i t0 tx h3;rw[h3] at h2;injection h2 with h2 h4;subst h2;have e2:=Ap h3;subst e2;simp only[eA,aD] at mm;exact wn (by rw[ho];rfl) (Wj h hE.ti ho ⟨mm.1,mm.2.1⟩ (Kd hc) hk)
     ·cases hc
    ·cases hk
   | _=>cases hk
  | value y=>
   cases y with
   | func f=>
    simp only at hk;split at hk
    ·rename_i g hg;split at hk
     ·rename_i pK;obtain ⟨h1,h2⟩:=hE.fn f g hg;rw[pK] at h2;refine Oper.wp_mono (λa' w' h=>⟨h.1,λe=>h.2 ?_⟩) (QW h ho mm h1 h2 hk);grind [quiet]
     ·cases hk
    ·cases hk
   | tmp i=>
    refine wn (by rw[ho];rfl) ?_;simp only at hk;split at hk
    ·rename_i f n mF;split at hk
     ·rename_i g hg;obtain ⟨h1,h2⟩:=hE.fn f g hg;refine Oper.wp_mono (λa' w' h=>h.1) (QX h ho mm mF h1 h2 (K:=K) (x:=x) ?_);grind
     ·cases hk
    ·cases hk
   | _=>cases hk
  | _=>cases hk
 | _=>grind [xd]
theorem aaK (hE:ul P E) (h:ek P C A σ a w F) {iK i:Nat} (dt:sD P o.op=true) {K:St->Option R} (hk:sM E iK i o σ K=some x):o.wp P a w (Nx P C K x) Q:=by
 cases rm:xd E o.op with
 | true=>exact (NJ hE h dt rm hk).wp
 | false=>grind [Oper.wp_mono,Wu]
end
end OT
namespace OT
open Go
noncomputable def Aq (E:Env):Op->Option Slot
 | .alloc t=>match E.TI t with
  | some T=>if T.w8 then some (.box T (aj T) [] T.zero) else none
  | none=>none
 | .buildSlice t n ps=>match E.TI t with
  | some (.aa e)=>if Nat.beq n 0&&Nat.beq ps.size 0&&e.w8 then some (.own (.aa e) (.aa true (aj e)) [] []) else none
  | _=>none
 | _=>none
section
variable {P:Program} {C:Ctx} {A:Cells} {X:FP} {σ:St} {a:Act} {w:World} {F:Nat->FP} {R:Type} {x:R} {Q:Exit->Act->World->Prop} {o:Oper} {E:Env}
theorem Yr {s:Slot} (hs:Aq E o.op=some s) {iK i:Nat} {K:St->Option R}:sM E iK i o σ K=K (σ.cq o.dst s):=by
 unfold Aq at hs;split at hs
 ·grind [sM,qQ]
 ·rename_i t n ps ho;unfold sM;simp only[ho];split at hs
  all_goals simp_all [qQ,IU]
 ·cases hs
theorem Wv {N:Act->World->Prop} (hh:o.wp P a w N Q):o.wp P a w (λa' w'=>(∀ d,o.dst≠some d->tmp a' d=tmp a d)/\N a' w') Q:=by
 have key:∀ (a0:Act) v,a0.tmps=a.tmps->∀ d,o.dst≠some d->tmp (a0.put o.dst v) d=tmp a d:=λa0 v h0 d hd=>by
  unfold tmp Act.put;cases ho:o.dst <;> simp_all
 unfold Oper.wp at *;generalize (execOp a.eval o).run P w=r at *;simp_all [Oper.upon]
theorem ME {d:Nat} (h:Lu σ d=true):d < σ.n/\σ.get d=.dead/\(∀ k,(d,k,false) ∉ σ.ay)/\∀ r p snap,(d,r,p,snap) ∉ σ.gh:=by
 unfold Lu at h;simp only[aD,cC,Nat.blt_eq] at h;obtain ⟨⟨⟨h1,h2⟩,h3⟩,h4⟩:=h;refine ⟨h1,?_,λk hm=>?_,λr p snap hm=>?_⟩
 ·grind
 ·revert h3 hm
  generalize σ.ay=l
  induction l with
  | nil=>grind
  | cons e l ih=>
   obtain ⟨k1,n1,b1⟩:=e;simp_all [Ei]
 ·rw[List.any_eq_false] at h4;exact h4 _ hm (by simp)
theorem Rel.tmp (h:Rel P C A X σ a w F) {d:Nat} (hp:Lu σ d=true) (v:Value):Rel P C A X σ (a.put (some d) v) w F:=by
 obtain ⟨hd,hg,hl,ZZ⟩:=ME hp;have ol:=h.size
 have ht:∀ i,i≠d->OT.tmp (a.put (some d) v) i=OT.tmp a i:=λi hi=>by
  grind [pe]
 have i7:∀ r p,place σ (a.put (some d) v) w r p=place σ a w r p:=λr p=>by
  unfold place;by_cases hr:r=d
  ·subst hr;rw[hg];rfl
  ·rw[ht r hr]
 have oE:zy σ a w σ (a.put (some d) v) w:=λr p snap hb=>⟨hb,λbd=>⟨bd,λ_ pl hp=>⟨pl.H,pl.cs,by simp_all,λ_=>rfl⟩⟩⟩
 refine { h with size:=by simp[Act.put,ol],defers:=by simpa [Act.put] using h.defers,iZ:=λi hi=>?_,gh:=λd' r p snap hm=>?_,pu:=λj k hm=>?_,whole:=λr t m H v' hr hk=>?_,om:=λj k hm R hR=>?_ }
 ·by_cases hid:i=d
  ·subst hid;rw[hg];trivial
  ·rw[ht i hid];exact dn.nx oE (λ_ _ h=>h) (λ_ _ _ _ h=>h) (λ_ _ h=>h) (λ_ _ _=>⟨λ_ h=>h,rfl⟩) (h.iZ i hi)
 ·rw[ht d' (λe=>by grind)];exact sA.nx oE (h.gh d' r p snap hm)
 ·rw[ht j (λe=>by grind)];exact h.pu j k hm
 ·rw[ht r (λe=>by grind)];exact h.whole r t m H v' hr hk
 ·have:j≠d:=λe=>by subst e;rw[hg] at hR;cases hR
  rw[ht j this] at hR;exact h.om j k hm R hR
def PS (P:Program) (A:Cells) (w:World) (tv:Value):Slot->FP->Prop
 | .own t m H v,F=>∃ cs,tv=dm t cs/\au P w A t m H v cs F
 | .box t m H v,F=>∃ b L F1,tv=.pointer (some ⟨b,0,none⟩)/\L.length=t.sz/\Has w b 0 L/\(∀ j,j < t.sz->w.frozen? ⟨b,j,none⟩=false) /\
   (∀ x i,d8 b 0 t.sz x i+F1 x i<=F x i)/\au P w A t m H v L F1/\jf w b (t.sz,false)
 | _,_=>False
theorem PS.slot {tv:Value} {s:Slot} {G:FP} (h:PS P A w tv s G):dn P A σ a w tv s G:=by
 cases s with
 | own t m H v=>exact h
 | box t m H v=>
  obtain ⟨b,L,F1,h1,h2,h3,h4,h5,h6,h7⟩:=h;exact ⟨b,0,L,F1,h1,h2,h3,λj hj=>by grind,h5,h6⟩
 | _=>exact h.elim
theorem PS.whole {tv:Value} {s:Slot} {G:FP} (h:PS P A w tv s G):∀ t m H v',s=.box t m H v'->∃ b,tv=.pointer (some ⟨b,0,none⟩)/\jf w b (t.sz,false):=by
 rintro t m H v rfl;obtain ⟨b,L,F1,h1,h2,h3,h4,h5,h6,h7⟩:=h;grind
theorem PS.nx {A':Cells} {w':World} {tv:Value} {s:Slot} {G:FP} (hA:∀ b i,A b i->A' b i) (hc:∀ b i,A b i->∀ u,ce w b i=some u->ce w' b i=some u) (hb:∀ b n,jf w b n->jf w' b n)
  (hF:∀ b i,1<=G b i->(∀ u,ce w b i=some u->ce w' b i=some u)/\w'.frozen? ⟨b,i,none⟩=w.frozen? ⟨b,i,none⟩) (h:PS P A w tv s G):PS P A' w' tv s G:=by
 cases s with
 | own t m H v=>obtain ⟨cs,h1,h2⟩:=h;exact ⟨cs,h1,au.mono hA hc hb t h2 (λ_ _=>aI _) (λb i hp=>(hF b i hp).1)⟩
 | box t m H v=>
  obtain ⟨b,L,F1,h1,h2,h3,h4,h5,h6,h7⟩:=h
  have hr:∀ j,j < t.sz->1<=G b j:=λj hj=>by
   grind [d8]
  exact ⟨b,L,F1,h1,h2,λj u hu=>(hF _ _ (by grind)).1 u (h3 j u hu),λj hj=>by grind,h5,
   au.mono hA hc hb t h6 (λ_ _=>aI _) (λb i hp=>(hF b i (by grind)).1),hb _ _ h7⟩
 | _=>exact h.elim
def PF (P:Program) (E:Env) (ops:Array Oper) (A:Cells) (a:Act) (w:World):List Nat->FP->Prop
 | [],_=>True
 | j::D,X=>∃ (o:Oper) (d:Nat) (s:Slot) (Fj X':FP),ops[j]?=some o/\o.dst=some d/\Aq E o.op=some s/\PS P A w (tmp a d) s Fj/\(∀ b i,X' b i+Fj b i<=X b i)/\PF P E ops A a w D X'
theorem PF.nx {ops:Array Oper} {A':Cells} {a':Act} {w':World} (hA:∀ b i,A b i->A' b i) (hc:∀ b i,A b i->∀ u,ce w b i=some u->ce w' b i=some u) (hb:∀ b n,jf w b n->jf w' b n) :
  ∀ (D:List Nat) {X:FP},(∀ j ∈ D,∀ o d,ops[j]?=some o->o.dst=some d->tmp a' d=tmp a d)->(∀ b i,1<=X b i->(∀ u,ce w b i=some u->ce w' b i=some u)/\w'.frozen? ⟨b,i,none⟩=w.frozen? ⟨b,i,none⟩) ->
   PF P E ops A a w D X->PF P E ops A' a' w' D X
 | [],_,_,_,_=>trivial
 | j::D,X,ht,hF,h=>by
  obtain ⟨o,d,s,Fj,X',h1,h2,h3,h4,h5,h6⟩:=h
  exact ⟨o,d,s,Fj,X',h1,h2,h3,by
   rw[ht j (by simp) o d h1 h2]
   exact PS.nx hA hc hb (λb i hp=>hF b i (by have:=h5 b i;omega)) h4,h5,PF.nx hA hc hb D (λk hk=>ht k (by simp[hk])) (λb i hp=>hF b i (by have:=h5 b i;omega)) h6⟩
theorem PF.grow {ops:Array Oper}:∀ (D:List Nat) {X X1:FP},(∀ b i,X b i<=X1 b i)->PF P E ops A a w D X->PF P E ops A a w D X1
 | [],_,_,_,_=>trivial
 | j::D,X,X1,hx,h=>by
  obtain ⟨o,d,s,Fj,X',h1,h2,h3,h4,h5,h6⟩:=h;exact ⟨o,d,s,Fj,X',h1,h2,h3,h4,λb i=>bH (h5 b i) (hx b i),h6⟩
theorem PF.take {ops:Array Oper} {j:Nat}:∀ (D:List Nat) {X:FP},j ∈ D->PF P E ops A a w D X ->
  ∃ (o:Oper) (d:Nat) (s:Slot) (Fj X':FP),ops[j]?=some o/\o.dst=some d/\Aq E o.op=some s/\PS P A w (tmp a d) s Fj/\(∀ b i,X' b i+Fj b i<=X b i)/\PF P E ops A a w (D.erase j) X'
 | [],_,hj,_=>by cases hj
 | k::D,X,hj,h=>by
  by_cases C0:k=j
  ·subst C0;rw[List.erase_cons_head];exact h
  ·have AZ:j ∈ D:=by
    rcases aY.1 hj with e | e
    ·exact absurd e.symm C0
    ·exact e
   obtain ⟨o,d,s,Fk,X1,h1,h2,h3,h4,h5,h6⟩:=h;obtain ⟨o',d',s',Fj,X2,g1,g2,g3,g4,g5,g6⟩:=PF.take D AZ h6;rw[List.erase_cons_tail (by simpa using C0)];exact ⟨o',d',s',Fj,λb i=>X2 b i+Fk b i,g1,g2,g3,g4,λb i=>by have:=g5 b i;have:=h5 b i;show X2 b i+Fk b i+Fj b i<=X b i;omega,o,d,s,Fk,X2,h1,h2,h3,h4,λb i=>aI _,g6⟩
theorem Ys (h:Rel P C A X σ a w F) (kY:∀ i T,E.TI i=some T->bn P T (.inl i)=true) {s:Slot} (hs:Aq E o.op=some s) {d:Nat} (hp:Lu σ d=true) :
  ∃ (v:Value) (w':World) (Fj:FP),(execOp a.eval o).run P w=.ok (.value v) w'/\Ext w w' (λ_ _=>0)/\Rel P C A (λb i=>X b i+Fj b i) σ (a.put (some d) v) w' F/\PS P A w' v s Fj:=by
 unfold Aq at hs;split at hs
 ·rename_i t ho;split at hs
  ·rename_i T hT;split at hs
   ·rename_i Ij;injection hs with hs;subst hs;have jr:=kY _ _ hT;obtain ⟨L,hL⟩:=wi T Ij;obtain ⟨z,DX,Ak⟩:=AN (P:=P) (w:=w) jr hL;obtain ⟨r1,r2,r3⟩:=CU (P:=P) (w:=w) (A:=A) T hL jr;have hc:z.cells=L.toArray:=by grind
    have h1:=h.alloc L.toArray t (0,0);have jz:=CW w L.toArray t (0,0) false (.inr (aI _));have MF:L.length=T.sz:=au.length T r1;simp only[gO,MF] at jz h1;have xi:=au.alloc h r1 (λb i hp=>by simp at hp) (qg w (.cells L.toArray t));refine ⟨.pointer (some ⟨w.heap.size,0,none⟩),w.alloc (.cells L.toArray t),d8 w.heap.size 0 T.sz,?_,qg w _,h1.tmp hp _,w.heap.size,L,(λ_ _=>0),rfl,MF,CX w L.toArray t (0,0) (λj u hu=>by simpa using hu) (au.one _ r1),λj hj=>jz.frozen hj,λ_ _=>aI _,xi,jz⟩
    simp_all [execOp,Instr.alloc,newVar,newRow]
   ·cases hs
  ·cases hs
 ·rename_i t n ps ho;split at hs
  ·rename_i e hT;split at hs
   ·rename_i hc;injection hs with hs;subst hs;simp only[aD,eI] at hc;obtain ⟨⟨h1,h2⟩,hz⟩:=hc;subst h1;have yC:ps=#[]:=fX h2;subst yC;have hl:=kY _ _ hT;simp only[bn,aD] at hl;have h2:=hl.2;split at h2
    ·rename_i el hu;simp only[aD,dK] at h2;obtain ⟨ol,sC⟩:=h2;obtain ⟨inf,i1,i2,i3,i4⟩:=lD (mG sC)
     have lg:(execOp a.eval o).run P w=.ok (.value (.slice (some ⟨w.heap.size,0,none⟩) 0 0)) (w.alloc (.cells #[] el)):=by
      simp[execOp,ho,Instr.buildSlice,run_underlying hu,Go.sizeOf,typeInfo,i1,Instr.fill,newRow,show Array.range 0=#[] from rfl]
     have Ih:=h.alloc #[] el (0,0);have jz:=CW w #[] el (0,0) (IV e) (.inr (aI _));refine ⟨_,_,λb i=>d8 w.heap.size 0 0 b i+bi 0 (λ_ _ _=>0) b i,lg,qg w _,?_,?_⟩
     ·refine (Ih.less (λb i=>?_)).tmp hp _;simp[d8,bi]
     ·refine ⟨_,(eo (.aa e) _ rfl).symm,?_⟩
      simp only[au,hole,bP,aF,aS,Md.own,aH,Md.e];refine ⟨_,0,rfl,aI _,aW _,(λe=>by cases e),λad lN=>?_⟩
      injection lN with lN;subst lN;refine ⟨rfl,rfl,by simpa using jz,λ_ _ _=>0,λb i=>by simp,λi y hy=>by cases hy⟩
    ·cases h2
   ·cases hs
  ·cases hs
 ·cases hs
theorem Rel.aaL (h:Rel P C A X σ a w F):∃ C':Ctx,C'.w0=w/\C'.A0=A/\(∀ b i,A b i->C'.F0 b i=0)/\Rel P C' A X σ a w F/\(∀ {A2:Cells} {X2:FP} {mX:St} {a2:Act} {w2:World} {F2:Nat->FP},Rel P C' A2 X2 mX a2 w2 F2->Rel P C A2 X2 mX a2 w2 F2):=by
 refine ⟨⟨w,A,λb i=>X b i+bi σ.n F b i,C.args⟩,rfl,rfl,λb i ha=>?_,?_,λ{A2 X2 mX a2 w2 F2} h2=>?_⟩
 ·show X b i+bi σ.n F b i=0;rcases bI (X b i+bi σ.n F b i) with h0 | h0
  ·exact h0
  ·exact absurd ha (h.qS b i h0)
 ·exact { h with ext:=Ext.refl _ _,own:=λb i hp=>.inl hp,a0:=λ_ _ h=>h,a1:=λ_ _ h=>.inl h,pu:=h.pu,om:=h.om,yp:=h.Et λb i hp=>hp }
 ·have ol:C.w0.heap.size<=w.heap.size:=h.ext.size;refine { h2 with ext:=h.ext.trans h2.ext (λb i hb hz=>?_),own:=λb i hp=>?_,a0:=λb i ha=>h2.a0 b i (h.a0 b i ha),a1:=λb i ha=>?_,pu:=h2.pu,om:=h2.om,yp:=h.yp }
  ·show X b i+bi σ.n F b i=0;rcases bI (X b i+bi σ.n F b i) with h0 | h0
   ·exact h0
   ·rcases h.own b i h0 with h1 | h1 <;> omega
  ·rcases h2.own b i hp with h1 | h1
   ·exact h.own b i h1
   grind
  ·rcases h2.a1 b i ha with h1 | h1 | h1
   ·exact h.a1 b i h1
   ·exact .inr (h.own b i h1)
   grind
theorem Rel.frame (h:Rel P C A X σ a w F):∃ C1:Ctx,ek P C1 A σ a w F/\∀ {A2:Cells} {mX:St} {a2:Act} {w2:World} {F2:Nat->FP},ek P C1 A2 mX a2 w2 F2->Rel P C A2 X mX a2 w2 F2 /\
  (∀ b i,A b i->A2 b i)/\(∀ b i,A b i->∀ u,ce w b i=some u->ce w2 b i=some u)/\(∀ b n,jf w b n->jf w2 b n)/\(∀ b i,1<=X b i->(∀ u,ce w b i=some u->ce w2 b i=some u)/\w2.frozen? ⟨b,i,none⟩=w.frozen? ⟨b,i,none⟩):=by
 have hX0:∀ b i,1<=X b i->bi σ.n F b i=0:=λb i hp=>by have:=h.qe b i;omega
 have hXb:∀ b i,1<=X b i->b < w.heap.size:=λb i hp=>h.ld b i (.inl Bys);refine ⟨⟨w,A,bi σ.n F,C.args⟩,?_,λ{A2 mX a2 w2 F2} h2=>⟨?_,h2.a0,λb i ha u hu=>?_,h2.ext.xT,λb i hp=>⟨λu hu=>h2.ext.cell b i (hXb b i hp) (hX0 b i hp) u hu,h2.ext.AK b i (hXb b i hp)⟩⟩⟩
 ·exact { h with
   qe:=λb i=>by have:=h.qe b i;grind
   qS:=λb i hp=>h.qS b i (by grind)
   ld:=λb i hp=>h.ld b i (hp.imp (λhp=>by grind) id)
   ext:=Ext.refl _ _
   own:=λb i hp=>.inl (by grind)
   a0:=λ_ _ h=>h,a1:=λ_ _ h=>.inl h,pu:=h.pu,om:=h.om,yp:=h.Et λb i hp=>by grind }
 ·have ol:C.w0.heap.size<=w.heap.size:=h.ext.size
  have OP:∀ b i,1<=X b i->bi mX.n F2 b i=0:=λb i hp=>by
   rcases bI (bi mX.n F2 b i) with h0 | h0
   ·exact h0
   ·rcases h2.own b i (by grind) with h1 | h1
    all_goals grind
  have jz:∀ b i,1<=bi σ.n F b i->1<=C.F0 b i\/C.w0.heap.size<=b:=λb i hp=>h.own b i Bys;refine { h2 with qe:=λb i=>?_,qS:=λb i hp=>?_,ld:=λb i hp=>?_,ext:=h.ext.trans h2.ext (λb i hb hz=>?_),own:=λb i hp=>?_,a0:=λb i ha=>h2.a0 b i (h.a0 b i ha),a1:=λb i ha=>?_,pu:=h2.pu,om:=h2.om,yp:=h.yp }
  ·have h1:0+bi mX.n F2 b i<=1:=h2.qe b i;have:=OP b i;have:=h.qe b i;omega
  ·by_cases hx:1<=X b i
   ·intro ha;rcases h2.a1 b i ha with h1 | h1 | h1
    ·exact h.qS b i Bys h1
    all_goals grind
   ·exact h2.qS b i (by grind)
  ·by_cases hx:1<=X b i
   ·exact cO (hXb b i hx) h2.ext.size
   ·exact h2.ld b i (hp.imp (λhp=>by grind) id)
  ·grind
  ·by_cases hx:1<=X b i
   ·exact h.own b i Bys
   ·rcases h2.own b i (by grind) with h1 | h1
    all_goals grind
  ·rcases h2.a1 b i ha with h1 | h1 | h1
   ·exact h.a1 b i h1
   all_goals grind
 ·refine h2.ext.cell b i (yA hu) ?_ u hu;show bi σ.n F b i=0;rcases bI (bi σ.n F b i) with h0 | h0
  ·exact h0
  ·exact absurd ha (h.qS b i Bys)
end
end OT
namespace OT
open Go
section
variable {P:Program} {C:Ctx} {A:Cells} {X:FP} {σ:St} {a:Act} {w:World} {F:Nat->FP} {R:Type} {x:R} {Q:Exit->Act->World->Prop} {o:Oper} {E:Env}
theorem Rel.congr (h:Rel P C A X σ a w F) {σ':St} (hn:σ'.n=σ.n) (hg:∀ i,σ'.get i=σ.get i) (hv:∀ i,σ'.lA i=σ.lA i) (hl:∀ e,e ∈ σ'.ay↔e ∈ σ.ay) (ZZ:∀ e,e ∈ σ'.gh->e ∈ σ.gh):Rel P C A X σ' a w F:=by
 have oE:zy σ a w σ' a w:=λr p snap hb=>⟨by rw[hv];exact hb,λbd=>by
  unfold St.ok at bd ⊢;rw[hv] at bd
  exact ⟨bd,λ_ pl i7=>⟨pl.H,pl.cs,by unfold place at i7 ⊢;rw[hg];exact i7,λ_=>rfl⟩⟩⟩
 refine ⟨by rw[hn];exact h.size,h.defers,λi hi=>?_,λd r p snap hm=>sA.nx oE (h.gh d r p snap (ZZ _ hm)),λb i=>by rw[hn];exact h.qe b i,λb i hp=>by rw[hn] at hp;exact h.qS b i hp,λb i hp=>by rw[hn] at hp;exact h.ld b i hp,
  λi=>by rw[hv];exact h.mD i,h.ext,λb i hp=>by rw[hn] at hp;exact h.own b i hp,h.a0,h.a1,λj k hm=>h.pu j k ((hl _).1 hm),λr t m H v hr hk=>?_,λj k hm R hR=>?_,h.yp⟩
 ·rw[hg];exact dn.nx oE (λ_ _ h=>h) (λ_ _ _ _ h=>h) (λ_ _ h=>h) (λ_ _ _=>⟨λ_ h=>h,rfl⟩) (h.iZ i (by rw[<-hn];exact hi))
 ·rw[hg] at hr;exact h.whole r t m H v hr λk hm=>hk k ((hl _).2 hm)
 ·rw[hg] at hR;exact h.om j k ((hl _).1 hm) R hR
theorem Rel.same (h:Rel P C A X σ a w F) {t:Nat} {s:Slot} (hs:σ.get t=s):Rel P C A X (σ.ml t s) a w F:=
 h.congr rfl (λi=>by
  rw[HO];split
  ·rename_i hc;rw[<-hs,hc.1]
  ·rfl) (λi=>rfl) (λe=>iG) (λe he=>he)
theorem OQ (h:Rel P C A X σ a w F) {ops:Array Oper} {o:Oper} {K:Bool->St->Option R} (hk:F8 ops.toList σ o.guard K=some x):∃ (b:Bool) (σ':St),K b σ'=some x/\Rel P C A X σ' a w F/\Region.wanted o (yielded ops a.tmps)=b:=by
 unfold F8 at hk;split at hk
 ·rename_i hg;exact ⟨true,σ,hk,h,by simp[Region.wanted,hg]⟩
 ·rename_i j want hg;split at hk
  ·cases hk
  ·rename_i t ht;rw[dL] at ht
   have hy:∀ v,tmp a t=v->t < σ.n->yielded ops a.tmps j=match v with | .bool b=>some b | _=>none:=λv hv FM=>by
    have a8:t < a.tmps.size:=by rw[h.size];exact FM
    unfold yielded;rw[ht];have:a.tmps[t]?=some v:=by rw[gM a8,<- hv];simp[tmp,a8]
    simp only[aA,this];cases v <;> rfl
   have a8:∀ s,σ.get t=s->s≠.dead->t < σ.n:=λs hs lU=>by
    rcases cK t σ.n with hi | hi
    ·exact hi
    ·rw[mN (fK.2 hi)] at hs;exact absurd hs.symm lU
   split at hk
   ·rename_i b OR;have FM:=a8 _ OR (by intro e;cases e);have hs:=h.iZ t FM;rw[OR] at hs;have hv:=Ox hs;have SC:=hy _ hv FM;simp only at SC
    cases b with
    | true=>exact ⟨_,_,hk,Rel.same h OR,by simp only[Region.wanted,hg,SC];cases want <;> rfl⟩
    | false=>exact ⟨_,_,hk,Rel.same h OR,by simp only[Region.wanted,hg,SC];cases want <;> rfl⟩
   ·rename_i OR;have FM:=a8 _ OR (by intro e;cases e);have hs:=h.iZ t FM;rw[OR] at hs;obtain ⟨vs,Fi,h1,_⟩:=hs;have SC:=hy _ h1 FM;simp only at SC;exact ⟨false,σ,hk,h,by simp only[Region.wanted,hg,SC];cases want <;> rfl⟩
   ·cases hk
theorem LK (h:Rel P C A X σ a w F) (o:Oper):∃ F',Rel P C A X (σ.cq o.dst (.sQ [])) (a.put o.dst undef) w F':=
 h.cq o.dst (s:=.sQ []) (v:=undef) (Fd:=λ_ _=>0) (X':=X) ⟨#[],λ_ _ _=>0,rfl,λb i=>by simp[bi],λj y hy=>by cases hy⟩ (λb i=>aI _) (λ_ _ _ _ e=>by cases e)
theorem abY (hE:ul P E) {iK:Nat} {ops:Array Oper} (dt:∀ o ∈ ops.toList,sD P o.op=true) {K:St->Option R} (hQ:∀ a w,Nx P C K x a w->Q .normal a w) :
  ∀ (rest:List Oper) (i:Nat) {σ:St} {A:Cells} {a:Act} {w:World} {F:Nat->FP},ops.toList.drop i=rest->ek P C A σ a w F->Lt E iK ops.toList rest i σ K=some x->wpOps P ops Q (List.range' i rest.length) a w:=by
 intro rest
 induction rest with
 | nil=>intro i σ A a w F hd h hk;exact hQ a w ⟨σ,hk,A,F,h⟩
 | cons o rest ih=>
  intro i σ A a w F hd h hk
  have hi:ops[i]?=some o:=by
   have:(ops.toList.drop i)[0]?=some o:=by rw[hd];rfl
   rw[bM] at this
   simpa using this
  have uB:ops.toList.drop (i+1)=rest:=by rw[<-dE,hd];rfl
  have AP:o ∈ ops.toList:=bU (i:=i) (by simpa using hi);simp only[Lt] at hk;obtain ⟨b,qA,hk,h1,hw⟩:=OQ h hk;show wpOps P ops Q (i::List.range' (i+1) rest.length) a w;simp only[wpOps,hi,hw]
  cases b with
  | true=>
   simp only[aH];refine .inl (Oper.wp_mono (λa' w' hn=>?_) (aaK hE h1 (dt o AP) hk));obtain ⟨mX,nB,A2,F2,h2⟩:=hn;exact ih (i+1) uB h2 nB
  | false=>
   simp only[aF,aS];obtain ⟨F2,h2⟩:=LK h1 o;exact ih (i+1) uB h2 hk
theorem Ww (hE:ul P E) {iK id:Nat} {ops:Array Oper} (dt:∀ o ∈ ops.toList,sD P o.op=true) (h:ek P C A σ a w F) {K:St->Option R} (hk:Lt E iK ops.toList ops.toList 0 σ K=some x) (hQ:∀ a w,Nx P C K x a w->Q .normal a w) :
  (Code.region id ops false).wp P Q a w:=by
 refine wp_region ?_;have:=abY hE dt hQ ops.toList 0 (by simp) h hk
 simpa [fD] using this
def wk (P:Program) (md:Region.Mode) (ops:Array Oper) (Q:Exit->Act->World->Prop) (S:Array Bool->World->Prop):Nat->Array Bool->Act->World->Prop
 | 0,lO,a,w=>Region.ready md ops lO=[]/\Q .normal a w
 | fuel+1,lO,a,w=>
  (Region.ready md ops lO=[]->Q .normal a w) /\
  ∀ i ∈ Region.ready md ops lO,wpOp P ops Q i (λa' w'=>S (lO.setIfInBounds i true) w'/\wk P md ops Q S fuel (lO.setIfInBounds i true) a' w') a w
theorem Ke {md:Region.Mode} {ops:Array Oper} {S:Array Bool->World->Prop}:∀ (fuel:Nat) (lO:Array Bool) (a:Act) (w:World),wk P md ops Q S fuel lO a w->wpAny P md ops Q fuel lO a w
 | 0,_,_,_,h=>h
 | fuel+1,_,_,_,h=>⟨h.1,λi hi=>wpOp_mono (λa' w' h'=>Ke fuel _ a' w' h'.2) (h.2 i hi)⟩
def D1 (md:Region.Mode) (ops:Array Oper) (l:Array Bool):Prop:=∀ j o,ops[j]?=some o->l.getD j false=true->∀ e ∈ o.after,Region.binds md e=true->l.getD e.on false=true
theorem ED {md:Region.Mode} {ops:Array Oper} {l:Array Bool} (h:D1 md ops l) {j:Nat} (hj:j ∈ Region.ready md ops l):D1 md ops (l.setIfInBounds j true):=by
 obtain ⟨_,oj,Kg,tV⟩:=mem_ready.1 hj;intro k o hk hl e he hb;by_cases C0:j=k
 ·subst C0;rw[Kg] at hk;injection hk with hk;subst hk;exact getD_set_true (tV e he hb)
 ·rw[getD_set_ne false C0] at hl;exact getD_set_true (h k o hk hl e he hb)
def SU (md:Region.Mode) (ops:Array Oper) (S:Array Bool->World->Prop) (i:Nat):World->Prop:=λw'=>∃ l,D1 md ops l/\l.getD i true=false/\S l w'
theorem yF {md:Region.Mode} {ops:Array Oper} {S:Array Bool->World->Prop} {i:Nat} {oi:Oper} {v:Value} (hi:ops[i]?=some oi) (EE:∀ (j:Nat) (o:Oper) cs b,ops[j]?=some o->o.op≠.select cs b)
  (hQ:∀ c a w,Q (.panic c) (a.put oi.dst v) w->Q (.panic c) a w) (hS:∀ l w,S (l.setIfInBounds i true) w↔S l w) :
  ∀ (fuel:Nat) (lO:Array Bool) (a:Act) (w:World),
   (∀ j oj,ops[j]?=some oj->j≠i->lO.getD j true=false->(∀ e ∈ oj.after,Region.binds md e=true->e.on≠i)->oi.apart ops oj=true) ->
   i ∈ Region.ready md ops lO->D1 md ops lO->YieldsIf P ops (SU md ops S i) oi v a->S lO w ->
   wk P md ops Q S fuel (lO.setIfInBounds i true) (a.put oi.dst v) w->wk P md ops Q S (fuel+1) lO a w:=by
 intro fuel
 induction fuel with
 | zero=>
  intro lO a w _ hr hc hy hs H;have uE:lO.getD i true=false:=(mem_ready.1 hr).1;refine ⟨λh=>(by rw[h] at hr;cases hr),λj hj=>?_⟩
  by_cases pc:j=i
  ·subst pc;exact hy.wpOp hi ⟨lO,hc,uE,hs⟩ ⟨(hS _ _).2 hs,H⟩
  ·have:=ready_mono hj pc;rw[H.1] at this;cases this
 | succ fuel ih=>
  intro lO a w NK hr hc hy hs H;have uE:lO.getD i true=false:=(mem_ready.1 hr).1;refine ⟨λh=>(by rw[h] at hr;cases hr),λj hj=>?_⟩
  by_cases pc:j=i
  ·subst pc;exact hy.wpOp hi ⟨lO,hc,uE,hs⟩ ⟨(hS _ _).2 hs,H⟩
  ·have h1:=H.2 j (ready_mono hj pc);obtain ⟨abZ,oj,Kg,tV⟩:=mem_ready.1 hj
   have ab0:∀ e ∈ oj.after,Region.binds md e=true->e.on≠i:=λe he hb heq=>by
    have h1:=tV e he hb;have h0:=(mem_ready.1 hr).1;rw[heq] at h1;rcases cK i lO.size with h' | h'
    ·simp[h'] at h0 h1;rw[h0] at h1;cases h1
    ·simp[dU h'] at h1
   have h2:=wpOp_putIf Kg (NK j oj Kg pc abZ ab0) (λcs b=>EE i oi cs b hi) (λcs b=>EE j oj cs b Kg) hQ hy h1
   have ab1:∀ k ok,ops[k]?=some ok->k≠i->(lO.setIfInBounds j true).getD k true=false ->
     (∀ e ∈ ok.after,Region.binds md e=true->e.on≠i)->oi.apart ops ok=true:=λk ok hk hki uE rP=>by
    refine NK k ok hk hki ?_ rP;by_cases hjk:j=k
    ·subst hjk;exact abZ
    ·rw[getD_set_ne true hjk] at uE;exact uE
   refine wpOp_mono (λa' w' h3=>?_) h2;have h4:=h3.2.1;have h5:=h3.2.2;rw[Array.setIfInBounds_comm _ _ (Ne.symm pc)] at h4 h5;have h6:=(hS _ _).1 h4;exact ⟨h6,ih (lO.setIfInBounds j true) a' w' ab1 (ready_mono hr (Ne.symm pc)) (ED hc hj) h3.1 h6 h5⟩
def MG (ops:Array Oper):Nat->Nat->Nat->Bool
 | 0,_,_=>false
 | n+1,d,i=>match ops[d]? with
  | some o=>o.after.toList.any λe=>Region.binds .any e&&(Nat.beq e.on i||MG ops n e.on i)
  | none=>false
theorem wJ {ops:Array Oper} {l:Array Bool} (h:D1 .any ops l):∀ (n d i:Nat),MG ops n d i=true->l.getD d false=true->l.getD i false=true
 | 0,_,_,ha,_=>by cases ha
 | n+1,d,i,ha,hd=>by
  simp only[MG] at ha;split at ha
  ·rename_i o ho;obtain ⟨e,he,hb⟩:=dY.1 ha;simp only[aD,cZ,eI] at hb;have hl:=h d o ho hd e (by simpa using he) hb.1;rcases hb.2 with hb | hb
   ·rw[<-hb];exact hl
   ·exact wJ h n e.on i hb hl
  ·cases ha
def rr (E:Env) (ops:Array Oper) (d:Nat):Bool:=match ops[d]? with
 | some o=>!xd E o.op&&!quiet E o.op
 | none=>false
def C3 (l:Array Bool):List Nat->Array Bool
 | []=>l
 | j::js=>C3 (l.setIfInBounds j true) js
def Cd (E:Env) (iK:Nat) (ops:Array Oper) (pd:List Nat):List Nat->Array Bool->Bool->Bool
 | [],l,_=>(Region.ready .any ops l).isEmpty
 | i::is,l,f=>match ops[i]? with
  | none=>false
  | some o=>
   match pd.any (Nat.beq i) with
   | true=>!is.any (Nat.beq i)&&(Region.ready .any ops l).contains i&&(Region.ready .any ops (C3 l (pd.filter λj=>!Nat.beq i j))).all (λj=>pd.any (Nat.beq j))&&Cd E iK ops pd is (l.setIfInBounds i true) f
   | false=>
   match xd E o.op&&(Region.free .any ops l i&&(Region.ready .any ops l).contains i&&(!reads o.op||Ob E iK i||TF E iK i||(f&&(List.range ops.size).all λd=>!rr E ops d||MG ops ops.size d i))) with
   | true=>Cd E iK ops pd is (l.setIfInBounds i true) f
   | false=>(Region.ready .any ops l).contains i&&(Region.ready .any ops (C3 l pd)).all (Nat.beq i)&&Cd E iK ops pd is (l.setIfInBounds i true) false
noncomputable def Gz (E:Env) (ops:Array Oper) (pd:List Nat):Bool:=pd.all λj=>match ops[j]? with
 | some o=>(match o.guard with
  | none=>true
  | some _=>false)&&(Aq E o.op).isSome&&(match o.dst with
   | some d=>(List.range ops.size).all λk=>Nat.beq k j||(match ops[k]? with
    | some o'=>(match o'.dst with
     | some d'=>!Nat.beq d' d
     | none=>true)
    | none=>true)
   | none=>false)
 | none=>false
def Kh:List Nat->Bool
 | []=>true
 | i::is=>!is.any (Nat.beq i)&&Kh is
noncomputable def Ce (E:Env) (ops:Array Oper) (pd:List Nat) (er:List (Nat×Nat)):Bool:=er.all λe=>!pd.any (Nat.beq e.1)&&(Nat.ble ops.size e.2||(rr E ops e.2&&!pd.any (Nat.beq e.2)&&MG ops ops.size e.2 e.1))&&(match ops[e.1]? with
 | some o=>(match o.guard with
  | none=>true
  | some _=>false)&&(match o.op,o.dst with
   | .load _ (.tmp x),some d=>!Nat.beq x d&&(List.range ops.size).all λk=>Nat.beq k e.1||(match ops[k]? with
    | some o'=>(match o'.dst with
     | some d'=>!Nat.beq d' d&&(!Nat.beq d' x||MG ops ops.size e.1 k)
     | none=>true)
    | none=>true)
   | _,_=>false)
 | none=>false)
noncomputable def OS (E:Env) (iK:Nat) (ops:Array Oper) (is:List Nat):Bool:=
 Region.noSelect ops&&Nat.ble is.length ops.size&&(Gz E ops (pa E.pd iK)&&(pa E.pd iK).all λj=>is.any (Nat.beq j))&&(Kh is&&(List.range ops.size).all (λk=>is.any (Nat.beq k))&&Ce E ops (pa E.pd iK) (JK E.er iK))&&Cd E iK ops (pa E.pd iK) is (Array.replicate ops.size false) (match pa E.pd iK with
  | []=>true
  | _::_=>false)
theorem aad {K:St->Option R}:∀ (is:List Nat) {σ:St} {A:Cells} {F:Nat->FP},ek P C A σ a w F->Se σ is K=some x->∃ (A':Cells) (σ':St) (F':Nat->FP),K σ'=some x/\ek P C A' σ' a w F':=by
 intro is
 induction is with
 | nil=>intro σ A F h hk;exact ⟨A,σ,F,hk,h⟩
 | cons i is ih=>
  intro σ A F h hk;simp only[Se] at hk;split at hk
  ·rename_i t m H v hg;split at hk
   ·rename_i hc;simp only[aD,bC] at hc;obtain ⟨hH,B_⟩:=hc;subst hH;obtain ⟨A1,F1,_,h1,_,_⟩:=Wk h hg;exact ih h1 hk
   ·cases hk
  ·cases hk
theorem Rel.ab2 (h:ek P C A σ a w F):∃ C':Ctx,C'.w0=w/\C'.A0=A/\(∀ b i,A b i->C'.F0 b i=0)/\ek P C' A σ a w F/\(∀ {A2:Cells} {mX:St} {a2:Act} {w2:World} {F2:Nat->FP},ek P C' A2 mX a2 w2 F2->ek P C A2 mX a2 w2 F2):=by
 have jz:∀ b i,1<=bi σ.n F b i->1<=C.F0 b i\/C.w0.heap.size<=b:=λb i hp=>h.own b i (by show 1<=0+_;omega);refine ⟨⟨w,A,bi σ.n F,C.args⟩,rfl,rfl,λb i ha=>?_,?_,λ{A2 mX a2 w2 F2} h2=>?_⟩
 ·rcases bI (bi σ.n F b i) with h0 | h0
  ·exact h0
  ·exact absurd ha (h.qS b i (by show 1<=0+_;omega))
 ·exact { h with ext:=Ext.refl _ _,own:=λb i hp=>.inl (by have hp:1<=0+bi σ.n F b i:=hp;show 1<=bi σ.n F b i;omega),a0:=λ_ _ h=>h,a1:=λ_ _ h=>.inl h,pu:=h.pu,om:=h.om,yp:=h.Et λb i hp=>by have hp:1<=bi σ.n F b i:=hp;show 1<=0+_;omega }
 ·have ol:C.w0.heap.size<=w.heap.size:=h.ext.size;refine { h2 with ext:=h.ext.trans h2.ext (λb i hb hz=>?_),own:=λb i hp=>?_,a0:=λb i ha=>h2.a0 b i (h.a0 b i ha),a1:=λb i ha=>?_,pu:=h2.pu,om:=h2.om,yp:=h.yp }
  ·show bi σ.n F b i=0;rcases bI (bi σ.n F b i) with h0 | h0
   ·exact h0
   ·rcases jz b i h0 with h1 | h1 <;> omega
  ·rcases h2.own b i hp with h1 | h1
   ·exact jz b i h1
   ·exact .inr (bH ol h1)
  ·rcases h2.a1 b i ha with h1 | h1 | h1
   ·exact h.a1 b i h1
   ·exact .inr (jz b i h1)
   ·exact .inr (.inr (bH ol h1))
theorem aaM (h:ek P C A σ a w F) (hE:ul P E) {iK i:Nat} (dt:sD P o.op=true) (rm:xd E o.op=true) (J4:Oa σ o=true) {K:St->Option R} (hk:sM E iK i o σ K=some x) :
  ∃ v,(∀ w',(∀ b i,A b i->∀ u,ce w b i=some u->ce w' b i=some u)->(execOp a.eval o).run P w'=.ok (.value v) w')/\Nx P C K x (a.put o.dst v) w:=by
 unfold Oa at J4;split at J4
 ·rename_i t y ho;split at J4
  ·rename_i t' v hv;unfold sM at hk;simp only[ho,JI] at hk
   cases hf:X_ E.fz iK i 8 with
   | true=>rw[hf] at hk;simp only[hv] at hk;cases hk
   | false=>
   rw[hf] at hk;simp only[hv,Ej] at hk;obtain ⟨T,hT,hk⟩:=ik hk;have jr:=hE.ti _ _ hT;split at hk
   ·rename_i e;subst e;rw[ho] at dt
    rcases gi h dt with hs | ⟨xs,e⟩
    rotate_left
    ·rw[e] at hv;cases hv
    rw[hv] at hs;obtain ⟨⟨b,off,sp⟩,h1,h2,L,h3,h4,h5⟩:=hs;simp only[dI,eF] at h1;simp only at h2;subst h2;refine ⟨dm t' L,λw' ug=>?_,cx h hk ⟨L,rfl,h5⟩ (λ_ _ _ _ e=>by cases e)⟩
    simp[execOp,ho,h1,Instr.loadAt,Instr.sureAddr,zU jr (λj u hu=>ug _ _ (h4 j u hu).2 u (h4 j u hu).1) h3 (Ro.one _ h5)]
   ·cases hk
  ·cases J4
 ·rename_i s t y ho;unfold sM at hk;simp only[ho] at hk;rw[ho] at dt;refine J3 h hE.ti ho dt (λT hT=>?_) J4 hk;rw[ho] at rm;simp only[xd,hT] at rm;exact rm
 ·cases J4
def Dt (ops:Array Oper) (l:Array Bool) (u:Nat):Prop:=ops.size<=u\/l.getD u false=false
def SD (E:Env) (ops:Array Oper) (w0:World) (C:Ctx) (RC:List (Nat×Nat×Nat×Nat×List Value)):Array Bool->World->Prop:=λl w'=>((∀ d,rr E ops d=true->l.getD d false=false)->Ext w0 w' (λ_ _=>0))/\(∀ b i,C.A0 b i->∀ u,ce C.w0 b i=some u->ce w' b i=some u)/\∀ e ∈ RC,Dt ops l e.2.1->Has w' e.2.2.1 e.2.2.2.1 e.2.2.2.2
theorem aaN {next:Act->World->Prop} (h:Tk P o a w next):o.wp P a w (λa' w'=>w=w'/\next a' w') Q:=by
 obtain ⟨v,h1,h2⟩:=h;exact pg (h1 w λ_=>Ext.refl _ _) ⟨rfl,h2⟩
theorem Du {md:Region.Mode} {ops:Array Oper} {S S':Array Bool->World->Prop} (hS:∀ l w,S l w->S' l w):∀ (fuel:Nat) (lO:Array Bool) (a:Act) (w:World),wk P md ops Q S fuel lO a w->wk P md ops Q S' fuel lO a w
 | 0,_,_,_,h=>h
 | fuel+1,_,_,_,h=>⟨h.1,λi hi=>wpOp_mono (λa' w' h'=>⟨hS _ _ h'.1,Du hS fuel _ a' w' h'.2⟩) (h.2 i hi)⟩
theorem OU (a:Act) (d:Nat):a.put (some d) (tmp a d)=a:=by
 have:a.tmps.setIfInBounds d (tmp a d)=a.tmps:=by
  unfold tmp;apply Array.ext
  ·simp
  ·intro i h1 h2;rw[gH];split
   ·rename_i e;subst e;simp[h2]
   ·rfl
 show { a with tmps:=a.tmps.setIfInBounds d (tmp a d) }=a;rw[this]
theorem acU {ops:Array Oper} {K:St->Option R}:∀ (js:List Nat) {σ:St} {F:Nat->FP},ek P C A σ a w F->VO ops.toList σ js K=some x->∃ (σ':St) (F':Nat->FP),K σ'=some x/\ek P C A σ' a w F':=by
 intro js
 induction js with
 | nil=>intro σ F h hk;exact ⟨σ,F,hk,h⟩
 | cons j js ih=>
  intro σ F h hk;simp only[VO] at hk;split at hk
  ·rename_i d hd;obtain ⟨F1,h1⟩:=h.cq (some d) (s:=.dead) (v:=tmp a d) (Fd:=λ_ _=>0) (X':=λ_ _=>0) trivial (λb i=>aI _) (λ_ _ _ _ e=>by cases e);rw[OU] at h1;exact ih h1 hk
  ·cases hk
theorem EF:∀ (js:List Nat) (l:Array Bool) (k:Nat) (b:Bool),(C3 l js).getD k b=if k ∈ js/\k < l.size then true else l.getD k b
 | [],l,k,b=>by simp[C3]
 | j::js,l,k,b=>by
  rw[C3,EF js];simp only[Array.size_setIfInBounds];by_cases h1:k ∈ js/\k < l.size
  ·rw[aM h1,aM ⟨by simp[h1.1],h1.2⟩]
  ·rw[aV h1];by_cases C0:j=k
   ·subst C0;by_cases a8:j < l.size
    ·rw[aM ⟨by simp,a8⟩];simp[a8]
    ·rw[aV (λh=>a8 h.2)];simp[a8]
   ·rw[getD_set_ne b C0,aV];rintro ⟨h2,h3⟩;rcases aY.1 h2 with e | e
    ·exact C0 e.symm
    ·exact h1 ⟨e,h3⟩
theorem rt {l:List Nat} {i:Nat}:l.any (Nat.beq i)=true↔i ∈ l:=by
 rw[dY];constructor
 ·rintro ⟨y,h1,h2⟩;rw[cQ h2];exact h1
 ·intro h;exact ⟨i,h,gU i⟩
theorem Dv {ops:Array Oper} {pd:List Nat} (h:Gz E ops pd=true) {j:Nat} (hj:j ∈ pd):∃ o d s,ops[j]?=some o/\o.guard=none/\o.dst=some d/\Aq E o.op=some s/\∀ k o',ops[k]?=some o'->k≠j->o'.dst≠some d:=by
 unfold Gz at h;have h:=bG.1 h j hj;split at h
 ·rename_i o ho;simp only[aD] at h;obtain ⟨⟨h1,h2⟩,h3⟩:=h;split at h3
  ·rename_i d hd;obtain ⟨s,hs⟩:=dZ.1 h2;refine ⟨o,d,s,ho,?_,hd,hs,λk o' hk C0 e=>?_⟩
   ·split at h1
    ·assumption
    ·cases h1
   ·have:=bG.1 h3 k (cD.2 (bZ.1 hk).1);rw[hk] at this;simp only[e,cZ] at this;rcases this with h4 | h4
    ·exact C0 (cQ h4)
    ·simp at h4
  ·cases h3
 ·cases h
def RE (ops:Array Oper) (er:List (Nat×Nat)) (L:Array Bool) (a:Act) (w:World) (e:Nat×Nat×Nat×Nat×List Value):Prop:=(e.1,e.2.1) ∈ er/\L.getD e.1 false=true /\
 ∃ o t x d,ops[e.1]?=some o/\o.op=.load t (.tmp x)/\o.dst=some d/\tmp a x=.pointer (some ⟨e.2.2.1,e.2.2.2.1,none⟩)/\(tmp a d).cells.toList=e.2.2.2.2/\(Dt ops L e.2.1->Has w e.2.2.1 e.2.2.2.1 e.2.2.2.2)
theorem Ip:∀ {is:List Nat},Kh is=true->is.Nodup
 | [],_=>fP
 | i::is,h=>by
  simp only[Kh,aD,cC] at h;refine cH.2 ⟨λhm=>?_,Ip h.2⟩;have:=h.1;rw[rt.2 hm] at this;cases this
theorem xp {E:Env} {ops:Array Oper} {pd:List Nat} {er:List (Nat×Nat)} (h:Ce E ops pd er=true) {j u:Nat} (hj:(j,u) ∈ er):j ∉ pd/\(ops.size<=u\/(rr E ops u=true/\u ∉ pd/\MG ops ops.size u j=true))/\∃ o t x d,ops[j]?=some o/\o.guard=none/\o.op=.load t (.tmp x)/\o.dst=some d/\x≠d /\
  ∀ k o',ops[k]?=some o'->k≠j->o'.dst≠some d/\(o'.dst=some x->MG ops ops.size j k=true):=by
 unfold Ce at h;have h1:=bG.1 h _ hj;simp only[aD,cZ,cC,dK] at h1;obtain ⟨⟨h0,hu⟩,h1⟩:=h1;refine ⟨λhm=>?_,hu.imp id λq=>⟨q.1.1,λhm=>?_,q.2⟩,?_⟩
 ·rw[rt.2 hm] at h0;cases h0
 ·have q2:=q.1.2;rw[rt.2 hm] at q2;cases q2
 split at h1
 ·rename_i o ho;simp only[aD] at h1;obtain ⟨h2,h3⟩:=h1;split at h3
  ·rename_i t x d hop hd;simp only[aD,cC,bG,cD] at h3;obtain ⟨h4,h5⟩:=h3;refine ⟨o,t,x,d,ho,?_,hop,hd,(λe=>by subst e;rw[gU] at h4;cases h4),λk o' hk C0=>?_⟩
   ·cases hg:o.guard with
    | none=>rfl
    | some g=>rw[hg] at h2;cases h2
   ·have h6:=h5 k (bZ.1 hk).1;rw[hk] at h6;simp only[cZ] at h6;rcases h6 with h6 | h6
    ·exact absurd (cQ h6) C0
    ·cases uB:o'.dst with
     | none=>exact ⟨(λe=>by cases e),λe=>by cases e⟩
     | some d'=>
      rw[uB] at h6;simp only[aD,cZ,cC] at h6;refine ⟨λe=>?_,λe=>?_⟩
      ·injection e with e;subst e;rw[gU] at h6;cases h6.1
      ·injection e with e;subst e;rcases h6.2 with h7 | h7
       ·rw[gU] at h7;cases h7
       ·exact h7
  ·cases h3
 ·cases h1
theorem zE:∀ {p q:Path},yh p q=true->p=q
 | [],[],_=>rfl
 | .fst::p,.fst::q,h=>by simp only[yh] at h;rw[zE h]
 | .snd::p,.snd::q,h=>by simp only[yh] at h;rw[zE h]
 | .idx i::p,.idx j::q,h=>by simp only[yh,aD] at h;rw[cQ h.1,zE h.2]
 | .rO i::p,.rO j::q,h=>by simp only[yh,aD] at h;rw[cQ h.1,zE h.2]
theorem Wx (h:Rel P C A X σ a w F) {o:Oper} (bd:Yd σ o=true) {t x d:Nat} (ho:o.op=.load t (.tmp x)) (hd:o.dst=some d) {b off:Nat} (hx:tmp a x=.pointer (some ⟨b,off,none⟩)):Has w b off (tmp a d).cells.toList/\d < a.tmps.size:=by
 unfold Yd at bd;rw[ho,hd] at bd;simp only at bd
 have lt:∀ {i:Nat},σ.get i≠.dead->i < σ.n:=λ{i} hi=>by
  rcases cK i σ.n with h1 | h1
  ·exact h1
  ·exact absurd (mN (fK.2 h1)) hi
 split at bd
 ·rename_i r p s SE;split at bd
  ·rename_i r' p' s' C4;simp only[aD] at bd;obtain ⟨⟨h1,h2,h3⟩,h4⟩:=bd;have e1:=cQ h1;have e2:=zE h4;subst e1;subst e2;have Ar:=h.iZ x (lt (by rw[SE];intro e;cases e));rw[SE] at Ar;obtain ⟨pl,b',o',g1,g2,g3,_⟩:=Ar.2 h2;rw[hx] at g3;simp only[Value.pointer.injEq,aQ,Addr.mk.injEq,eF] at g3;obtain ⟨rfl,rfl⟩:=g3;have MH:=h.iZ d (lt (by rw[C4];intro e;cases e));rw[C4] at MH;obtain ⟨Mr,k1,k2,_⟩:=MH.2 h3;rw[g1] at k1;injection k1 with k1;subst k1;have hr:=uY g1;have i7:=g1;unfold place at i7
   cases hR:ei w (tmp a r) (σ.get r) with
   | none=>rw[hR] at i7;cases i7
   | some R=>
    rw[hR] at i7;simp only[aA] at i7;obtain ⟨m,v,F1,q1,_,q2,_⟩:=yq (h.iZ r hr) hR;obtain ⟨z1,m',v',F',z2⟩:=Sh p R.t q1 (λb o e=>(q2 b o e).1) i7;rw[k2,lV (au.length _ z2) (au.one _ z2)];exact ⟨z1 _ _ g2,by rw[h.size];exact lt (by rw[C4];intro e;cases e)⟩
  ·rename_i v C4;simp only[aD] at bd;obtain ⟨h2,hi⟩:=bd;unfold ZS at hi;split at hi;rotate_left
   ·cases hi
   rename_i bb jt;subst hi;have Ar:=h.iZ x (lt (by rw[SE];intro e;cases e));rw[SE] at Ar;obtain ⟨pl,b',o',g1,g2,g3,_⟩:=Ar.2 h2;rw[hx] at g3;simp only[Value.pointer.injEq,aQ,Addr.mk.injEq,eF] at g3;obtain ⟨rfl,rfl⟩:=g3;have MH:=h.iZ d (lt (by rw[C4];intro e;cases e));rw[C4] at MH;obtain ⟨d9,k1,k2⟩:=MH;obtain ⟨hr,t',m',H',v',co,dr,F',i1,i2,i3,i4,i5,i6⟩:=lZ h jt;rw[i3] at g1;injection g1 with g1;subst g1;simp only at g2;subst g2;obtain ⟨e,i1⟩:=di i1;subst e;simp only[aQ,bF] at i1;have hh:Has w b off co:=by first | exact (i6 b off rfl).1 | exact i6 b off rfl | exact (i5 b off rfl).1 | exact i5 b off rfl
   have c1:co=[.int .i64 v]:=by
    have i4:_:=i4;simp only[au] at i4;rw[<-i1]
    first | exact i4.1 | exact i4 | exact i4.2 | simp_all
   have c2:d9=[.int .i64 v]:=k2;rw[k1,c2,lV rfl (λu hu=>by rw[bL] at hu;subst hu;rfl)];rw[c1] at hh;exact ⟨hh,by rw[h.size];exact lt (by rw[C4];intro e;cases e)⟩
  ·cases bd
 ·rename_i tb mb Hb vb SE;split at bd
  ·rename_i r' p' s' C4;simp only[aD] at bd;obtain ⟨⟨h1,h3⟩,h4⟩:=bd;have e1:=cQ h1;have e2:=zE h4;subst e1;subst e2;have MH:=h.iZ d (lt (by rw[C4];intro e;cases e));rw[C4] at MH;obtain ⟨Mr,k1,k2,_⟩:=MH.2 h3;have hr:=uY k1;have i7:=k1;unfold place at i7
   cases hR:ei w (tmp a x) (σ.get x) with
   | none=>rw[hR] at i7;cases i7
   | some R=>
    rw[hR] at i7;simp only[aA] at i7;obtain ⟨m,v,F1,q1,_,q2,_⟩:=yq (h.iZ x hr) hR;obtain ⟨z1,m',v',F',z2⟩:=Sh [] R.t q1 (λb o e=>(q2 b o e).1) i7;rw[k2,lV (au.length _ z2) (au.one _ z2)]
    have lN:Mr.ad=some (b,off):=by
     rw[SE,hx] at hR;simp only[ei,aQ] at hR;subst hR;simp only[cb,aQ] at i7;subst i7;rfl
    exact ⟨z1 _ _ lN,by rw[h.size];exact lt (by rw[C4];intro e;cases e)⟩
  ·cases bd
 ·cases bd
theorem quiet_of {iK i:Nat} {o:Oper} {K:St->Option R} (hk:sM E iK i o σ K=some x) (hm:HK o.op=false) (ht:xd E o.op=false):quiet E o.op=true:=by
 unfold sM at hk;cases ho:o.op <;> rw[ho] at hk hm ht <;> first | rfl | (cases hm;done) | (cases ht;done) | (simp only[reduceCtorEq] at hk;done) | skip
theorem OV (h:ek P C A σ a w F) (hE:ul P E) {t x0:Nat} {mv:Bool} (dt:sD P o.op=true) (ho:o.op=.load t (.tmp x0)) {K:St->Option R} (hk:Ej E σ t (eh σ (.tmp x0)) mv o.dst K=some x) :
  ∃ b off v cs,tmp a x0=.pointer (some ⟨b,off,none⟩)/\Has w b off cs/\v.cells.toList=cs/\∀ w',Has w' b off cs->(execOp a.eval o).run P w'=.ok (.value v) w':=by
 unfold Ej at hk;obtain ⟨T,hT,hk⟩:=ik hk;have jr:=hE.ti _ _ hT
 have run:∀ b off L,a.eval (.tmp x0)=.pointer (some ⟨b,off,none⟩)->L.length=T.sz->(∀ u ∈ L,u.oneCell'=true)->∀ w',Has w' b off L->(execOp a.eval o).run P w'=.ok (.value (dm T L)) w':=λb off L hy hl rU w' hL=>by
  simp[execOp,ho,hy,Instr.loadAt,Instr.sureAddr,zU jr hL hl rU]
 rw[ho] at dt
 rcases gi h (show d_ P (.tmp x0)=true from dt) with hs | ⟨xs,e⟩
 rotate_left
 ·rw[e] at hk;cases hk
 split at hk
 ·rename_i t' v hv;rw[hv] at hs;split at hk
  ·rename_i e;subst e;obtain ⟨⟨b,off,sp⟩,h1,h2,L,h3,h4,h5⟩:=hs;simp only[dI,eF] at h1;simp only at h2;subst h2;exact ⟨b,off,dm t' L,L,h1,λj u hu=>(h4 j u hu).1,lV h3 (Ro.one _ h5),run b off L h1 h3 (Ro.one _ h5)⟩
  ·cases hk
 ·rename_i r p snap hv;rw[hv] at hs;split at hk
  ·rename_i pH;obtain ⟨hr,t',m',H',v',co,dr,F',h1,h2,h3,h4,h5,h6⟩:=lZ h hk;obtain ⟨pl,b,off,g1,g2,g3,g4⟩:=hs.2 pH;rw[h3] at g1;injection g1 with g1;subst g1;simp only at g2;subst g2;split at h1
   ·rename_i e;subst e;have hh:Has w b off co:=by first | exact (h6 b off rfl).1 | exact h6 b off rfl | exact (h5 b off rfl).1 | exact h5 b off rfl
    exact ⟨b,off,dm t' co,co,g3,hh,lV (au.length _ h4) (au.one _ h4),run b off co g3 (au.length _ h4) (au.one _ h4)⟩
   ·cases h1
  ·cases hk
 ·cases hk
theorem aaO (h:ek P C A σ a w F) (hE:ul P E) {iK i t x0:Nat} (dt:sD P o.op=true) (ho:o.op=.load t (.tmp x0)) {K:St->Option R} (hk:sM E iK i o σ K=some x) :
  ∃ b off v cs,tmp a x0=.pointer (some ⟨b,off,none⟩)/\Has w b off cs/\v.cells.toList=cs/\∀ w',Has w' b off cs->(execOp a.eval o).run P w'=.ok (.value v) w':=by
 unfold sM at hk;simp only[ho,JI] at hk;split at hk
 ·exact OV h hE dt ho hk
 ·split at hk
  ·split at hk
   ·obtain ⟨A1,qA,F1,_,_,_,_,_,k1,_,k3,_⟩:=Aj h hk;exact OV k3 hE dt ho k1
   ·cases hk
  ·cases hk
structure Inv (P:Program) (E:Env) (ops:Array Oper) (pd:List Nat) (w0:World) (C:Ctx) (is:List Nat) (l:Array Bool) (f:Bool) (σ:St) (fuel:Nat) (A:Cells) (a:Act) (w:World) (X:FP) (F:Nat->FP) (D:List Nat) (L:Array Bool) (er:List (Nat×Nat)) (RC:List (Nat×Nat×Nat×Nat×List Value)):Prop where
 h:Rel P C A X σ a w F
 pf:PF P E ops A a w D X
 nd:D.Nodup
 MI:∀ j ∈ D,j ∈ pd
 dl:∀ j ∈ D,l.getD j false=false
 qS:∀ j ∈ D,j ∈ is
 cov:∀ j ∈ pd,l.getD j false=true\/j ∈ is
 cnt:(is.filter λk=>decide (k ∉ D)).length<=fuel
 cl:D1 .any ops L
 hS:(∀ d,rr E ops d=true->L.getD d false=false)->Ext w0 w (λ_ _=>0)
 hf:f=true->w=w0/\pd=[]
 Ki:l.size=ops.size
 Cf:L.size=ops.size
 hL:∀ k,L.getD k false=true↔(l.getD k false=true\/k ∈ D)
 Wy:is.Nodup
 Wz:∀ k,k < ops.size->l.getD k false=true\/k ∈ is
 io:∀ k ∈ is,l.getD k false=false
 rc:∀ e ∈ RC,RE ops er L a w e
theorem wK {l:Array Bool} {k:Nat} (h:k < l.size):l.getD k true=l.getD k false:=by simp[h]
theorem iR {l:Array Bool} {i k:Nat} (hi:i < l.size):(l.setIfInBounds i true).getD k false=true↔(k=i\/l.getD k false=true):=by
 by_cases hk:i=k
 ·subst hk;simp[hi]
 ·rw[getD_set_ne false hk];constructor
  ·exact .inr
  ·rintro (h | h)
   ·exact absurd h.symm hk
   ·exact h
theorem Q7 {D:List Nat} {j:Nat} (hD:j ∉ D):∀ (is:List Nat),j ∈ is->(is.filter λk=>decide (k ∉ j::D)).length+1<=(is.filter λk=>decide (k ∉ D)).length:=by
 have hle:∀ (is:List Nat),(is.filter λk=>decide (k ∉ j::D)).length<=(is.filter λk=>decide (k ∉ D)).length:=by
  intro is
  induction is with
  | nil=>exact aI _
  | cons i is ih=>
   simp only[fG];by_cases h1:i ∈ D
   ·have h2:i ∈ j::D:=by simp[h1]
    simp only[h1,h2,fB,aG,aF,aS];exact ih
   ·by_cases h2:i ∈ j::D
    ·simp only[h1,h2,fB,eD,aG,aJ,aF,aS,aH,bE];omega
    ·simp only[h1,h2,eD,aJ,aH,bE];omega
 intro is
 induction is with
 | nil=>intro h;cases h
 | cons i is ih=>
  intro h;simp only[fG];by_cases sw:i=j
  ·subst sw;have h2:i ∈ i::D:=by simp
   simp only[hD,h2,fB,eD,aG,aJ,aF,aS,aH,bE];have:=hle is;omega
  ·have h3:j ∈ is:=by
    rcases aY.1 h with e | e
    ·exact absurd e.symm sw
    ·exact e
   have:=ih h3;by_cases h1:i ∈ D
   ·have h2:i ∈ j::D:=by simp[h1]
    simp only[h1,h2,fB,aG,aF,aS];exact this
   ·have h2:i ∉ j::D:=by simp[h1,sw]
    simp only[h1,h2,eD,aJ,aH,bE];omega
section
variable {ops:Array Oper} {pd:List Nat} {w0:World} {is:List Nat} {l L:Array Bool} {f:Bool} {fuel:Nat} {D:List Nat} {i:Nat} {er:List (Nat×Nat)} {RC:List (Nat×Nat×Nat×Nat×List Value)}
theorem Inv.I6 (v:Inv P E ops pd w0 C is l f σ fuel A a w X F D L er RC) (hi:i ∈ Region.ready .any ops l) (hD:i ∉ D):i ∈ Region.ready .any ops L:=by
 obtain ⟨h0,o,ho,tV⟩:=mem_ready.1 hi;have a8:i < ops.size:=(bZ.1 ho).1;refine mem_ready.2 ⟨?_,o,ho,λe he hb=>(v.hL _).2 (.inl (tV e he hb))⟩;rw[wK (by rw[v.Cf];exact a8)];rw[wK (by rw[v.Ki];exact a8)] at h0
 cases hh:L.getD i false with
 | false=>rfl
 | true=>
  rcases (v.hL i).1 hh with h1 | h1
  ·rw[h0] at h1;cases h1
  ·exact absurd h1 hD
theorem Inv.GA (v:Inv P E ops pd w0 C is l f σ fuel A a w X F D L er RC) {j:Nat} {S:List Nat} (hS:∀ k ∈ D,k ∈ S) (hj:j ∈ Region.ready .any ops L) (hjS:j ∉ S):j ∈ Region.ready .any ops (C3 l S):=by
 obtain ⟨h0,o,ho,tV⟩:=mem_ready.1 hj;have a8:j < ops.size:=(bZ.1 ho).1;refine mem_ready.2 ⟨?_,o,ho,λe he hb=>?_⟩
 ·rw[EF,aV (λh=>hjS h.1),wK (by rw[v.Ki];exact a8)];rw[wK (by rw[v.Cf];exact a8)] at h0
  cases hh:l.getD j false with
  | false=>rfl
  | true=>rw[(v.hL j).2 (.inl hh)] at h0;cases h0
 ·rw[EF];have h1:=tV e he hb;rcases (v.hL _).1 h1 with h2 | h2
  ·split
   ·rfl
   ·exact h2
  ·have a8:e.on < L.size:=by
    rcases cK e.on L.size with h' | h'
    ·exact h'
    ·simp[dU h'] at h1
   rw[aM ⟨hS _ h2,by rw[v.Ki,<- v.Cf];exact a8⟩]
theorem Inv.Kj (v:Inv P E ops pd w0 C is l f σ fuel A a w X F D L er RC) {j:Nat} (h:L.getD j true=false):j ∉ D/\l.getD j false=false/\l.getD j true=false:=by
 have a8:j < L.size:=by
  rcases cK j L.size with h' | h'
  ·exact h'
  ·simp[dU h'] at h
 rw[wK a8] at h
 have h1:l.getD j false=false:=by
  cases hh:l.getD j false with
  | false=>rfl
  | true=>rw[(v.hL j).2 (.inl hh)] at h;cases h
 have h2:j ∉ D:=λhD=>by
  rw[(v.hL j).2 (.inr hD)] at h;cases h
 exact ⟨h2,h1,by rw[wK (by rw[v.Ki,<- v.Cf];exact a8)];exact h1⟩
theorem Inv.next (v:Inv P E ops pd w0 C (i::is) l f σ (fuel+1) A a w X F D L er RC) (hD:i ∉ D) (hr:i ∈ Region.ready .any ops L) {C2:Ctx} {f2:Bool} {mX:St} {A2:Cells} {a2:Act} {w2:World} {F2:Nat->FP}
  (h2:Rel P C2 A2 X mX a2 w2 F2) (hp:PF P E ops A2 a2 w2 D X) (hS2:(∀ d,rr E ops d=true->(L.setIfInBounds i true).getD d false=false)->Ext w0 w2 (λ_ _=>0)) (hf2:f2=true->w2=w0/\pd=[]) {RC2:List (Nat×Nat×Nat×Nat×List Value)} (hrc:∀ e ∈ RC2,RE ops er (L.setIfInBounds i true) a2 w2 e) :
  Inv P E ops pd w0 C2 is (l.setIfInBounds i true) f2 mX fuel A2 a2 w2 X F2 D (L.setIfInBounds i true) er RC2:=by
 obtain ⟨_,o,ho,_⟩:=mem_ready.1 hr;have a8:i < ops.size:=(bZ.1 ho).1;have Cg:i < l.size:=by rw[v.Ki];exact a8
 have Ch:i < L.size:=by rw[v.Cf];exact a8
 refine ⟨h2,hp,v.nd,v.MI,λj hj=>?_,λj hj=>?_,λj hj=>?_,?_,ED v.cl hr,hS2,hf2,by simpa using v.Ki,by simpa using v.Cf,λk=>?_,(cH.1 v.Wy).2,λk hk=>?_,λk hk=>?_,hrc⟩
 ·rw[getD_set_ne false (λe=>by subst e;exact hD hj)];exact v.dl j hj
 ·rcases aY.1 (v.qS j hj) with e | e
  ·subst e;exact absurd hj hD
  ·exact e
 ·rcases v.cov j hj with h | h
  ·exact .inl ((iR Cg).2 (.inr h))
  ·rcases aY.1 h with e | e
   ·exact .inl ((iR Cg).2 (.inl e))
   ·exact .inr e
 ·have:=v.cnt;simp only[fG,hD,eD,aJ,aH,bE] at this;omega
 ·rw[iR Ch,iR Cg,v.hL];exact or_assoc.symm
 ·rcases v.Wz k hk with h | h
  ·exact .inl ((iR Cg).2 (.inr h))
  ·rcases aY.1 h with e | e
   ·exact .inl ((iR Cg).2 (.inl e))
   ·exact .inr e
 ·rw[getD_set_ne false (λe=>by subst e;exact (cH.1 v.Wy).1 hk)];exact v.io k (bD _ hk)
theorem Inv.Uj (v:Inv P E ops pd w0 C (i::is) l f σ fuel A a w X F D L er RC) (hD:i ∈ D) (uh:i ∉ is) {mX:St} {X2:FP} {F2:Nat->FP} (h2:Rel P C A X2 mX a w F2) (hp:PF P E ops A a w (D.erase i) X2) :
  Inv P E ops pd w0 C is (l.setIfInBounds i true) f mX fuel A a w X2 F2 (D.erase i) L er RC:=by
 have Ch:i < L.size:=by
  have h1:=(v.hL i).2 (.inr hD);rcases cK i L.size with h' | h'
  ·exact h'
  ·simp[dU h'] at h1
 have Cg:i < l.size:=by rw[v.Ki,<- v.Cf];exact Ch
 have CT:∀ k,k ∈ D.erase i↔k≠i/\k ∈ D:=λk=>v.nd.mem_erase_iff;refine ⟨h2,hp,v.nd.erase _,λj hj=>v.MI j ((CT j).1 hj).2,λj hj=>?_,λj hj=>?_,λj hj=>?_,?_,v.cl,v.hS,v.hf,by simpa using v.Ki,v.Cf,λk=>?_,(cH.1 v.Wy).2,λk hk=>?_,λk hk=>?_,v.rc⟩
 ·obtain ⟨h3,h4⟩:=(CT j).1 hj;rw[getD_set_ne false (λe=>h3 e.symm)];exact v.dl j h4
 ·obtain ⟨h3,h4⟩:=(CT j).1 hj;rcases aY.1 (v.qS j h4) with e | e
  ·exact absurd e h3
  ·exact e
 ·rcases v.cov j hj with h | h
  ·exact .inl ((iR Cg).2 (.inr h))
  ·rcases aY.1 h with e | e
   ·exact .inl ((iR Cg).2 (.inl e))
   ·exact .inr e
 ·have:=v.cnt;simp only[fG,hD,fB,aG,aF,aS] at this;refine bH (fQ (cN List.length (List.filter_congr λk hk=>?_))) this;have:k≠i:=λe=>by subst e;exact uh hk
  simp only[CT,this,ne_eq,eD,dN]
 ·rw[v.hL,iR Cg,CT];constructor
  ·rintro (h | h)
   ·exact .inl (.inr h)
   ·by_cases hk:k=i
    ·exact .inl (.inl hk)
    ·exact .inr ⟨hk,h⟩
  ·rintro ((h | h) | h)
   ·subst h;exact .inr hD
   ·exact .inl h
   ·exact .inr h.2
 ·rcases v.Wz k hk with h | h
  ·exact .inl ((iR Cg).2 (.inr h))
  ·rcases aY.1 h with e | e
   ·exact .inl ((iR Cg).2 (.inl e))
   ·exact .inr e
 ·rw[getD_set_ne false (λe=>by subst e;exact uh hk)];exact v.io k (bD _ hk)
theorem unl {j:Nat} (a8:j < L.size) {k:Nat} (hu:(L.setIfInBounds j true).getD k false=false):L.getD k false=false:=by
 cases hl:L.getD k false with
 | false=>rfl
 | true=>rw[(iR a8).2 (.inr hl)] at hu;cases hu
theorem Inv.AI (v:Inv P E ops pd w0 C is l f σ fuel A a w X F D L er RC) (xo:Ce E ops pd er=true) {j:Nat} {o':Oper} (hj:ops[j]?=some o') (uE:L.getD j false=false) {a2:Act} {w2:World}
  (ht:∀ d,o'.dst≠some d->tmp a2 d=tmp a d) (hh:∀ e ∈ RC,Dt ops (L.setIfInBounds j true) e.2.1->Has w2 e.2.2.1 e.2.2.2.1 e.2.2.2.2):∀ e ∈ RC,RE ops er (L.setIfInBounds j true) a2 w2 e:=by
 intro e he;obtain ⟨h1,h2,o,t,x,d,h3,h4,h5,h6,h7,h8⟩:=v.rc e he;obtain ⟨_,_,o1,t1,x1,d1,g1,_,g2,g3,_,g4⟩:=xp xo h1;rw[h3] at g1;injection g1 with g1;subst g1;rw[h4] at g2;injection g2 with _ g2;injection g2 with g2;subst g2;rw[h5] at g3;injection g3 with g3;subst g3;have lU:j≠e.1:=λe'=>by rw[e'] at uE;rw[h2] at uE;cases uE
 obtain ⟨k1,k2⟩:=g4 j o' hj lU
 have k3:o'.dst≠some x:=λe'=>by
  have:=wJ v.cl _ _ _ (k2 e') h2;rw[this] at uE;cases uE
 exact ⟨h1,by rw[getD_set_ne false lU];exact h2,o,t,x,d,h3,h4,h5,by rw[ht x k3];exact h6,by rw[ht d k1];exact h7,hh e he⟩
theorem Inv.still (v:Inv P E ops pd w0 C (i::is) l f σ fuel A a w X F D L er RC) (xo:Ce E ops pd er=true) {iK:Nat} (SF:JK E.er iK=er) {o':Oper} (hj:ops[i]?=some o') (uE:L.getD i false=false) {C2:Ctx} {A2:Cells} {X2:FP} {mX:St} {a2:Act} {w2:World} {F2:Nat->FP} (h2:Rel P C2 A2 X2 mX a2 w2 F2)
  (ht:∀ d,o'.dst≠some d->tmp a2 d=tmp a d) (f_:HK o'.op=false->Ext w w2 (λ_ _=>0)) (LL:JL E iK ops.toList i o' is mX=true):∀ e ∈ RC,Dt ops (L.setIfInBounds i true) e.2.1->Has w2 e.2.2.1 e.2.2.2.1 e.2.2.2.2:=by
 intro e he hu;obtain ⟨g1,g2,o,t,x,d,g3,g4,g5,g6,g7,g8⟩:=v.rc e he;have Ch:i < L.size:=by rw[v.Cf];exact (bZ.1 hj).1
 have huL:Dt ops L e.2.1:=hu.imp id λhu=>by
  cases hl:L.getD e.2.1 false with
  | false=>rfl
  | true=>rw[(iR Ch).2 (.inr hl)] at hu;cases hu
 cases hm:HK o'.op with
 | false=>exact (g8 huL).ext (f_ hm)
 | true=>
  simp only[JL,hm,gV,aR,dJ,TG,SF,bG] at LL;have:=LL _ g1;obtain ⟨WA,hu2,o1,t1,x1,d1,k1,_,k2,k3,_,k4⟩:=xp xo g1;rw[g3] at k1;injection k1 with k1;subst k1;rw[g4] at k2;injection k2 with _ k2;injection k2 with k2;subst k2;rw[g5] at k3;injection k3 with k3;subst k3;have lU:i≠e.1:=λe'=>by rw[e'] at uE;rw[g2] at uE;cases uE
  have hl:l.getD e.1 false=true:=((v.hL e.1).1 g2).resolve_right λhD=>WA (v.MI _ hD)
  have Yt:is.any (Nat.beq e.1)=false:=by
   cases hb:is.any (Nat.beq e.1) with
   | false=>rfl
   | true=>
    have:=v.io e.1 (bD _ (rt.1 hb));rw[hl] at this;cases this
  have Yu:(is.any (Nat.beq e.2.1)||Nat.ble ops.toList.length e.2.1)=true:=by
   rcases cK e.2.1 ops.size with h9 | h9
   ·have ab3:=huL.resolve_left Bys
    have hui:e.2.1≠i:=λe'=>by
     have:=hu.resolve_left Bys;rw[(iR Ch).2 (.inl e')] at this;cases this
    rcases v.Wz _ h9 with Im | Im
    ·rw[(v.hL _).2 (.inl Im)] at ab3;cases ab3
    ·rcases aY.1 Im with WB | WB
     ·exact absurd WB hui
     ·rw[rt.2 WB,gV]
   ·have:Nat.ble ops.toList.length e.2.1=true:=by simpa using h9
    rw[this,Bool.or_true]
  rw[Yt,Yu,aR,dJ,dJ,dL,g3] at this;simp only at this;obtain ⟨q1,q2⟩:=k4 i o' hj lU
  have q3:o'.dst≠some x:=λe'=>by
   have:=wJ v.cl _ _ _ (q2 e') g2;rw[this] at uE;cases uE
  have hx:tmp a2 x=.pointer (some ⟨e.2.2.1,e.2.2.2.1,none⟩):=by rw[ht x q3];exact g6
  obtain ⟨z1,z2⟩:=Wx h2 this g4 g5 hx;rw[ht d q1,g7] at z1;exact z1
theorem Inv.early (hE:ul P E) (yC:Gz E ops pd=true) {iK:Nat} (WA:pa E.pd iK=pd) (xo:Ce E ops pd er=true) (tV:TH E iK ops.toList is σ=true) (hC:∀ b i,C.A0 b i->C.F0 b i=0)
  (v:Inv P E ops pd w0 C is l f σ (fuel+1) A a w X F D L er RC) {j:Nat} (hj:j ∈ pd) (hr:j ∈ Region.ready .any ops L) {S:Array Bool->World->Prop}
  (hS:∀ w',Ext w w' (λ_ _=>0)->((∀ d,rr E ops d=true->(L.setIfInBounds j true).getD d false=false)->Ext w0 w' (λ_ _=>0))->S (L.setIfInBounds j true) w')
  (next:∀ (a':Act) (w':World) (X':FP),Inv P E ops pd w0 C is l f σ fuel A a' w' X' F (j::D) (L.setIfInBounds j true) er RC->wk P .any ops Q S fuel (L.setIfInBounds j true) a' w') :
  wpOp P ops Q j (λa' w'=>S (L.setIfInBounds j true) w'/\wk P .any ops Q S fuel (L.setIfInBounds j true) a' w') a w:=by
 obtain ⟨o,d,s,ho,hg,hd,hs,lU⟩:=Dv yC hj;have Ch:j < L.size:=by rw[v.Cf];exact (bZ.1 ho).1
 obtain ⟨hjD,hjl,_⟩:=v.Kj (mem_ready.1 hr).1;have Yv:j ∈ is:=(v.cov j hj).resolve_left (by rw[hjl];simp)
 have bd:Lu σ d=true:=by
  unfold TH at tV;rw[WA] at tV;have:=bG.1 tV j hj;rw[dL,ho,rt.2 Yv] at this
  simpa [hd] using this
 obtain ⟨val,w',Fj,lg,f_,h2,hPS⟩:=Ys (o:=o) v.h hE.ti hs bd
 have wl:(∀ d,rr E ops d=true->(L.setIfInBounds j true).getD d false=false)->Ext w0 w' (λ_ _=>0):=λIq=>(v.hS λd' uB=>by
  cases hh:L.getD d' false with
  | false=>rfl
  | true=>rw[<-Iq d' uB,(iR Ch).2 (.inr hh)]).trans f_ (λ_ _ _ _=>rfl)
 have hw:Region.wanted o (yielded ops a.tmps)=true:=by simp[Region.wanted,hg]
 unfold wpOp;simp only[ho,hw,aH];refine .inl (pg lg ⟨hS w' f_ wl,?_⟩);rw[hd];have hdn:d < σ.n:=(ME bd).1
 refine next _ _ (λb i=>X b i+Fj b i) ⟨h2,⟨o,d,s,Fj,X,ho,hd,hs,?_,λb i=>aI _,?_⟩,cH.2 ⟨hjD,v.nd⟩,?_,?_,?_,v.cov,?_,ED v.cl hr,wl,λhf=>?_,v.Ki,by simpa using v.Cf,λk=>?_,v.Wy,v.Wz,v.io,v.AI xo ho (by have:=(mem_ready.1 hr).1;rw[wK Ch] at this;exact this) (λd' uB=>by rw[pe,aV (λe=>uB (by rw[hd,e.1]))]) (λe he hu=>by
  obtain ⟨_,_,_,_,_,_,_,_,_,_,_,q⟩:=v.rc e he
  exact (q (hu.imp id λhu=>unl Ch hu)).ext f_)⟩
 ·have:tmp (a.put (some d) val) d=val:=by rw[pe,v.h.size,aM ⟨rfl,hdn⟩]
  rw[this];exact hPS
 ·refine PF.nx (λ_ _ h=>h) (λb i ha u hu=>f_.cell b i (yA hu) rfl u hu) f_.xT D (λk hk o' d' C5 uB=>?_) (λb i hp=>⟨λu hu=>f_.cell b i (yA hu) rfl u hu,f_.AK b i (v.h.ld b i (.inl Bys))⟩) v.pf;have:d'≠d:=λe=>lU k o' C5 (λe'=>by subst e';exact hjD hk) (by rw[uB,e]);rw[pe,aV (λh=>this h.1.symm)]
 ·intro k hk;rcases aY.1 hk with e | e
  ·subst e;exact hj
  ·exact v.MI k e
 ·intro k hk;rcases aY.1 hk with e | e
  ·subst e;exact hjl
  ·exact v.dl k e
 ·intro k hk;rcases aY.1 hk with e | e
  ·subst e;exact Yv
  ·exact v.qS k e
 ·have:=Q7 hjD is Yv;have:=v.cnt;omega
 ·have:=(v.hf hf).2;rw[this] at hj;cases hj
 ·rw[iR Ch,v.hL,aY];constructor
  ·rintro (h | h | h)
   ·exact .inr (.inl h)
   ·exact .inl h
   ·exact .inr (.inr h)
  ·rintro (h | h | h)
   ·exact .inr (.inl h)
   ·exact .inl h
   ·exact .inr (.inr h)
theorem WC (hE:ul P E) {iK:Nat} (dt:∀ o ∈ ops.toList,sD P o.op=true) {K:St->Option R} (hP:∀ c a w,¬ Q (.panic c) a w) (EE:Region.noSelect ops=true) (yC:Gz E ops pd=true) (WA:pa E.pd iK=pd) {er:List (Nat×Nat)} (SF:JK E.er iK=er) (xo:Ce E ops pd er=true) :
  ∀ (is:List Nat) (l:Array Bool) (f:Bool) {C:Ctx} {σ:St},(∀ a w,Nx P C K x a w->Q .normal a w)->(∀ b i,C.A0 b i->C.F0 b i=0)->Cd E iK ops pd is l f=true->F9 E iK ops.toList is σ K=some x ->
   ∀ (fuel:Nat) {A:Cells} {a:Act} {w:World} {X:FP} {F:Nat->FP} {D:List Nat} {L:Array Bool} {RC:List (Nat×Nat×Nat×Nat×List Value)},Inv P E ops pd w0 C is l f σ fuel A a w X F D L er RC->wk P .any ops Q (SD E ops w0 C RC) fuel L a w:=by
 intro is
 induction is with
 | nil=>
  intro l f C σ hQ hC hg hk fuel A a w X F D L RC v;simp only[Cd,bC] at hg
  have hD:D=[]:=by
   cases D with
   | nil=>rfl
   | cons j D=>have:=v.qS j (by simp);cases this
  subst hD
  have hr:Region.ready .any ops L=[]:=by
   rw[List.eq_nil_iff_forall_not_mem];intro j hj;have:=v.GA (S:=[]) (λ_ h=>h) hj (by simp);rw[C3,hg] at this;cases this
  have hq:=hQ a w ⟨σ,hk,A,F,v.h.less λ_ _=>aW _⟩
  cases fuel with
  | zero=>exact ⟨hr,hq⟩
  | succ fuel=>exact ⟨λ_=>hq,by rw[hr];simp⟩
 | cons i is ih=>
  intro l f C σ hQ hC hg hk;simp only[F9] at hk;split at hk
  ·cases hk
  rename_i tV;simp only[Cd] at hg
  cases hi:ops[i]? with
  | none=>rw[hi] at hg;cases hg
  | some o=>
  rw[dL,hi] at hk;rw[hi] at hg;simp only at hk hg;have OE:i < ops.size:=(bZ.1 hi).1;have AP:o ∈ ops.toList:=bU (i:=i) (by simpa using hi)
  have Uj:∀ (fuel:Nat) {A:Cells} {a:Act} {w:World} {X:FP} {F:Nat->FP} {D:List Nat} {L:Array Bool} {RC:List (Nat×Nat×Nat×Nat×List Value)},Inv P E ops pd w0 C (i::is) l f σ fuel A a w X F D L er RC->i ∈ D->wk P .any ops Q (SD E ops w0 C RC) fuel L a w:=by
   intro fuel A a w X F D L RC v hD;have C6:=v.MI i hD;rw[rt.2 C6] at hg;simp only[aD,cC] at hg;obtain ⟨⟨⟨uh,_⟩,_⟩,hg⟩:=hg;have uh:i ∉ is:=λhm=>by rw[rt.2 hm] at uh;cases uh
   obtain ⟨o',d',s',C5,hgd,uB,hs',_⟩:=Dv yC C6;rw[hi] at C5;injection C5 with C5;subst C5;obtain ⟨o2,d,s,Fi,X',g1,g2,g3,g4,g5,g6⟩:=PF.take D hD v.pf;rw[hi] at g1;injection g1 with g1;subst g1;simp only[F8,hgd] at hk;split at hk
   ·cases hk
   rw[Yr g3,g2] at hk;split at hk;rotate_left
   ·cases hk
   obtain ⟨F2,h2⟩:=v.h.cq (some d) g4.slot g5 g4.whole;rw[OU] at h2;exact ih _ f hQ hC hg hk fuel (v.Uj hD uh h2 g6)
  intro fuel
  induction fuel with
  | zero=>
   intro A a w X F D L RC v;by_cases hD:i ∈ D
   ·exact Uj 0 v hD
   ·have:=v.cnt;simp[fG,hD] at this
  | succ fuel ihf=>
  intro A a w X F D L RC v;by_cases hD:i ∈ D
  ·exact Uj _ v hD
  have Kk:∀ e ∈ RC,Dt ops L e.2.1->Has w e.2.2.1 e.2.2.2.1 e.2.2.2.2:=λe he=>by obtain ⟨_,_,_,_,_,_,_,_,_,_,_,q⟩:=v.rc e he;exact q
  have adM:∀ w',Ext w w' (λ_ _=>0)->∀ (l':Array Bool),(∀ k,l'.getD k false=false->L.getD k false=false)->((∀ d,rr E ops d=true->l'.getD d false=false)->Ext w0 w' (λ_ _=>0))->SD E ops w0 C RC l' w':=λw' ug l' xZ hh=>⟨hh,(λb i ha u hu=>by
   have:=v.h.ext.cell b i (yA hu) (hC b i ha) u hu
   exact ug.cell b i (yA this) rfl u this),λe he hu=>(Kk e he (hu.imp id (xZ _))).ext ug⟩
  have WD:∀ j,j ∈ pd->j ∈ Region.ready .any ops L->wpOp P ops Q j (λa' w'=>SD E ops w0 C RC (L.setIfInBounds j true) w'/\wk P .any ops Q (SD E ops w0 C RC) fuel (L.setIfInBounds j true) a' w') a w:=λj hj hr=>
   v.early hE yC WA xo tV hC hj hr (λw' ug hh=>adM w' ug _ (λk hk=>unl (by rw[v.Cf];obtain ⟨_,oj,Kg,_⟩:=mem_ready.1 hr;exact (bZ.1 Kg).1) hk) hh) (λa' w' X' v'=>ihf v')
  have OW:SD E ops w0 C RC L w:=⟨v.hS,(λb i ha u hu=>v.h.ext.cell b i (yA hu) (hC b i ha) u hu),Kk⟩
  cases Ci:pd.any (Nat.beq i) with
  | true=>
   rw[Ci] at hg;simp only[aD,cC,bG] at hg;obtain ⟨⟨⟨uh,C7⟩,LL⟩,hg⟩:=hg;have u0:i ∈ Region.ready .any ops L:=v.I6 (by simpa using C7) hD;refine ⟨λh0=>(by rw[h0] at u0;cases u0),λj hj=>WD j ?_ hj⟩
   by_cases hjS:j ∈ pd.filter (λj=>!Nat.beq i j)
   ·exact (List.mem_filter.1 hjS).1
   ·refine rt.1 (LL j (v.GA (λk hk=>List.mem_filter.2 ⟨v.MI k hk,?_⟩) hj hjS))
    cases hb:Nat.beq i k with
    | false=>rfl
    | true=>rw[cQ hb] at hD;exact absurd hk hD
  | false=>
  rw[Ci] at hg;simp only at hg;have aeP:i ∉ pd:=λhm=>by rw[rt.2 hm] at Ci;cases Ci
  have Yw:∀ j ∈ D,∀ o' d,ops[j]?=some o'->o'.dst=some d->o.dst≠some d:=λj hj o' d C5 uB=>by
   obtain ⟨o2,d2,s2,g1,_,g2,_,g3⟩:=Dv yC (v.MI j hj);rw[C5] at g1;injection g1 with g1;subst g1;rw[uB] at g2;injection g2 with g2;subst g2;exact g3 i o hi (λe=>by subst e;exact hD hj)
  obtain ⟨b,qA,hk,h1,hw⟩:=OQ v.h hk
  have Sx:(match (generalizing:=false) b with
    | true=>sM E iK i o qA λσ=>match JL E iK ops.toList i o is σ with
     | true=>F9 E iK ops.toList is σ K
     | false=>none
    | false=>F9 E iK ops.toList is (qA.cq o.dst (.sQ [])) K)=some x/\(b=true->Ob E iK i=true->Oa qA o=true):=by
   cases b with
   | true=>
    simp only at hk
    cases hn:(Ob E iK i&&!Oa qA o) with
    | true=>rw[hn] at hk;cases hk
    | false=>
     rw[hn] at hk;exact ⟨hk,λ_ J4=>by rw[J4] at hn;simpa using hn⟩
   | false=>exact ⟨hk,λe=>by cases e⟩
  obtain ⟨hk,adN⟩:=Sx
  have BZ:∀ (val:Value),∀ j ∈ D,∀ o' d,ops[j]?=some o'->o'.dst=some d->tmp (a.put o.dst val) d=tmp a d:=λval j hj o' d C5 uB=>by
   have:=Yw j hj o' d C5 uB
   cases hod:o.dst with
   | none=>rfl
   | some e=>rw[pe,aV (λh=>this (by rw[hod,h.1]))]
  split at hg
  ·rename_i aae;simp only[aD,cZ,cC,bG,cD] at aae;obtain ⟨rm,⟨NK,OX⟩,C7⟩:=aae;have u0:i ∈ Region.ready .any ops L:=v.I6 (by simpa using OX) hD;have Kl:∀ j oj,ops[j]?=some oj->j≠i->L.getD j true=false->(∀ e ∈ oj.after,Region.binds .any e=true->e.on≠i)->o.apart ops oj=true:=λj oj Kg pc uE rP=>Region.free_spec hi NK j oj Kg pc (v.Kj uE).2.2 rP;have wm:rr E ops i=false:=by simp[rr,hi,rm]
   have Iq:∀ (l':Array Bool),(∀ d,rr E ops d=true->(l'.setIfInBounds i true).getD d false=false)↔∀ d,rr E ops d=true->l'.getD d false=false:=λl'=>by
    constructor
    ·intro hh d hd;have:=hh d hd;rw[getD_set_ne false (λe=>by subst e;rw[wm] at hd;cases hd)] at this;exact this
    ·intro hh d hd;rw[getD_set_ne false (λe=>by subst e;rw[wm] at hd;cases hd)];exact hh d hd
   have hSD:∀ (C:Ctx) (RC:List (Nat×Nat×Nat×Nat×List Value)),(∀ e ∈ RC,(e.1,e.2.1) ∈ er)->∀ l w,SD E ops w0 C RC (l.setIfInBounds i true) w↔SD E ops w0 C RC l w:=λC RC gw l' w'=>by
    unfold SD;rw[Iq];refine and_congr iG (and_congr iG (forall_congr' λe=>forall_congr' λhe=>?_))
    have lU:i≠e.2.1:=λe'=>by
     rcases (xp xo (gw e he)).2.1 with h | ⟨h,_⟩
     ·omega
     ·rw[<-e',wm] at h;cases h
    unfold Dt;rw[getD_set_ne false lU]
   have gw:∀ e ∈ RC,(e.1,e.2.1) ∈ er:=λe he=>(v.rc e he).1
   have acV:∀ {l':Array Bool} {u:Nat},(∃ j,(j,u) ∈ er)->(Dt ops (l'.setIfInBounds i true) u->Dt ops l' u):=λ{l' u} ⟨j,hj⟩ hu=>by
    have lU:i≠u:=λe'=>by
     rcases (xp xo hj).2.1 with h | ⟨h,_⟩
     ·omega
     ·rw[<-e',wm] at h;cases h
    unfold Dt at hu ⊢
    rwa [getD_set_ne false lU] at hu
   have hS1:(∀ d,rr E ops d=true->(L.setIfInBounds i true).getD d false=false)->Ext w0 w (λ_ _=>0):=λhd=>v.hS ((Iq L).1 hd)
   have I7:L.getD i false=false:=by
    have h0:=(mem_ready.1 u0).1;rw[wK (by rw[v.Cf];exact OE)] at h0;exact h0
   have HT:∀ (val:Value),∀ e ∈ RC,RE ops er (L.setIfInBounds i true) (a.put o.dst val) w e:=λval=>v.AI xo hi I7 (λd hd=>by
    cases ho:o.dst with
    | none=>rfl
    | some d'=>rw[pe,aV (λe=>hd (by rw[ho,e.1]))]) (λe he hu=>Kk e he (acV ⟨_,gw e he⟩ hu))
   cases b with
   | true=>
    simp only at hk
    cases ab4:Ob E iK i with
    | true=>
     obtain ⟨C',c1,c2,c3,c4,c5⟩:=h1.aaL;obtain ⟨C1,f1,f2⟩:=c4.frame;obtain ⟨val,lg,mX,nB,A2,F2,h2⟩:=aaM f1 hE (dt o AP) rm (adN rfl ab4) hk;simp only at nB;split at nB;rotate_left
     ·cases nB
     have hC':∀ b i,C'.A0 b i->C'.F0 b i=0:=λb i ha=>c3 b i (by rw[<-c2];exact ha);obtain ⟨e1,e2,e3,e4,e5⟩:=f2 h2
     refine Du (S:=SD E ops w0 C' RC) (λl' w' hs=>⟨hs.1,(λb i ha u hu=>hs.2.1 b i (by rw[c2];exact h1.a0 b i ha) u (by rw[c1];exact h1.ext.cell b i (yA hu) (hC b i ha) u hu)),hs.2.2⟩) _ _ _ _
      (yF hi (Region.noSelect_spec EE) (λc a w hq=>(hP c _ _ hq).elim) (hSD C' RC gw) fuel L a w Kl u0 v.cl (.inl ⟨hw,λw' wl=>lg w' λb i ha u hu=>?_⟩) ⟨v.hS,(λb i ha u hu=>by rw[c1] at hu;exact hu),Kk⟩
      (ih _ f (λa w ⟨CV,q1,A3,F3,q2⟩=>hQ a w ⟨CV,q1,A3,F3,c5 q2⟩) hC' hg nB fuel (v.next hD u0 e1 (PF.nx e2 e3 e4 D (BZ val) e5 v.pf) hS1 v.hf (HT val))))
     obtain ⟨l',BN,uE,wl⟩:=wl;exact wl.2.1 b i (by rw[c2];exact ha) u (by rw[c1];exact hu)
    | false=>
    cases OY:TF E iK i with
    | true=>
     obtain ⟨u,NL⟩:∃ u,(i,u) ∈ er:=by
      unfold TF at OY;rw[SF] at OY;obtain ⟨e,he1,he2⟩:=dY.1 OY;rw[cQ he2];exact ⟨e.2,he1⟩
     obtain ⟨_,hu0,o1,t1,x1,d1,g1,_,g2,g3,g4,_⟩:=xp xo NL;rw[hi] at g1;injection g1 with g1;subst g1;obtain ⟨C1,f1,f2⟩:=h1.frame;obtain ⟨b0,off,adO,cs,q1,q2,q3,q4⟩:=aaO f1 hE (dt o AP) g2 hk;obtain ⟨val,lg,mX,nB,A2,F2,h2⟩:=NJ hE f1 (dt o AP) rm hk
     have Ow:val=adO:=by
      have r1:=lg w λ_=>Ext.refl _ _;have r2:=q4 w q2;rw[r1] at r2;injection r2 with r2 _;injection r2
     subst Ow;simp only at nB;split at nB;rotate_left
     ·cases nB
     rename_i NM;obtain ⟨e1,e2,e3,e4,e5⟩:=f2 h2
     have zC:RE ops er (L.setIfInBounds i true) (a.put o.dst val) w (i,u,b0,off,cs):=by
      refine ⟨NL,(iR (by rw[v.Cf];exact OE)).2 (.inl rfl),o,t1,x1,d1,hi,g2,g3,?_,?_,λ_=>q2⟩
      ·rw[g3,pe,aV (λe=>g4 e.1.symm)];exact q1
      ·simp only[JL,OY,Bool.or_true,aR,dJ,TG,SF,bG] at NM;have h9:=NM _ NL
       have Yt:is.any (Nat.beq i)=false:=by
        cases hb:is.any (Nat.beq i) with
        | false=>rfl
        | true=>exact absurd (rt.1 hb) (cH.1 v.Wy).1
       have Yu:(is.any (Nat.beq u)||Nat.ble ops.toList.length u)=true:=by
        rcases cK u ops.size with k1 | k1
        ·obtain ⟨k2,_,k3⟩:=hu0.resolve_left Bys;rcases v.Wz u k1 with k4 | k4
         ·have k5:=(v.hL u).2 (.inl k4);have:=wJ v.cl _ _ _ k3 k5;rw[I7] at this;cases this
         ·rcases aY.1 k4 with k5 | k5
          ·rw[k5,wm] at k2;cases k2
          ·rw[rt.2 k5,gV]
        ·have:Nat.ble ops.toList.length u=true:=by simpa using k1
         rw[this,Bool.or_true]
       rw[Yt,Yu,aR,dJ,dJ,dL,hi] at h9;simp only at h9;have Im:=(Wx h2 h9 g2 g3 (b:=b0) (off:=off) (by rw[g3,pe,aV (λe=>g4 e.1.symm)];exact q1)).2;rw[g3] at Im ⊢;rw[pe,aM ⟨rfl,by simpa [Act.put] using Im⟩];exact q3
     refine Du (S:=SD E ops w0 C ((i,u,b0,off,cs)::RC)) (λl' w' hs=>⟨hs.1,hs.2.1,λe he=>hs.2.2 e (bD _ he)⟩) _ _ _ _
      (yF hi (Region.noSelect_spec EE) (λc a w hq=>(hP c _ _ hq).elim) (hSD C _ (λe he=>by rcases aY.1 he with rfl | he;exact NL;exact gw e he)) fuel L a w Kl u0 v.cl (.inl ⟨hw,λw' wl=>?_⟩) ⟨OW.1,OW.2.1,λe he hu=>?_⟩
      (ih _ f hQ hC hg nB fuel (v.next hD u0 e1 (PF.nx e2 e3 e4 D (BZ val) e5 v.pf) hS1 v.hf (λe he=>?_))))
     ·obtain ⟨l',BN,uE,wl⟩:=wl;refine q4 w' (wl.2.2 _ bV ?_)
      rcases hu0 with k1 | ⟨_,_,k3⟩
      ·exact .inl k1
      ·right;show l'.getD u false=false
       cases hld:l'.getD u false with
       | false=>rfl
       | true=>
        have:=wJ BN _ _ _ k3 hld;rcases cK i l'.size with h' | h'
        ·simp[h'] at this uE;rw[uE] at this;cases this
        ·simp[dU h'] at this
     ·rcases aY.1 he with rfl | he
      ·exact q2
      ·exact Kk e he hu
     ·rcases aY.1 he with rfl | he
      ·exact zC
      ·exact HT val e he
    | false=>
    obtain ⟨C1,f1,f2⟩:=h1.frame;obtain ⟨val,lg,mX,nB,A2,F2,h2⟩:=NJ hE f1 (dt o AP) rm hk;simp only at nB;split at nB;rotate_left
    ·cases nB
    obtain ⟨e1,e2,e3,e4,e5⟩:=f2 h2;refine yF hi (Region.noSelect_spec EE) (λc a w hq=>(hP c _ _ hq).elim) (hSD C RC gw) fuel L a w Kl u0 v.cl (.inl ⟨hw,λw' wl=>lg w' λhr=>?_⟩) OW (ih _ f hQ hC hg nB fuel (v.next hD u0 e1 (PF.nx e2 e3 e4 D (BZ val) e5 v.pf) hS1 v.hf (HT val)))
    rcases C7 with ((C7 | C7) | C7) | ⟨oh,adP⟩
    ·rw[hr] at C7;cases C7
    ·rw[ab4] at C7;cases C7
    ·rw[OY] at C7;cases C7
    ·rw[(v.hf oh).1];obtain ⟨l',BN,uE,wl⟩:=wl;refine wl.1 λd hd=>?_
     have hdl:d < ops.size:=by
      unfold rr at hd;split at hd
      ·rename_i od hod;exact (bZ.1 hod).1
      ·cases hd
     rcases adP d hdl with hh | hh
     ·rw[hd] at hh;cases hh
     ·cases hld:l'.getD d false with
      | false=>rfl
      | true=>
       have:=wJ BN _ _ _ hh hld;rcases cK i l'.size with h' | h'
       ·simp[h'] at this uE;rw[uE] at this;cases this
       ·simp[dU h'] at this
   | false=>
    obtain ⟨F2,h2⟩:=LK h1 o;exact yF hi (Region.noSelect_spec EE) (λc a w hq=>(hP c _ _ hq).elim) (hSD C RC gw) fuel L a w Kl u0 v.cl (v:=undef) (.inr ⟨hw,rfl⟩) OW (ih _ f hQ hC hg hk fuel (v.next hD u0 h2 (PF.nx (λ_ _ h=>h) (λ_ _ _ _ h=>h) (λ_ _ h=>h) D (BZ undef) (λ_ _ _=>⟨λ_ h=>h,rfl⟩) v.pf) hS1 v.hf (HT undef)))
  ·simp only[aD,bG] at hg;obtain ⟨⟨OX,LL⟩,hg⟩:=hg;have u0:i ∈ Region.ready .any ops L:=v.I6 (by simpa using OX) hD;have Uk:i < L.size:=by rw[v.Cf];exact OE
   have I7:L.getD i false=false:=by
    have h0:=(mem_ready.1 u0).1;rw[wK Uk] at h0;exact h0
   refine ⟨λh0=>(by rw[h0] at u0;cases u0),λj hj=>?_⟩
   by_cases hjp:j ∈ pd
   ·exact WD j hjp hj
   have sw:i=j:=cQ (LL j (v.GA v.MI hj hjp));subst sw;unfold wpOp;simp only[hi,hw]
   have hold:∀ {d},(L.setIfInBounds i true).getD d false=false->L.getD d false=false:=λ{d} hh=>by
    cases hl:L.getD d false with
    | false=>rfl
    | true=>rw[(iR Uk).2 (.inr hl)] at hh;cases hh
   have BT:(L.setIfInBounds i true).getD i false=true:=(iR Uk).2 (.inl rfl)
   cases b with
   | true=>
    simp only[aH];obtain ⟨C1,f1,f2⟩:=h1.frame;have C4:∀ w',(∀ b i,A b i->∀ u,ce w b i=some u->ce w' b i=some u)->∀ b i,C.A0 b i->∀ u,ce C.w0 b i=some u->ce w' b i=some u:=λw' he b i ha u hu=>he b i (v.h.a0 b i ha) u (v.h.ext.cell b i (yA hu) (hC b i ha) u hu)
    cases rm:xd E o.op with
    | true=>
     refine .inl (Oper.wp_mono (λa' w' hn=>?_) (Wv (aaN (NJ hE f1 (dt o AP) rm hk))));obtain ⟨ht,hww,mX,nB,A2,F2,h2⟩:=hn;subst hww;simp only at nB;split at nB;rotate_left
     ·cases nB
     obtain ⟨e1,e2,e3,e4,e5⟩:=f2 h2;have wl:(∀ d,rr E ops d=true->(L.setIfInBounds i true).getD d false=false)->Ext w0 w (λ_ _=>0):=λhd=>v.hS λd Iq=>hold (hd d Iq);exact ⟨⟨wl,C4 _ e3,λe he hu=>Kk e he (hu.imp id hold)⟩,ih _ false hQ hC hg nB fuel (v.next hD u0 e1 (PF.nx e2 e3 e4 D (λj hj o' d C5 uB=>ht d (Yw j hj o' d C5 uB)) e5 v.pf) wl (λe=>by cases e) (v.AI xo hi I7 ht λe he hu=>Kk e he (hu.imp id hold)))⟩
    | false=>
    refine .inl (Oper.wp_mono (λa' w' hn=>?_) (Wv (Wu hE f1 (dt o AP) rm hk)));obtain ⟨ht,⟨mX,nB,A2,F2,h2⟩,hq⟩:=hn;simp only at nB;split at nB;rotate_left
    ·cases nB
    rename_i NM;obtain ⟨e1,e2,e3,e4,e5⟩:=f2 h2
    have wl:(∀ d,rr E ops d=true->(L.setIfInBounds i true).getD d false=false)->Ext w0 w' (λ_ _=>0):=λhd=>by
     have hqq:quiet E o.op=true:=by
      cases hqq:quiet E o.op with
      | true=>rfl
      | false=>
       have hdj:rr E ops i=true:=by simp[rr,hi,rm,hqq]
       have:=hd i hdj;rw[BT] at this;cases this
     exact (v.hS λd Iq=>hold (hd d Iq)).trans (hq hqq) (λ_ _ _ _=>rfl)
    have ab5:=v.still xo SF hi I7 h2 ht (λhm=>hq (quiet_of hk hm rm)) NM;exact ⟨⟨wl,C4 _ e3,ab5⟩,ih _ false hQ hC hg nB fuel (v.next hD u0 e1 (PF.nx e2 e3 e4 D (λj hj o' d C5 uB=>ht d (Yw j hj o' d C5 uB)) e5 v.pf) wl (λe=>by cases e) (v.AI xo hi I7 ht ab5))⟩
   | false=>
    simp only[aF,aS];obtain ⟨F2,h2⟩:=LK h1 o;have wl:(∀ d,rr E ops d=true->(L.setIfInBounds i true).getD d false=false)->Ext w0 w (λ_ _=>0):=λhd=>v.hS λd Iq=>hold (hd d Iq)
    exact ⟨⟨wl,OW.2.1,λe he hu=>Kk e he (hu.imp id hold)⟩,ih _ false hQ hC hg hk fuel (v.next hD u0 h2 (PF.nx (λ_ _ h=>h) (λ_ _ _ _ h=>h) (λ_ _ h=>h) D (BZ undef) (λ_ _ _=>⟨λ_ h=>h,rfl⟩) v.pf) wl (λe=>by cases e) (v.AI xo hi I7 (λd hd=>by
     cases ho:o.dst with
     | none=>rfl
     | some d'=>rw[pe,aV (λe=>hd (by rw[ho,e.1]))]) λe he hu=>Kk e he (hu.imp id hold)))⟩
end
theorem aaP (hE:ul P E) (hm:P.follows .mixedOrders=true) {iK id:Nat} {ops:Array Oper} (dt:∀ o ∈ ops.toList,sD P o.op=true) {is bx:List Nat} (hd:OS E iK ops is=true) (h:ek P C A σ a w F) {K:St->Option R} (hk:Se σ bx (λσ=>VO ops.toList σ (pa E.pd iK) λσ=>F9 E iK ops.toList is σ K)=some x)
  (hQ:∀ a w,Nx P C K x a w->Q .normal a w) (hP:∀ c a w,¬ Q (.panic c) a w):(Code.region id ops true).wp P Q a w:=by
 simp only[OS,aD,dK] at hd;obtain ⟨⟨⟨⟨EE,hlen⟩,yC,adQ⟩,⟨wm,adR⟩,xo⟩,hg⟩:=hd;have h0:=h.drew;obtain ⟨A1,qA,F1,hk,h1⟩:=aad bx h0 hk;obtain ⟨mX,F2,hk,h1⟩:=acU (pa E.pd iK) h1 hk;obtain ⟨C',c1,c2,c3,c4,c5⟩:=h1.ab2;have hC':∀ b i,C'.A0 b i->C'.F0 b i=0:=λb i ha=>c3 b i (by rw[<-c2];exact ha)
 have J2:∀ k,(Array.replicate ops.size false).getD k false=false:=λk=>by
  by_cases hk:k < ops.size <;> simp[hk]
 refine wp_region_any hm (Ke _ _ _ _ (WC hE dt hP EE yC rfl rfl xo is _ _ (λa w ⟨CV,q1,A3,F3,q2⟩=>hQ a w ⟨CV,q1,A3,F3,c5 q2⟩) hC' hg hk ops.size (w0:=w.drew) (D:=[]) (RC:=[]) ⟨c4,trivial,fP,(λ_ h=>by cases h),(λ_ h=>by cases h),(λ_ h=>by cases h),λj hj=>.inr (rt.1 (bG.1 adQ j hj)),
  bH (List.length_filter_le _ _) hlen,λj o hj hl=>?_,λ_=>Ext.refl _ _,λhf=>⟨rfl,?_⟩,by simp,by simp,(λk=>by simp),Ip wm,λk hk=>.inr (rt.1 (bG.1 adR k (cD.2 hk))),λk _=>J2 k,λe he=>by cases he⟩))
 ·rw[J2] at hl;cases hl
 ·split at hf
  ·assumption
  ·cases hf
end
end OT
namespace OT
open Go
section
variable {P:Program} {C:Ctx} {A:Cells} {X:FP} {σ:St} {a:Act} {w:World} {F:Nat->FP} {R:Type} {x:R} {E:Env}
theorem OZ (f:Nat->Slot):∀ (live:List Nat) (i:Nat),oD (live.map λj=>(j,f j)) i=if live.any (Nat.beq i) then some (f i) else none
 | [],i=>rfl
 | j::live,i=>by
  simp only[dR,oD,fZ];by_cases sw:i=j
  ·simp_all
  ·have h1:Nat.beq j i=false:=by
    grind [Nat.eq_of_beq_eq_true]
   have h2:Nat.beq i j=false:=by
    grind [Nat.eq_of_beq_eq_true]
   simp only[h1,h2,aF,aS,dJ,OZ f live i]
theorem Cj (live:List Nat) (fr:List (Nat×Md)) (σ:St) (i:Nat):(fm live fr σ).get i=if i < σ.n/\live.any (Nat.beq i)=true then CR fr i (lB live fr σ i) else .dead:=by
 unfold St.get fm;simp only[OZ];grind [Nat.blt_eq]
theorem EG (live:List Nat) (fr:List (Nat×Md)) (σ:St) (i:Nat):(fm live fr σ).lA i=[0,0,0,0,0]:=rfl
theorem EH {s:List Nat} (h:s.length<=5):Below (s.map λ_=>0) [0,0,0,0,0]:=by
 intro j y hj;grind
theorem EI {live:List Nat} {fr:List (Nat×Md)} {r:Nat} (hr:F_ live fr r=true) {p:Path} {pl:Pl} (hp:place σ a w r p=some pl):place (fm live fr σ) a w r p=some pl:=by
 grind [uY,F_,place,Cj,CR,lB,ei]
theorem WE {live:List Nat} {fr:List (Nat×Md)} {i:Nat} {G:FP} (hs:dn P A σ a w (tmp a i) (σ.get i) G) (hG:∀ b k,G b k<=1) :
  ∃ G':FP,(∀ b k,G' b k<=G b k)/\∀ A':Cells,(∀ b k,A b k->A' b k)->(∀ b k,1<=G b k->G' b k=0->A' b k)->dn P A' (fm live fr σ) a w (tmp a i) (CR fr i (lB live fr σ i)) G':=by
 have same:∀ b k,A b k->∀ u,ce w b k=some u->ce w b k=some u:=λ_ _ _ _ h=>h;have dead:CR fr i .dead=.dead:=by grind [CR]
 have EJ:∀ {s:Slot},(∀ t m H v,s≠.own t m H v)->(∀ t m H v,s≠.box t m H v)->CR fr i s=s:=λ{s} h1 h2=>by
  grind [CR]
 cases hg:σ.get i with
 | dead=>exact ⟨λ_ _=>0,λ_ _=>aW _,λA' _ _=>by simp only[lB,hg,dead];trivial⟩
 | ye=>
  rw[hg] at hs;exact ⟨λ_ _=>0,λ_ _=>aW _,λA' _ _=>by simp only[lB,hg];rw[EJ (by intros;simp) (by intros;simp)];exact hs⟩
 | val t v=>
  rw[hg] at hs;obtain ⟨cs,h1,h2⟩:=hs;exact ⟨λ_ _=>0,λ_ _=>aW _,λA' hA _=>by simp only[lB,hg];rw[EJ (by intros;simp) (by intros;simp)];exact ⟨cs,h1,Ro.mono same hA t h2⟩⟩
 | cp t v=>
  rw[hg] at hs;exact ⟨λ_ _=>0,λ_ _=>aW _,λA' hA _=>by simp only[lB,hg];rw[EJ (by intros;simp) (by intros;simp)];exact Ro.mono same hA (.ptr t) hs⟩
 | own t m H v=>
  rw[hg] at hs;obtain ⟨cs,h1,h2⟩:=hs;have hk:lB live fr σ i=.own t m H v:=by grind [lB]
  rw[hk];unfold CR;split
  ·exact ⟨G,λ_ _=>aI _,λA' hA _=>⟨cs,h1,au.mono hA same (λ_ _ h=>h) t h2 (λ_ _=>aI _) (λ_ _ _ _ h=>h)⟩⟩
  ·rename_i m1 hm;simp only;split
   ·rename_i hc;simp only[aD,bC] at hc;obtain ⟨hH,hf⟩:=hc;subst hH;obtain ⟨G1,g1,g2⟩:=au.fits t hf h2 hG;refine ⟨G1,g1,λA' hA C8=>?_⟩
    have hr:=g2 A' hA C8;split
    ·rename_i e;subst e;exact ⟨cs,h1,au.ro t (iP t) hr⟩
    ·exact ⟨cs,h1,hr⟩
   ·exact ⟨λ_ _=>0,λ_ _=>aW _,λA' _ _=>trivial⟩
 | box t m H v=>
  rw[hg] at hs;obtain ⟨b,o,L,F1,s1,s2,s3,s4,s5,s6⟩:=hs;have hk:lB live fr σ i=.box t m H v:=by grind [lB]
  rw[hk];unfold CR;split
  ·exact ⟨G,λ_ _=>aI _,λA' hA _=>⟨b,o,L,F1,s1,s2,s3,s4,s5,au.mono hA same (λ_ _ h=>h) t s6 (λ_ _=>aI _) (λ_ _ _ _ h=>h)⟩⟩
  ·rename_i m1 hm;simp only;split
   ·rename_i hc;simp only[aD,bC] at hc;obtain ⟨hH,hf⟩:=hc;subst hH;obtain ⟨G1,g1,g2⟩:=au.fits t hf s6 (λb' k=>by grind);refine ⟨λb' k=>d8 b o t.sz b' k+G1 b' k,λb' k=>by grind,λA' hA C8=>⟨b,o,L,G1,s1,s2,s3,s4,λ_ _=>aI _,g2 A' hA λb' k hp hz=>?_⟩⟩
    grind
   ·exact ⟨λ_ _=>0,λ_ _=>aW _,λA' _ _=>trivial⟩
 | ref r p snap=>
  rw[hg] at hs;refine ⟨λ_ _=>0,λ_ _=>aW _,λA' _ _=>?_⟩
  simp only[lB,hg];split
  ·rename_i hc;simp only[aD] at hc;rw[EJ (by intros;simp) (by intros;simp)];obtain ⟨pl,h1,h2,h3⟩:=hs.2 hc.1;have hl:snap.length<=5:=by grind
   exact ⟨by grind [EG,EH],λ_=>⟨pl,EI hc.2 h1,h2,by simpa using h3⟩⟩
  ·rw[dead];trivial
 | ptr r p snap=>
  rw[hg] at hs;refine ⟨λ_ _=>0,λ_ _=>aW _,λA' _ _=>?_⟩
  simp only[lB,hg];split
  ·rename_i hc;simp only[aD] at hc;rw[EJ (by intros;simp) (by intros;simp)];obtain ⟨pl,b,o,h1,h2,h3,h4⟩:=hs.2 hc.1;have hl:snap.length<=5:=by omega
   exact ⟨by grind [EG,EH],λ_=>⟨pl,b,o,EI hc.2 h1,h2,h3,by simpa using h4⟩⟩
  ·rw[dead];trivial
 | sub r p snap lo hi=>
  rw[hg] at hs;refine ⟨λ_ _=>0,λ_ _=>aW _,λA' _ _=>?_⟩
  simp only[lB,hg];split
  ·rename_i hc;simp only[aD] at hc;rw[EJ (by intros;simp) (by intros;simp)];obtain ⟨pl,e,xa,n,cap,xk,cap',h1,h2,h3,h4,h5,h6,h7,h8,h9,Im,WB⟩:=hs.2 hc.1;have hl:snap.length<=5:=by grind
   exact ⟨by grind [EG,EH],λ_=>⟨pl,e,xa,n,cap,xk,cap',EI hc.2 h1,h2,h3,h4,h5,h6,h7,h8,h9,Im,by simpa using WB⟩⟩
  ·rw[dead];trivial
 | sQ xs=>
  rw[hg] at hs;obtain ⟨vs,Fi,h1,h2,h3⟩:=hs;refine ⟨G,λ_ _=>aI _,λA' hA _=>?_⟩
  simp only[lB,hg];rw[EJ (by intros;simp) (by intros;simp)]
  exact ⟨vs,Fi,h1,h2,λj y hy=>by
   obtain ⟨v,g1,g2⟩:=h3 j y hy
   exact ⟨v,g1,g2.imp id λ⟨cs,g3,g4⟩=>⟨cs,g3,au.mono hA same (λ_ _ h=>h) _ g4 (λ_ _=>aI _) (λ_ _ _ _ h=>h)⟩⟩⟩
theorem I8 (h:ek P C A σ a w F) (live:List Nat) (fr:List (Nat×Md)):Gn P C (fm live fr σ) a w:=by
 have hle:∀ i,i < σ.n->∀ b k,F i b k<=1:=λi hi b k=>by have:=h.qe b k;grind [dy]
 have each:∀ i,∃ G':FP,(∀ b k,i < σ.n->G' b k<=F i b k)/\(¬ i < σ.n->∀ b k,G' b k=0)/\∀ A':Cells,(∀ b k,A b k->A' b k)->(∀ b k,1<=F i b k->G' b k=0->A' b k)->i < σ.n->dn P A' (fm live fr σ) a w (tmp a i) ((fm live fr σ).get i) G':=by
  intro i;by_cases hi:i < σ.n
  ·by_cases hl:live.any (Nat.beq i)=true
   ·obtain ⟨G',g1,g2⟩:=WE (live:=live) (fr:=fr) (h.iZ i hi) (hle i hi);exact ⟨G',λb k _=>g1 b k,λhn=>absurd hi hn,λA' hA C8 _=>by grind [Cj]⟩
   ·exact ⟨λ_ _=>0,λ_ _ _=>aW _,λ_ _ _=>rfl,λA' _ _ _=>by rw[Cj,aV (λhc=>hl hc.2)];trivial⟩
  ·exact ⟨λ_ _=>0,λ_ _ _=>aW _,λ_ _ _=>rfl,λA' _ _ sR=>absurd sR hi⟩
 obtain ⟨F',hF'⟩:=fN each;have qR:∀ b k,bi σ.n F' b k<=bi σ.n F b k:=λb k=>Lv b k λj hj=>(hF' j).1 b k hj;refine ⟨λb k=>A b k\/∃ j,j < σ.n/\1<=F j b k/\F' j b k=0,F',?_⟩
 have hold:∀ {b k j},j < σ.n->1<=F j b k->1<=0+bi σ.n F b k:=λ{b k j} hj hp=>by grind [dy]
 refine ⟨h.size,h.defers,λi hi=>(hF' i).2.2 _ (λ_ _ h=>.inl h) (λb k hp hz=>.inr ⟨i,hi,hp,hz⟩) hi,(λd r p snap hm=>by cases hm),λb k=>by have:=h.qe b k;have:=qR b k;show 0+bi σ.n F' b k<=1;omega,λb k hp ha=>?_,λb k hp=>?_,
  λi=>by rw[EG];rfl,h.ext,λb k hp=>h.own b k (by have:=qR b k;have hp:1<=0+bi σ.n F' b k:=hp;grind),λb k ha=>.inl (h.a0 b k ha),λb k ha=>?_,h.pu,λr t m H v hg hl=>?_,λj k hm R' qf=>?_,h.yp⟩
 ·have hp:1<=0+bi σ.n F' b k:=hp
  rcases ha with ha | ⟨j,hj,h1,h2⟩
  ·exact h.qS b k (by grind) ha
  ·obtain ⟨i,hi,Ci⟩:=Oe (show 1<=bi σ.n F' b k by omega);have lU:i≠j:=λe=>by grind
   have:=v_ F hi hj lU b k;have:=(hF' i).1 b k hi;have:=h.qe b k;omega
 ·rcases hp with hp | (ha | ⟨j,hj,h1,_⟩)
  ·exact h.ld b k (.inl (by have:=qR b k;have hp:1<=0+bi σ.n F' b k:=hp;grind))
  ·exact h.ld b k (.inr ha)
  ·exact h.ld b k (.inl (hold hj h1))
 ·rcases ha with ha | ⟨j,hj,h1,_⟩
  ·exact h.a1 b k ha
  ·exact .inr (h.own b k (hold hj h1))
 ·rw[Cj] at hg;split at hg
  ·have:∃ m0 H0 v0,σ.get r=.box t m0 H0 v0:=by
    grind [CR,lB]
   obtain ⟨m0,H0,v0,hg0⟩:=this;exact h.whole r t m0 H0 v0 hg0 hl
  ·cases hg
 ·have TS:ei w (tmp a j) (σ.get j)=some R'\/∃ H0,ei w (tmp a j) (σ.get j)=some { R' with H:=H0 }:=by
   rw[Cj] at qf;split at qf
   ·unfold CR at qf;split at qf
    ·grind [lB,ei]
    ·split at qf
     ·grind [lB,ei]
     ·rename_i t0 m0 H0 v0 hk
      have Ik:σ.get j=.box t0 m0 H0 v0:=by
       grind [lB]
      split at qf
      all_goals simp_all [ei]
     grind [ei]
   grind [ei]
  rcases TS with hr | ⟨H0,hr⟩
  ·exact h.om j k hm R' hr
  ·have:=h.om j k hm _ hr;exact this
theorem aaQ (live:List Nat) (σ:St):AI live σ=fm live [] σ:=rfl
theorem aaR (h:ek P C A σ a w F) (live:List Nat):Gn P C (AI live σ) a w:=by grind [aaQ,I8]
end
end OT
namespace OT
open Go
def QK (P:Program) (C:Ctx) {R:Type} (K:Ex->St->Option R) (fin:St->Option R) (x:R):Exit->Act->World->Prop
 | .normal,a,w=>∃ σ,K .normal σ=some x/\Gn P C σ a w
 | .exit id,a,w=>∃ σ,K (.exit id) σ=some x/\Gn P C σ a w
 | .ret,a,w=>∃ σ,fin σ=some x/\Gn P C σ a w
 | _,_,_=>False
noncomputable def codeOk (P:Program) (E:Env):Code->Bool
 | .skip=>true
 | .region id ops d=>ops.toList.all (λo=>sD P o.op)&&(match d with
  | false=>true
  | true=>P.follows .mixedOrders&&OS E id ops (pa E.od id))
 | .seq a b=>codeOk P E a&&codeOk P E b
 | .cond c a b=>d_ P c&&codeOk P E a&&codeOk P E b
 | .block _ b=>codeOk P E b
 | .loop b=>codeOk P E b
 | .scope b=>codeOk P E b
 | .exit _=>true
 | .ret=>true
 | _=>true
section
variable {P:Program} {C:Ctx} {R:Type} {x:R} {E:Env} {fin:St->Option R} {n:Nat}
theorem aaS (hE:ul P E):∀ (c:Code),codeOk P E c=true->∀ {σ:St} {A:Cells} {a:Act} {w:World} {F:Nat->FP} {K:Ex->St->Option R},ek P C A σ a w F->vX E n fin c σ K=some x->c.wp P (QK P C K fin x) a w:=by
 intro c
 induction c with
 | skip=>intro _ σ A a w F K h hk;exact wp_skip ⟨σ,hk,A,F,h⟩
 | region id ops d=>
  intro hc σ A a w F K h hk;simp only[codeOk,aD] at hc;have dt:∀ o ∈ ops.toList,sD P o.op=true:=λo ho=>bG.1 hc.1 o ho
  cases d with
  | false=>exact Ww hE dt h hk (λa w ⟨σ',h1,A',F',h2⟩=>by
    obtain ⟨A2,mX,F2,h3,h4⟩:=aad _ h2 h1
    exact ⟨mX,h3,A2,F2,h4⟩)
  | true=>
   have h2:=hc.2;simp only[aD] at h2;exact aaP hE h2.1 dt h2.2 h hk (λa w ⟨σ',h1,h2⟩=>⟨σ',h1,h2⟩) (λc a w hq=>hq)
 | seq a b nz nr=>
  intro hc σ A ac w F K h hk;simp only[codeOk,aD] at hc;refine wp_seq (wp_mono (nz hc.1 h hk) λe a' w' hq=>?_)
  cases e with
  | normal=>obtain ⟨σ',h1,A',F',h2⟩:=hq;exact nr hc.2 h2 h1
  | exit j=>obtain ⟨σ',h1,h2⟩:=hq;exact ⟨σ',h1,h2⟩
  | ret=>exact hq
  | _=>exact hq.elim
 | cond c a b nz nr=>
  intro hc σ A ac w F K h hk;simp only[codeOk,aD] at hc;simp only[vX] at hk
  rcases gi h hc.1.1 with hs | ⟨xs,e⟩
  rotate_left
  ·rw[e] at hk;cases hk
  grind [JW,wp_cond_true,wp_cond_false]
 | block id b ih=>
  intro hc σ A ac w F K h hk;refine wp_block (wp_mono (ih hc h hk) λe a' w' hq=>?_)
  cases e with
  | normal=>exact hq
  | exit j=>
   obtain ⟨σ',h1,h2⟩:=hq;simp only[ah] at h1;simp only[Exit.inBlock];by_cases hj:j=id
   ·subst hj;rw[aM (by simp)] at h1;rw[aM rfl];exact ⟨σ',h1,h2⟩
   ·have:Nat.beq j id=false:=by
     grind [Nat.eq_of_beq_eq_true]
    rw[this,aV (by simp)] at h1;rw[aV hj];exact ⟨σ',h1,h2⟩
  | ret=>exact hq
  | _=>exact hq.elim
 | loop b ih=>
  intro hc σ A ac w F K h hk;simp only[vX] at hk
  have key:∀ (m:Nat) (σ:St) (ac:Act) (w:World),Gn P C σ ac w->HL (vX E n fin b) (fm (pa E.lv (tT b)) (TJ E.lf (tT b))) K m σ=some x->Code.rounds P b (QK P C K fin x) m ac w:=by
   intro m
   induction m with
   | zero=>intro σ ac w h hk;cases hk
   | succ m ihm=>
    intro σ ac w h hk;obtain ⟨A',F',h⟩:=h;rw[rounds_succ];refine wp_mono (ih hc h hk) λe a' w' hq=>?_
    cases e with
    | normal=>
     obtain ⟨σ',h1,A2,F2,h2⟩:=hq;exact ihm _ a' w' (I8 h2 _ _) h1
    | exit j=>exact hq
    | ret=>exact hq
    | _=>exact hq.elim
  exact wp_loop_rounds n (key n _ ac w (I8 h _ _) hk)
 | scope b ih=>
  intro hc σ A ac w F K h hk;refine wp_scope_straight (wp_mono (ih hc h hk) λe a' w' hq=>?_)
  cases e with
  | normal=>exact hq
  | exit j=>exact hq
  | ret=>exact hq
  | _=>exact hq.elim
 | exit id=>
  intro hc σ A ac w F K h hk;exact wp_exit ⟨_,hk,aaR h _⟩
 | ret=>
  intro hc σ A ac w F K h hk;exact wp_ret ⟨σ,hk,A,F,h⟩
 | _=>grind [vX]
end
end OT
namespace OT
open Go
section
variable {P:Program} {C:Ctx} {A:Cells} {X:FP} {σ:St} {a:Act} {w:World} {F:Nat->FP} {R:Type} {x:R} {E:Env}
def EK (tmps:Array Value):ResultVar->Sem Value
 | .tmp t=>pure (tmps.getD t undef)
 | .cell a t=>do loadVar t (<- asAddr (tmps.getD a undef))
theorem O0 {α:Type} (f:α->Sem Value):∀ (l:List α) (vs:List Value),l.length=vs.length->(∀ (j:Nat) (y:α) (v:Value),l[j]?=some y->vs[j]?=some v->(f y).run P w=.ok v w)->(l.mapM f).run P w=.ok vs w
 | [],[],_,_=>rfl
 | y::l,v::vs,hl,h=>by
  have h0:=h 0 y v rfl rfl;have ih:=O0 f l vs (by simpa using hl) (λj y v hy hv=>h (j+1) y v hy hv);simp_all
 | [],_::_,h,_=>by simp at h
 | _::_,[],h,_=>by simp at h
theorem Q8 {fn:Func} {tmps:Array Value} {vs:List Value} (hl:fn.results.toList.length=vs.length) (h:∀ (j:Nat) (y:ResultVar) (v:Value),fn.results.toList[j]?=some y->vs[j]?=some v->(EK tmps y).run P w=.ok v w) :
  (results fn tmps).run P w=.ok (if h:vs.toArray.size=1 then vs.toArray[0] else .tuple vs.toArray) w:=by
 have h1:=O0 (P:=P) (w:=w) (EK tmps) fn.results.toList vs hl h
 have h2:(fn.results.mapM (EK tmps)).run P w=.ok vs.toArray w:=by
  have e:fn.results=fn.results.toList.toArray:=by simp
  rw[e,List.mapM_toArray,map_eq_pure_bind,Sem.run_bind,h1,Result.andThen_ok,Sem.run_pure]
 have e:results fn tmps=(do
  let vs <- fn.results.mapM (EK tmps)
  pure (if h:vs.size=1 then vs[0] else .tuple vs)):=by
  unfold results;congr 1
 simp_all
def I9 (E:Env):List (Ty×Md)->List ResultVar->Bool
 | [],[]=>true
 | _::rs,.tmp _::xs=>I9 E rs xs
 | (t,_)::rs,.cell _ ty::xs=>(match E.TI ty with
  | some T=>decide (T=t)
  | none=>false)&&I9 E rs xs
 | _,_=>false
theorem acW (hE:ul P E) (h:Rel P C A X σ a w F) {rv:ResultVar} {t:Ty} (B6:∀ b ty,rv=.cell b ty->E.TI ty=some t) {mv:Bool} {K:Md->t.den->St->Option R} (hk:nw σ (JM σ rv) mv t K=some x) :
  ∃ (tv:Value),(EK a.tmps rv).run P w=.ok tv w/\∃ (A':Cells) (σ':St) (F':Nat->FP) (m:Md) (v:t.den) (cs:List Value) (Fv:FP),K m v σ'=some x/\(∀ b i,A b i->A' b i)/\Rel P C A' (λb i=>X b i+Fv b i) σ' a w F'/\tv=dm t cs/\au P w A' t m [] v cs Fv:=by
 cases rv with
 | tmp i=>
  rcases gi h (o:=.tmp i) rfl with hs | ⟨xs,e⟩
  rotate_left
  ·grind [JM,nw]
  obtain ⟨A',σ',F',m,v,cs,Fv,k1,k2,k3,k4,kr,k5,k6⟩:=vB h hs hk;exact ⟨_,rfl,A',σ',F',m,v,cs,Fv,k1,k2,k3,k5,k6⟩
 | cell i ty=>
  have hT:=B6 i ty rfl;have jr:=hE.ti _ _ hT;simp only[JM] at hk;split at hk
  ·rename_i t0 m0 H0 v0 hg
   have hi:i < σ.n:=by
    grind [mN]
   have hs:=h.iZ i hi;rw[hg] at hs;obtain ⟨b,o,L,F1,s1,s2,s3,s4,s5,s6⟩:=hs
   have i7:place σ a w i []=some ⟨t0,H0,L,some (b,o)⟩:=by
    grind [place,ei,fy,cb]
   have NH:dn P A σ a w (dm t0 L) (.ref i [] (σ.lA i)) (λ_ _=>0):=⟨Below.refl _,λ_=>⟨_,i7,rfl,.inr (h.mD i)⟩⟩
   have ht:t0=t:=by
    grind [nw,lZ,di]
   subst ht;obtain ⟨A',σ',F',m,v,cs,Fv,k1,k2,k3,k4,kr,k5,k6⟩:=vB h NH hk;refine ⟨dm t0 L,?_,A',σ',F',m,v,cs,Fv,k1,k2,k3,k5,k6⟩
   have e:a.tmps.getD i undef=.pointer (some ⟨b,o,none⟩):=s1;grind [zU,au.one,EK,asAddr]
  grind [nw]
theorem ab6 (hE:ul P E) {ts:List Ty} {mv:Nat->Bool} {fin:St->((b_ ts).den->Option R)->Option R}:∀ (rs:List (Ty×Md)) (DR:List ResultVar) (j:Nat) {σ:St} {A:Cells} {X:FP} {F:Nat->FP} {K:(b_ (rs.map (·.1)++ts)).den->Option R},
  I9 E rs DR=true->Rel P C A X σ a w F->TK σ ts mv fin rs DR j K=some x ->
  ∃ (A':Cells) (σ':St) (X':FP) (F':Nat->FP) (EL:List Value) (L:List JF) (Fi:Nat->FP) (pre:(b_ ts).den->(b_ (rs.map (·.1)++ts)).den),(∀ b i,A b i->A' b i)/\Rel P C A' X' σ' a w F'/\fin σ' (λy=>K (pre y))=some x/\(∀ y,lM rs (pre y)=(L,y)) /\
   EL.length=L.length/\EL.length=DR.length/\(∀ (k:Nat) (y:ResultVar) (v:Value),DR[k]?=some y->EL[k]?=some v->(EK a.tmps y).run P w=.ok v w)/\(∀ b i,X b i+bi L.length Fi b i<=X' b i) /\
   ∀ A2:Cells,(∀ b i,A' b i->A2 b i)->(∀ b i,1<=X' b i->X b i=0->bi L.length Fi b i=0->A2 b i)->∀ k y,L[k]?=some y->∃ v cs,EL[k]?=some v/\v=dm y.t cs/\au P w A2 y.t y.m [] y.v cs (Fi k):=by
 intro rs
 induction rs with
 | nil=>
  intro DR j σ A X F K hrv h hk
  cases DR with
  | nil=>exact ⟨A,σ,X,F,[],[],λ_ _ _=>0,id,λ_ _ h=>h,h,hk,λy=>rfl,rfl,rfl,(λk y v hy=>by cases hy),(λb i=>by simp[bi]),λA2 _ _ k y hy=>by cases hy⟩
  | cons _ _=>cases hrv
 | cons p rs ih=>
  intro DR j σ A X F K hrv h hk;obtain ⟨t,m⟩:=p
  cases DR with
  | nil=>cases hk
  | cons rv DR=>
   simp only[TK] at hk
   have B6:∀ b ty,rv=.cell b ty->E.TI ty=some t:=λb ty e=>by
    grind [I9]
   have adS:I9 E rs DR=true:=by
    cases rv <;> grind [I9]
   obtain ⟨tv,lg,A1,qA,F1,m1,v1,cs,Fv,k1,k2,k3,k4,k5⟩:=acW hE h B6 hk;split at k1
   ·rename_i hm;obtain ⟨A',σ',X',F',EL,L,Fi,pre,g1,g2,g3,g4,g5,g6,g7,g8,g9⟩:=ih DR (j+1) adS k3 k1;have yt:∀ b i,X' b i<=1:=λb i=>by have:=g2.qe b i;omega
    have B_:∃ G:FP,(∀ b i,G b i<=Fv b i)/\∀ A2:Cells,(∀ b i,A1 b i->A2 b i)->(∀ b i,1<=Fv b i->G b i=0->A2 b i)->au P w A2 t m [] v1 cs G:=by
     by_cases hmm:m1=m
     ·subst hmm;exact ⟨Fv,λ_ _=>aI _,λA2 hA _=>au.mono hA (λ_ _ _ _ h=>h) (λ_ _ h=>h) t k5 (λ_ _=>aI _) (λ_ _ _ _ h=>h)⟩
     ·rcases hm with hm | hm
      ·grind
      ·exact au.fits t hm k5 (λb i=>by grind)
    obtain ⟨G,G1,G2⟩:=B_
    have qR:∀ b i,bi (L.length+1) (λk=>match k with | 0=>G | k+1=>Fi k) b i=G b i+bi L.length Fi b i:=λb i=>by
     rw[Nat.add_comm,wa];congr 1
     ·simp[bi]
     grind
    refine ⟨A',σ',X',F',tv::EL,⟨t,m,v1⟩::L,λk=>match k with | 0=>G | k+1=>Fi k,λy=>(v1,pre y),λb i ha=>g1 b i (k2 b i ha),g2,g3,λy=>by grind [lM],by simp[g5],by simp[g6],λk y v hy hv=>?_,λb i=>?_,λA2 hA C8 k y hy=>?_⟩
    ·grind
    ·grind
    ·have adT:∀ b i,1<=X' b i->X b i=0->G b i+bi L.length Fi b i=0->A2 b i:=λb i h1 h2 h3=>C8 b i h1 h2 (by grind)
     cases k with
     | zero=>
      grind
     | succ k=>
      refine g9 A2 hA (λb i h1 h2 h3=>adT b i h1 Bys (by grind)) k y hy
   ·cases k1
theorem O1 {l:List (Nat×Nat×Bool)} {i j:Nat} {c:Bool} (h:DP l i j c=true):(i,j,c) ∈ l:=by
 induction l <;> grind [DP,Nat.beq_eq]
def qu (F:Nat->FP):List Nat->FP
 | []=>λ_ _=>0
 | i::l=>λb k=>F i b k+qu F l b k
theorem EM (F:Nat->FP) (i:Nat) (G:FP) (b k:Nat):∀ (l:List Nat),i ∉ l->qu (gv F i G) l b k=qu F l b k
 | [],_=>rfl
 | j::l,hj=>by
  simp only[aY,not_or] at hj;simp only[qu,EM F i G b k l hj.2];rw[show gv F i G j=F j by grind [gv]]
theorem SG:∀ (l:List Nat) {n:Nat} (F:Nat->FP),l.Nodup->(∀ i ∈ l,i < n)->∀ b k,qu F l b k<=bi n F b k
 | [],n,F,_,_,b,k=>aW _
 | i::l,n,F,hn,hl,b,k=>by
  have hn':=cH.1 hn;have h1:=SG l (gv F i λ_ _=>0) hn'.2 (λj hj=>hl j (bD _ hj)) b k;grind [EM,uX,qu]
theorem O2 {F:Nat->FP} {b k:Nat}:∀ {l:List Nat},1<=qu F l b k->∃ i ∈ l,1<=F i b k
 | [],h=>by simp[qu] at h
 | i::l,h=>by
  simp only[qu] at h;rcases bI (F i b k) with h0 | h0
  ·obtain ⟨j,hj,hp⟩:=O2 (F:=F) (b:=b) (k:=k) (l:=l) Bys;grind
  grind
def I_:List (PM×Ty)->Bool
 | []=>true
 | _::ps=>I_ ps
theorem aaT (h:Rel P C A X σ a w F):∀ (j:Nat) (ps:List (PM×Ty)) (es:List Nat) {K:(b_ (lL ps)).den->Option R},I_ ps=true->es.Nodup->j+ps.length<=C.args.size->yj σ j ps es K=some x ->
  ∃ (vs:(b_ (lL ps)).den) (us:List Nat) (Gi:Nat->FP),K vs=some x/\(∀ i ∈ us,i ∈ es)/\us.Nodup/\(∀ i ∈ us,i < σ.n)/\(∀ i b k,i ∈ us->Gi i b k<=F i b k) /\
   ∀ A2:Cells,(∀ b k,A b k->A2 b k)->(∀ i b k,i ∈ us->1<=F i b k->Gi i b k=0->A2 b k)->ph P w A2 ps vs (C.args.toList.drop j) (qu Gi us):=by
 intro j ps
 induction ps generalizing j with
 | nil=>intro es K _ _ _ hk;exact ⟨(),[],λ_ _ _=>0,by cases es <;> exact hk,(λi hi=>by cases hi),fP,(λi hi=>by cases hi),(λi b k hi=>by cases hi),λ_ _ _=>trivial⟩
 | cons p ps ih=>
  intro es K hp wm hj hk;obtain ⟨pm,t⟩:=p;have AZ:j+1+ps.length<=C.args.size:=by grind
  have aaf:(C.args.toList.drop j).tail=C.args.toList.drop (j+1):=by rw[List.tail_drop]
  have acX:(C.args.toList.drop j).head?=some (C.args.getD j undef):=by
   simp only[bE] at hj;rw[List.head?_drop,dL,gM Bys];simp[show j < C.args.size by omega]
  have hF1:∀ i,i < σ.n->∀ b k,F i b k<=1:=λi hi b k=>by have:=h.qe b k;grind [dy]
  cases pm with
  | ro=>
   obtain ⟨vs,us,Gi,g1,g2,g3,g4,g5,g6⟩:=ih (j+1) es hp wm AZ hk;exact ⟨vs,us,Gi,g1,g2,g3,g4,g5,λA2 hA C8=>by grind [ph]⟩
  | fix f=>
   obtain ⟨vs,us,Gi,g1,g2,g3,g4,g5,g6⟩:=ih (j+1) es hp wm AZ hk;exact ⟨vs,us,Gi,g1,g2,g3,g4,g5,λA2 hA C8=>by grind [ph]⟩
  | tj f=>
   obtain ⟨vs,us,Gi,g1,g2,g3,g4,g5,g6⟩:=ih (j+1) es hp wm AZ hk;exact ⟨vs,us,Gi,g1,g2,g3,g4,g5,λA2 hA C8=>by grind [ph]⟩
  | pG f=>
   obtain ⟨vs,us,Gi,g1,g2,g3,g4,g5,g6⟩:=ih (j+1) es hp wm AZ hk;exact ⟨vs,us,Gi,g1,g2,g3,g4,g5,λA2 hA C8=>by grind [ph]⟩
  | jl m0 m=>
   cases es with
   | nil=>cases hk
   | cons i es=>
    have O3:=cH.1 wm;simp only[yj] at hk;split at hk
    ·rename_i t' m' H v hg;split at hk
     ·rename_i hc;simp only[aD,bC,cZ,bF] at hc;obtain ⟨⟨hH,hm⟩,Ev⟩:=hc;subst hH;obtain ⟨e,hk⟩:=di hk;subst e;obtain ⟨vs,us,Gi,g1,g2,g3,g4,g5,g6⟩:=ih (j+1) es hp O3.2 AZ hk
      have hi:i < σ.n:=by
       grind [mN]
      have hs:=h.iZ i hi;rw[hg] at hs;obtain ⟨b,o,L,F1,s1,s2,s3,s4,s5,s6⟩:=hs;have aeQ:=h.pu i j (O1 Ev);have hiu:i ∉ us:=λhu=>O3.1 (g2 i hu)
      have B_:∃ G:FP,(∀ b k,G b k<=F1 b k)/\∀ A2:Cells,(∀ b i,A b i->A2 b i)->(∀ b i,1<=F1 b i->G b i=0->A2 b i)->au P w A2 t' m [] v L G:=by
       rcases hm with hm | hm
       ·subst hm;exact ⟨F1,λ_ _=>aI _,λA2 hA _=>au.mono hA (λ_ _ _ _ h=>h) (λ_ _ h=>h) t' s6 (λ_ _=>aI _) (λ_ _ _ _ h=>h)⟩
       ·exact au.fits t' hm s6 (λb' k=>by grind)
      obtain ⟨G,G1,G2⟩:=B_;refine ⟨(v,vs),i::us,gv Gi i λb' k=>d8 b o t'.sz b' k+G b' k,g1,λi' sR=>?_,cH.2 ⟨hiu,g3⟩,λi' sR=>?_,λi' b' k sR=>?_,λA2 hA C8=>?_⟩
      ·grind
      ·grind
      ·by_cases hii:i'=i
       ·grind [gv]
       ·simp only[gv,aV hii];grind
      ·refine ⟨λb' k=>d8 b o t'.sz b' k+G b' k,qu Gi us,λb' k=>?_,⟨b,o,L,G,by grind,s2,s3,λ_ _=>aI _,G2 A2 hA λb' k hp hz=>?_⟩,?_⟩
       ·grind [qu,EM,gv]
       ·grind [gv]
       ·rw[aaf];refine g6 A2 hA λi' b' k sR hp hz=>C8 i' b' k (bD _ sR) hp ?_;have lU:i'≠i:=λe=>by grind
        simp only[gv,aV lU];exact hz
     ·cases hk
    ·cases hk
  | lR m=>
   cases es with
   | nil=>cases hk
   | cons i es=>
    have O3:=cH.1 wm;simp only[yj] at hk
    have main:∀ (t':Ty) (m':Md) (H:List Path) (v:t'.den),(σ.get i=.own t' m' H v\/σ.get i=.box t' m' H v)->(if H.isEmpty&&(decide (m'=m)||fits m' m)&&DP σ.ay i j true then jS t' t v λv=>yj σ (j+1) ps es λvs=>K (v,vs) else none)=some x ->
      ∃ (vs:(b_ (lL ((PM.lR m,t)::ps))).den) (us:List Nat) (Gi:Nat->FP),K vs=some x/\(∀ i' ∈ us,i' ∈ i::es)/\us.Nodup/\(∀ i ∈ us,i < σ.n)/\(∀ i b k,i ∈ us->Gi i b k<=F i b k) /\
       ∀ A2:Cells,(∀ b k,A b k->A2 b k)->(∀ i b k,i ∈ us->1<=F i b k->Gi i b k=0->A2 b k)->ph P w A2 ((PM.lR m,t)::ps) vs (C.args.toList.drop j) (qu Gi us):=by
     intro t' m' H v hg hk;split at hk
     ·rename_i hc;simp only[aD,bC,cZ,bF] at hc;obtain ⟨⟨hH,hm⟩,Ev⟩:=hc;subst hH;obtain ⟨e,hk⟩:=di hk;subst e;obtain ⟨vs,us,Gi,g1,g2,g3,g4,g5,g6⟩:=ih (j+1) es hp O3.2 AZ hk
      have hi:i < σ.n:=by
       grind [mN]
      have hs:=h.iZ i hi
      have ja:∃ (cs:List Value) (F1:FP),dm t' cs=C.args.getD j undef/\(∀ b k,F1 b k<=F i b k)/\au P w A t' m' [] v cs F1:=by
       have hl:=h.om i j (O1 Ev);rcases hg with hg | hg
       ·rw[hg] at hs hl;obtain ⟨cs,h1,h2⟩:=hs;have:=hl _ rfl;grind [lV,au.length,au.one]
       ·rw[hg] at hs hl;obtain ⟨b,o,L,F1,s1,s2,s3,s4,s5,s6⟩:=hs;rw[s1] at hl;have:=hl _ rfl;grind [fy]
      obtain ⟨rp,F1,adU,hF,s6⟩:=ja;have hiu:i ∉ us:=λhu=>O3.1 (g2 i hu)
      have B_:∃ G:FP,(∀ b k,G b k<=F1 b k)/\∀ A2:Cells,(∀ b i,A b i->A2 b i)->(∀ b i,1<=F1 b i->G b i=0->A2 b i)->au P w A2 t' m [] v rp G:=by
       rcases hm with hm | hm
       ·subst hm;exact ⟨F1,λ_ _=>aI _,λA2 hA _=>au.mono hA (λ_ _ _ _ h=>h) (λ_ _ h=>h) t' s6 (λ_ _=>aI _) (λ_ _ _ _ h=>h)⟩
       ·exact au.fits t' hm s6 (λb' k=>by grind)
      obtain ⟨G,G1,G2⟩:=B_;refine ⟨(v,vs),i::us,gv Gi i G,g1,λi' sR=>?_,cH.2 ⟨hiu,g3⟩,λi' sR=>?_,λi' b' k sR=>?_,λA2 hA C8=>?_⟩
      ·grind
      ·grind
      ·by_cases hii:i'=i
       ·subst hii;simp only[gv,aH];grind
       ·simp only[gv,aV hii];grind
      ·refine ⟨G,qu Gi us,λb' k=>?_,⟨rp,by rw[acX,adU],G2 A2 hA λb' k hp hz=>?_⟩,?_⟩
       ·simp only[qu,EM Gi i _ b' k us hiu];simp only[gv,aH];exact aI _
       ·refine C8 i b' k bV (by grind) ?_;simp only[gv,aH];exact hz
       ·rw[aaf];refine g6 A2 hA λi' b' k sR hp hz=>C8 i' b' k (bD _ sR) hp ?_;have lU:i'≠i:=λe=>by grind
        simp only[gv,aV lU];exact hz
     ·cases hk
    split at hk
    ·rename_i t' m' H v hg;exact main t' m' H v (.inl hg) hk
    ·rename_i t' m' H v hg;exact main t' m' H v (.inr hg) hk
    ·cases hk
end
end OT
namespace OT
open Go
section
variable {P:Program} {w:World} {A:Cells} {R:Type} {x:R} {E:Env}
theorem xJ:∀ (ps:List (PM×Ty)) (v:(b_ (ps.map (·.2))).den),(jg ps v).length=ps.length
 | [],_=>rfl
 | (.ro,t)::ps,v=>by cases t <;> simp[jg,xJ ps v.2]
 | (.fix f,t)::ps,v=>by cases t <;> simp[jg,xJ ps v.2]
 | (.jl m m',t)::ps,v=>by simp[jg,xJ ps v.2]
 | (.lR m,t)::ps,v=>by simp[jg,xJ ps v.2]
 | (.tj m,t)::ps,v=>by simp[jg,xJ ps v.2]
 | (.pG m,t)::ps,v=>by simp[jg,xJ ps v.2]
theorem Ja:∀ (ps:List (PM×Ty)) {v:(b_ (ps.map (·.2))).den} {xs:List Value} {G:FP},qd P w A OH ps v xs G->xs.length=ps.length
 | [],_,_,_,h=>by have h:_=[]:=h;rw[h];rfl
 | (pm,t)::ps,_,_,_,h=>by
  obtain ⟨y,ys,F1,F2,rfl,_,_,h2⟩:=h;simp[Ja ps h2]
theorem aaU:∀ (ps:List (PM×Ty)) {v:(b_ (ps.map (·.2))).den} {xs:List Value} {G:FP},qd P w A OH ps v xs G->I_ ps=true ->
  ∃ Fi:Nat->FP,(∀ b k,bi ps.length Fi b k<=G b k)/\∀ i s,(jg ps v)[i]?=some s->∃ y,xs[i]?=some y/\(∀ σ a,dn P A σ a w y s (Fi i))/\(∀ t m H v,s=.box t m H v->(i,i,false) ∈ v7 0 ps) /\
   ((i,i,true) ∈ v7 0 ps->∃ t m H v,s=.own t m H v):=by
 have main:∀ (ps:List (PM×Ty)) (n:Nat) {v:(b_ (ps.map (·.2))).den} {xs:List Value} {G:FP},qd P w A OH ps v xs G->I_ ps=true ->
   ∃ Fi:Nat->FP,(∀ b k,bi ps.length Fi b k<=G b k)/\∀ i s,(jg ps v)[i]?=some s->∃ y,xs[i]?=some y/\(∀ σ a,dn P A σ a w y s (Fi i))/\(∀ t m H v,s=.box t m H v->(n+i,n+i,false) ∈ v7 n ps) /\
    ((n+i,n+i,true) ∈ v7 n ps->∃ t m H v,s=.own t m H v):=by
  have a8:∀ (ps:List (PM×Ty)) (n j k:Nat) (c:Bool),(j,k,c) ∈ v7 n ps->n<=j/\j=k:=by
   intro ps
   induction ps with
   | nil=>intro n j k c h;cases h
   | cons p ps ih=>
    intro n j k c h;obtain ⟨pm,t⟩:=p
    cases pm with
    | ro=>have:=ih (n+1) j k c h;omega
    | fix f=>have:=ih (n+1) j k c h;omega
    | pG m=>have:=ih (n+1) j k c h;omega
    | jl m m'=>
     rcases aY.1 h with e | h
     all_goals grind
    | tj m=>
     rcases aY.1 h with e | h
     all_goals grind
    | lR m=>
     rcases aY.1 h with e | h
     all_goals grind
  intro ps
  induction ps with
  | nil=>intro n v xs G h _;exact ⟨λ_ _ _=>0,λb k=>aW _,λi s hs=>by cases hs⟩
  | cons p ps ih=>
   intro n v xs G h hp;obtain ⟨pm,t⟩:=p;obtain ⟨y,ys,F1,F2,rfl,hs,ha,hr⟩:=h;have hp':I_ ps=true:=hp;obtain ⟨Fi,g1,g2⟩:=ih (n+1) hr hp'
   obtain ⟨s0,hs0,Yx,abL,jz⟩:∃ s0,jg ((pm,t)::ps) v=s0::jg ps v.2/\(∀ σ a,dn P A σ a w y s0 F1)/\(∀ t' m' H' v',s0=.box t' m' H' v'->∃ m,(∃ m',pm=.jl m m')\/pm=.tj m)/\((∃ m,pm=.lR m)->∃ t' m H v,s0=.own t' m H v):=by
    cases pm with
    | ro=>
     obtain ⟨cs,h1,h2⟩:=ha
     cases t with
     | ptr e=>
      refine ⟨.cp e v.1,rfl,λσ a=>?_,(λ_ _ _ _ e=>by cases e),λ⟨m,e⟩=>by cases e⟩
      have hl:=Ro.length _ h2
      match cs,hl with
      | [u],_=>
       rw[eo _ _ rfl] at h1;subst h1;exact h2
     | _=>exact ⟨.val _ v.1,rfl,λσ a=>⟨cs,h1,h2⟩,(λ_ _ _ _ e=>by cases e),λ⟨m,e⟩=>by cases e⟩
    | fix f=>
     obtain ⟨⟨cs,h1,h2⟩,h3⟩:=ha
     cases t with
     | fn=>
      refine ⟨.val .fn (f,v.1.2),rfl,λσ a=>⟨cs,h1,?_⟩,(λ_ _ _ _ e=>by cases e),λ⟨m,e⟩=>by cases e⟩
      grind
     | _=>exact ⟨.dead,rfl,λσ a=>trivial,(λ_ _ _ _ e=>by cases e),λ⟨m,e⟩=>by cases e⟩
    | jl m m'=>
     obtain ⟨b,o,L,F3,h1,h2,h3,h4,h5,h6⟩:=ha;exact ⟨.box t m [] v.1,rfl,λσ a=>⟨b,o,L,F3,h1,h2,h3,h4,h5,h6⟩,λ_ _ _ _ _=>⟨m,.inl ⟨m',rfl⟩⟩,λ⟨m,e⟩=>by cases e⟩
    | tj m=>
     obtain ⟨b,o,L,F3,h1,h2,h3,h4,h5,h6⟩:=ha;exact ⟨.box t m [] v.1,rfl,λσ a=>⟨b,o,L,F3,h1,h2,h3,h4,h5,h6⟩,λ_ _ _ _ _=>⟨m,.inr rfl⟩,λ⟨m,e⟩=>by cases e⟩
    | lR m=>
     obtain ⟨cs,h1,h2⟩:=ha;exact ⟨.own t m [] v.1,rfl,λσ a=>⟨cs,h1,h2⟩,(λ_ _ _ _ e=>by cases e),λ_=>⟨_,_,_,_,rfl⟩⟩
    | pG m=>
     obtain ⟨H,cs,hH,h1,h2⟩:=ha;obtain rfl:=bC.1 hH;exact ⟨.own t m [] v.1,rfl,λσ a=>⟨cs,h1,h2⟩,(λ_ _ _ _ e=>by cases e),λ_=>⟨_,_,_,_,rfl⟩⟩
   refine ⟨λk=>match k with | 0=>F1 | k+1=>Fi k,λb k=>?_,λi s hi=>?_⟩
   ·have:bi (ps.length+1) (λk=>match k with | 0=>F1 | k+1=>Fi k) b k=F1 b k+bi ps.length Fi b k:=by
     rw[Nat.add_comm,wa];grind [bi]
    grind
   ·rw[hs0] at hi
    cases i with
    | zero=>
     injection hi with hi;subst hi;refine ⟨y,rfl,Yx,λt' m' H' v' e=>?_,λhm=>?_⟩
     ·obtain ⟨m,⟨_,rfl⟩ | rfl⟩:=abL t' m' H' v' e
      ·exact bV
      ·exact bV
     ·refine jz ?_
      cases pm with
      | lR m=>exact ⟨m,rfl⟩
      | ro=>have:=a8 ps (n+1) _ _ _ hm;omega
      | fix f=>have:=a8 ps (n+1) _ _ _ hm;omega
      | pG m=>have:=a8 ps (n+1) _ _ _ hm;omega
      | jl m m'=>
       rcases aY.1 hm with e | hm
       all_goals grind
      | tj m=>
       rcases aY.1 hm with e | hm
       all_goals grind
    | succ i=>
     obtain ⟨y',q1,q2,q3,q4⟩:=g2 i s hi;have adV:n+1+i=n+(i+1):=by omega
     rw[adV] at q3 q4;refine ⟨y',q1,q2,λt' m' H' v' e=>?_,λhm=>q4 ?_⟩
     ·have:=q3 t' m' H' v' e
      cases pm with
      | ro=>exact this
      | fix f=>exact this
      | pG m=>exact this
      | jl m m'=>exact bD _ this
      | tj m=>exact bD _ this
      | lR m=>exact bD _ this
     ·cases pm with
      | ro=>exact hm
      | fix f=>exact hm
      | pG m=>exact hm
      | jl m m'=>
       rcases aY.1 hm with e | hm
       all_goals grind
      | tj m=>
       rcases aY.1 hm with e | hm
       all_goals grind
      | lR m=>
       rcases aY.1 hm with e | hm
       all_goals grind
 intro ps v xs G h hp;obtain ⟨Fi,g1,g2⟩:=main ps 0 h hp;exact ⟨Fi,g1,λi s hi=>by grind⟩
theorem O4:∀ (ps:List (PM×Ty)) (n j k:Nat) (c:Bool),(j,k,c) ∈ v7 n ps->n<=j/\j=k/\j < n+ps.length:=by
 intro ps
 induction ps with
 | nil=>intro n j k c h;cases h
 | cons p ps ih=>
  intro n j k c h;obtain ⟨pm,t⟩:=p;simp only[bE]
  cases pm with
  | ro=>have:=ih (n+1) j k c h;omega
  | fix f=>have:=ih (n+1) j k c h;omega
  | pG m=>have:=ih (n+1) j k c h;omega
  | jl m m'=>
   rcases aY.1 h with e | h
   all_goals grind
  | tj m=>
   rcases aY.1 h with e | h
   all_goals grind
  | lR m=>
   rcases aY.1 h with e | h
   all_goals grind
theorem O5:∀ (ss:List Slot) (n i:Nat),oD (BL n ss) i=if n<=i then ss[i - n]? else none
 | [],n,i=>by simp[BL,oD]
 | s::ss,n,i=>by
  simp only[BL,oD,O5 ss (n+1) i];by_cases hi:n=i
  ·simp_all
  grind [Nat.eq_of_beq_eq_true]
theorem Yy {g:vV} {v:(b_ (g.ps.map (·.2))).den} {xs:List Value} {F0:FP} {n:Nat} (h:qd P w A OH g.ps v xs F0) (hp:I_ g.ps=true) (hn:g.ps.length<=n) (h1:∀ b i,F0 b i<=1) (h2:∀ b i,1<=F0 b i->¬ A b i) (h3:∀ b i,1<=F0 b i\/A b i->b < w.heap.size) (LM:xA P w F0) :
  ∃ F,ek P { w0:=w,A0:=A,F0:=F0,args:=xs.toArray } A (DQ g.ps v n) { tmps:=xs.toArray++Array.replicate (n - xs.toArray.size) undef,defers:=[] } w F:=by
 obtain ⟨Fi,g1,g2⟩:=aaU g.ps h hp;have hlen:=Ja g.ps h;have Wi:=xJ g.ps v
 have yu:∀ i,(DQ g.ps v n).get i=if i < n then (match (jg g.ps v)[i]? with | some s=>s | none=>.dead) else .dead:=λi=>by
  grind [St.get,DQ,O5,Nat.blt_eq]
 have adW:∀ i (y:Value),xs[i]?=some y->tmp { tmps:=xs.toArray++Array.replicate (n - xs.toArray.size) undef,defers:=[] } i=y:=λi y hy=>by
  have hi:=(aP.1 hy).1;simp_all [tmp,fF]
 have qR:∀ b k,bi n (λi=>if i < g.ps.length then Fi i else λ_ _=>0) b k<=F0 b k:=λb k=>by
  have e:n=g.ps.length+(n - g.ps.length):=by omega
  rw[e,wa];have e1:=congrFun (congrFun (yk (n:=g.ps.length) (f:=λi=>if i < g.ps.length then Fi i else λ_ _=>0) (g:=Fi) (λj hj=>by grind)) b) k;grind [nH]
 refine ⟨λi=>if i < g.ps.length then Fi i else λ_ _=>0,?_,rfl,λi hi=>?_,(λd r p snap hm=>by cases hm),λb k=>?_,λb k hp=>?_,λb k hp=>?_,λi=>rfl,Ext.refl _ _,λb k hp=>?_,λ_ _ h=>h,λ_ _ h=>.inl h,λj k hm=>?_,λr t m H v' hg hl=>?_,λj k hm R hR=>?_,LM⟩
 ·grind [DQ]
 ·rw[yu];have hi:i < n:=hi;rw[aM hi]
  cases hs:(jg g.ps v)[i]? with
  | none=>trivial
  | some s=>
   grind
 ·have:=qR b k;have:=h1 b k;show 0+bi n _ b k<=1;omega
 ·have hp:1<=0+bi n (λi=>if i < g.ps.length then Fi i else λ_ _=>0) b k:=hp;grind
 ·refine h3 b k (hp.imp (λhp=>?_) id);have hp:1<=0+bi n (λi=>if i < g.ps.length then Fi i else λ_ _=>0) b k:=hp;grind
 ·have hp:1<=0+bi n (λi=>if i < g.ps.length then Fi i else λ_ _=>0) b k:=hp;grind
 ·obtain ⟨_,rfl,hj⟩:=O4 g.ps 0 j k false hm;simp_all
 ·exfalso;rw[yu] at hg;split at hg
  ·cases hs:(jg g.ps v)[r]? with
   | none=>grind
   | some s=>
    rw[hs] at hg;obtain ⟨y,_,_,q3,_⟩:=g2 r s hs;exact hl r (q3 t m H v' hg)
  ·cases hg
 ·obtain ⟨_,rfl,hj⟩:=O4 g.ps 0 j k true hm;have AZ:j < (jg g.ps v).length:=by omega
  have hs:=aB AZ;obtain ⟨y,q1,q2,_,q4⟩:=g2 j _ hs;obtain ⟨t,m,H,v',e⟩:=q4 hm;have hjn:j < n:=by omega
  rw[yu,aM hjn,hs] at hR;simp only[e,ei,aQ] at hR;subst hR;rw[adW j y q1];have h2:=q2 (DQ g.ps v n) { tmps:=#[],defers:=[] };rw[e] at h2;obtain ⟨cs,c1,c2⟩:=h2;have:=lV (au.length _ c2) (au.one _ c2);simp_all
noncomputable def NN (P:Program) (E:Env) (fn:Func) (ps:List (PM×Ty)) (rs:List (Ty×Md)) (es:List Nat):Bool:=
 codeOk P E (Ga fn)&&I9 E rs fn.results.toList&&I_ ps&&Nat.ble ps.length fn.ntmps&&decide es.Nodup
theorem Nt (hE:ul P E) {f:FuncId} {fn:Func} (hf:P.funcs[f]?=some fn) (hb:fn.body.isSome=true) {g:vV} (hh:∀ v H,g.FK v H=true->H=[]) {es fr:List Nat} (bd:NN P E fn g.ps g.rs es=true) (hF:∀ v out,g.F v=some out->∃ k,NG E k fn g.ps g.rs es fr v=some out):Sound P f g:=by
 intro w A F0 v xs mm h1 h2 h3 LM out pL;replace mm:=mm.none (hh v);obtain ⟨k,hk⟩:=hF v out pL;simp only[NN,aD,dK,bF] at bd;obtain ⟨⟨⟨⟨aag,hrv⟩,yC⟩,Z7⟩,wm⟩:=bd;obtain ⟨c,hc⟩:=dZ.1 hb;have hbo:Ga fn=c:=by simp[Ga,hc]
 rw[hbo] at aag;obtain ⟨F,Yx⟩:=Yy mm yC Z7 h1 h2 h3 LM;unfold NG at hk;rw[hbo] at hk;have hxl:=Ja g.ps mm
 have Dw:∀ (a':Act) (w':World) (σ':St),Oc g.ps g.rs es fn.results.toList (ZT fr) σ'=some out->Gn P { w0:=w,A0:=A,F0:=F0,args:=xs.toArray } σ' a' w' ->
   a'.defers=[]/\∃ rv,(results fn a'.tmps).run P w'=.ok rv w'/\(∃ WF,Ending.returned rv=.returned WF/\Ext w w' F0/\∃ (A':Cells) (G GR GM:FP),(∀ b i,A b i->A' b i)/\(∀ b i,A' b i->A b i\/1<=F0 b i\/w.heap.size<=b) /\
    (∀ b i,1<=G b i->1<=F0 b i\/w.heap.size<=b)/\(∀ b i,G b i<=1)/\(∀ b i,1<=G b i->¬ A' b i)/\(∀ b i,1<=G b i\/A' b i->b < w'.heap.size)/\(∀ b i,GR b i+GM b i<=G b i) /\
    oM P w' A' (lM g.rs out).1 WF GR/\ph P w' A' g.ps (lM g.rs out).2 xs GM):=by
  intro a' w' σ' ho hr;obtain ⟨A1,F1,hr⟩:=hr;unfold Oc at ho;obtain ⟨A2,mX,X2,F2,EL,L,Fi,pre,r1,r2,r3,r4,r5,r6,r7,r8,r9⟩:=ab6 hE g.rs fn.results.toList 0 hrv hr ho;obtain ⟨vs,us,Gi,m1,m2,m3,m4,m5,m6⟩:=aaT r2 0 g.ps es yC wm (by simp[hxl]) r3;have adX:pre vs=out:=Option.some.inj m1;have qz:lM g.rs out=(L,vs):=by rw[<-adX,r4]
  have hGR:∀ b i,bi L.length Fi b i<=X2 b i:=λb i=>by grind
  have adY:∀ b i,qu Gi us b i<=qu F2 us b i:=λb i=>by
   have:∀ l:List Nat,(∀ j ∈ l,j ∈ us)->qu Gi l b i<=qu F2 l b i:=by
    intro l
    induction l <;> grind [qu]
   grind
  have hGM:∀ b i,qu Gi us b i<=bi mX.n F2 b i:=λb i=>bH (adY b i) (SG us F2 m3 m4 b i);refine ⟨r2.defers,_,Q8 (by rw[r6]) r7,_,rfl,r2.ext,?_⟩
  obtain ⟨A3,sy⟩:∃ A3:Cells,∀ b i,A3 b i↔(A2 b i\/(1<=X2 b i+bi mX.n F2 b i/\bi L.length Fi b i+qu Gi us b i=0)):=⟨λb i=>A2 b i\/(1<=X2 b i+bi mX.n F2 b i/\bi L.length Fi b i+qu Gi us b i=0),λ_ _=>iG⟩
  have ab7:∀ b i,A2 b i->A3 b i:=λb i h=>(sy b i).2 (.inl h);have yt:∀ b i,X2 b i+bi mX.n F2 b i<=1:=λb i=>r2.qe b i;refine ⟨A3,λb i=>bi L.length Fi b i+qu Gi us b i,bi L.length Fi,qu Gi us,λb i ha=>ab7 b i (r2.a0 b i ha),λb i ha=>?_,λb i hp=>?_,λb i=>?_,λb i hp ha=>?_,λb i hp=>?_,λ_ _=>aI _,?_,?_⟩
  ·rcases (sy b i).1 ha with ha | ⟨hp,_⟩
   ·exact r2.a1 b i ha
   ·exact .inr (r2.own b i hp)
  ·have hp:1<=bi L.length Fi b i+qu Gi us b i:=hp;exact r2.own b i (by grind)
  ·grind
  ·have hp:1<=bi L.length Fi b i+qu Gi us b i:=hp
   rcases (sy b i).1 ha with ha | ⟨_,hz⟩
   ·exact r2.qS b i (by grind) ha
   ·omega
  ·rcases hp with hp | ha
   ·have hp:1<=bi L.length Fi b i+qu Gi us b i:=hp;exact r2.ld b i (.inl (by grind))
   ·rcases (sy b i).1 ha with ha | ⟨hp,_⟩
    ·exact r2.ld b i (.inr ha)
    ·exact r2.ld b i (.inl hp)
  ·rw[qz]
   have Ul:=r9 A3 ab7 (λb i hx _ hz=>(sy b i).2 (.inr ⟨by omega,by
    grind⟩))
   show oM P w' A3 L _ _
   match L,r5,Ul with
   | [],_,_=>trivial
   | [y],hl,Ul=>
    match EL,hl with
    | [u],_=>
     obtain ⟨u',cs,e1,e2,e3⟩:=Ul 0 y rfl;injection e1 with e1;subst e1;refine ⟨cs,by simpa using e2,e3.le λb i=>by simp[bi]⟩
   | y::z::L,hl,Ul=>
    refine ⟨EL.toArray,Fi,?_,λ_ _=>aI _,λj q hq=>?_⟩
    all_goals grind
  grind [dy,O2,v_]
 refine calls_of_wp hf hc (wp_mono (aaS hE c aag Yx hk) λe a' w' hq=>?_)
 cases e with
 | normal=>obtain ⟨σ',h4,h5⟩:=hq;exact Dw a' w' σ' h4 h5
 | ret=>obtain ⟨σ',h4,h5⟩:=hq;exact Dw a' w' σ' h4 h5
 | exit j=>obtain ⟨σ',h4,h5⟩:=hq;cases h4
 | _=>exact hq.elim
end
end OT
namespace OT
open Go
def O6 (w:World):Cells:=λb _=>b < w.heap.size
def Dx:Ty->Bool
 | .int _ | .bool | .str | .unit=>true
 | .pair a b=>Dx a&&Dx b
 | .aa e=>Dx e
 | _=>false
def ui:(T:Ty)->T.den->Prop
 | .int k,n=>k.min<=qK k n/\qK k n<=k.max
 | .str,s=>List.length s<=maxLen
 | .pair a b,v=>ui a v.1/\ui b v.2
 | .aa e,v=>List.length v<=maxLen/\∀ x ∈ (v:List e.den),ui e x
 | _,_=>True
def WG:(ps:List (PM×Ty))->(b_ (ps.map (·.2))).den->Prop
 | [],_=>True
 | (_,T)::ps,v=>ui T v.1/\WG ps v.2
section
variable {P:Program} {w:World} {H:Type} {enc:TypeId×Value->H}
theorem Jb {T:Ty} {i:TypeId} (h:bn P T (.inl i)=true):P.cellsOf i=T.sz:=by
 obtain ⟨inf,h1,h2,_⟩:=lD (mG h);grind [Program.cellsOf]
theorem Yz {a:Addr} {k:Nat} {u:Value} (h:w.cell? (a.add k)=some u) (hk:k=0\/a.spot=none):a.spot=none:=by
 rcases hk with rfl | hk
 ·unfold Addr.add at h;rw[aM rfl] at h;unfold World.cell? at h;split at h
  all_goals simp_all
 ·exact hk
theorem aaV:∀ (T:Ty),Dx T=true ->
  (∀ i,bn P T (.inl i)=true->∀ fuel cs x,DataW.trod enc P w 0 (λ_=>true) true fuel i cs=some x->∃ v:T.den,ui T v/\Ro P w (O6 w) T v cs) /\
  (∀ fs off,bn P T (.inr (fs,off))=true->∀ n (cs:List Value),cs.length=off+T.sz->(∀ f ∈ fs,∃ x,DataW.trod enc P w 0 (λ_=>true) true n f.type ((cs.drop f.offset).take (P.cellsOf f.type))=some x)->∃ v:T.den,ui T v/\Ro P w (O6 w) T v (cs.drop off)):=by
 intro T
 induction T with
 | int k=>
  intro _;refine ⟨λi hl fuel cs x h=>?_,λfs off hl=>by simp[bn] at hl⟩
  obtain ⟨n,rfl,_,hwf⟩:=DataW.trod_int (rn hl) h;simp only[Lit.wf,aD,bF] at hwf
  cases k with
  | u8=>
   have h1:qK .u8 (UInt8.ofInt n)=n:=by
    have:=LE .u8 n (λ_=>by
     have h1:(0:Int)<=n:=hwf.1;have h2:n<=(255:Int):=hwf.2
     omega)
    exact this
   refine ⟨(UInt8.ofInt n:UInt8),?_,?_⟩
   ·show IntKind.u8.min<=qK .u8 (UInt8.ofInt n)/\qK .u8 (UInt8.ofInt n)<=IntKind.u8.max;grind
   ·show [Value.int .u8 n]=[Value.int .u8 (qK .u8 (UInt8.ofInt n))]
    rw[h1]
  | _=>exact ⟨n,hwf,rfl⟩
 | bool=>
  intro _;refine ⟨λi hl fuel cs x h=>?_,λfs off hl=>by simp[bn] at hl⟩
  have hu:P.underlying i=some .bool:=by
   grind [bn]
  obtain ⟨b,rfl,_⟩:=DataW.trod_bool hu h;exact ⟨b,trivial,rfl⟩
 | str=>
  intro _;refine ⟨λi hl fuel cs x h=>?_,λfs off hl=>by simp[bn] at hl⟩
  obtain ⟨s,rfl,_,hsm⟩:=DataW.trod_string (nA hl) h;exact ⟨s.data.toList,(by show s.data.toList.length<=maxLen;simp_all),by simp only[Ro]⟩
 | unit=>
  intro _;refine ⟨λi hl fuel cs x h=>?_,λfs off hl n cs hlen _=>⟨(),trivial,?_⟩⟩
  ·simp only[bn,aD] at hl;have h2:=hl.2;split at h2
   ·rename_i fs hu;obtain ⟨xs,n,_,_,hlen,_⟩:=DataW.trod_struct hu h
    have ol:P.cellsOf i=0:=by
     grind [lD,Program.cellsOf,Ty.sz]
    rw[ol] at hlen;exact ⟨(),trivial,by grind [Ro]⟩
   ·cases h2
  grind [Ro,List.drop_of_length_le,Ty.sz]
 | pair a b nz nr=>
  intro ha;simp only[Dx,aD] at ha
  have ab8:∀ fs off,bn P (.pair a b) (.inr (fs,off))=true->∀ n (cs:List Value),cs.length=off+(Ty.pair a b).sz->(∀ f ∈ fs,∃ x,DataW.trod enc P w 0 (λ_=>true) true n f.type ((cs.drop f.offset).take (P.cellsOf f.type))=some x)->∃ v:(Ty.pair a b).den,ui (.pair a b) v/\Ro P w (O6 w) (.pair a b) v (cs.drop off):=by
   intro fs off hl n cs hlen hf
   cases fs with
   | nil=>simp[bn] at hl
   | cons f r=>
    simp only[bn,aD,eI,dK] at hl;obtain ⟨⟨⟨ho,_⟩,h1⟩,h2⟩:=hl;simp only[Ty.sz] at hlen;obtain ⟨x,hx⟩:=hf f bV;rw[ho,Jb h1] at hx;obtain ⟨v1,o1,r1⟩:=(nz ha.1).1 _ h1 _ _ _ hx;obtain ⟨v2,o2,r2⟩:=(nr ha.2).2 r (off+a.sz) h2 n cs Bys (λf' hf'=>hf f' (bD _ hf'));exact ⟨(v1,v2),⟨o1,o2⟩,r1,by simp_all⟩
  refine ⟨λi hl fuel cs x h=>?_,ab8⟩
  have hl0:=hl;simp only[bn,aD] at hl;have h2:=hl.2;split at h2
  ·rename_i fs hu;split at h2
   ·rename_i f r JY
    have h3:bn P (.pair a b) (.inr (f::r,0))=true:=by
     grind [bn]
    obtain ⟨xs,n,_,_,hlen,hxl,aaW⟩:=DataW.trod_struct hu h;rw[Jb hl0] at hlen
    have:=ab8 (f::r) 0 h3 n cs Bys (λf' hf'=>by
     rw[<-JY] at hf';obtain ⟨j,hj,e⟩:=cV.1 hf';have AZ:j < fs.size:=by simpa using hj
     have:=aaW j f' (by grind)
     grind)
    simpa using this
   ·cases h2
  ·cases h2
 | aa e ih=>
  intro ha;simp only[Dx] at ha;refine ⟨λi hl fuel cs x h=>?_,λfs off hl=>by simp[bn] at hl⟩
  obtain ⟨el,hu,ol,hle⟩:=vL hl
  rcases DataW.trod_slice hu h with ⟨rfl,_⟩ | ⟨a,len,cap,elems,rest,n,_,rfl,_,_,hlc,hcm,sC,YA,rq,_⟩
  ·exact ⟨[],⟨aW _,λx hx=>by cases hx⟩,none,0,rfl,aI _,λ_=>rfl,λad e=>by cases e⟩
  ·rw[Jb hle] at YA rq
   have to:∀ k y,(w.cells? 0 (a.add (k*e.sz)) e.sz).bind (DataW.trod enc P w 0 (λ_=>true) true n el)=some y->∃ co,w.cells? 0 (a.add (k*e.sz)) e.sz=some co/\DataW.trod enc P w 0 (λ_=>true) true n el co=some y:=λk y hk=>by
    cases hc:w.cells? 0 (a.add (k*e.sz)) e.sz <;> grind
   have aah:0 < cap->a.spot=none:=λI2=>by
    have OF:∃ co,w.cells? 0 (a.add (0*e.sz)) e.sz=some co:=by
     by_cases hlen:0 < len
     ·have h0:=YA 0 hlen;rw[aB Bys] at h0;obtain ⟨co,h1,_⟩:=to 0 _ h0;grind
     ·obtain rfl:len=0:=by omega
      obtain ⟨xi,wd⟩:=rq rfl;have h0:=wd 0 Bys;rw[aB Bys] at h0;obtain ⟨co,h1,_⟩:=to (0+0) _ h0;grind
    obtain ⟨co,h1⟩:=OF;obtain ⟨_,A5,h2⟩:=World.cells?_some h1;grind [Addr.add,Yz]
   have each:∀ k:Fin len,∃ v:e.den,ui e v/\∃ L:List Value,L.length=e.sz/\(∀ j u,L[j]?=some u->ce w a.block (a.off+k.val*e.sz+j)=some u/\O6 w a.block (a.off+k.val*e.sz+j))/\Ro P w (O6 w) e v L:=λk=>by
    have h0:=YA k.val k.isLt;rw[aB (by grind)] at h0;obtain ⟨co,h1,h2⟩:=to k.val _ h0;obtain ⟨v,ho,hv⟩:=(ih ha).1 _ hle _ _ _ h2;obtain ⟨_,A5,h3⟩:=World.cells?_some h1;refine ⟨v,ho,co,A5,λj u hu=>?_,hv⟩
    have hj:=(aP.1 hu).1;have h4:=h3 j Bys;rw[hu] at h4;have qz:=aah (by grind);obtain ⟨b,off,sp⟩:=a;simp only at qz;subst qz;rw[rC,rC] at h4;have h5:ce w b (off+k.val*e.sz+j)=some u:=HM h4 (Ro.one e hv u (bU hu));exact ⟨h5,yA h5⟩
   obtain ⟨f,hf⟩:=fN each;refine ⟨List.ofFn f,⟨by simp;omega,λx hx=>?_⟩,some a,cap,by simp,by simpa using hlc,(λe=>by cases e),λad e=>?_⟩
   ·grind
   injection e with e;subst e;refine ⟨aah,λk y hk=>?_⟩
   rw[List.getElem?_ofFn] at hk;split at hk
   ·rename_i a8;injection hk with hk;subst hk;exact (hf ⟨k,a8⟩).2
   ·cases hk
 | _=>grind [Dx]
theorem arg_val {T:Ty} (ha:Dx T=true) {i:TypeId} (hl:bn P T (.inl i)=true) {r:Reach} {b0:Nat} {v:Value} (h:Value.okWide P w r b0 i v):v=dm T v.cells.toList:=by
 cases T with
 | int k=>
  have hu:=rn hl;cases v <;> simp[Value.okWide,Cell.okWide,Cell.ok,hu] at h <;> simp[dm,isAgg,Value.cells]
 | bool=>
  have hu:P.underlying i=some .bool:=by
   grind [bn]
  cases v <;> simp[Value.okWide,Cell.okWide,Cell.ok,hu] at h <;> simp[dm,isAgg,Value.cells]
 | str=>
  have hu:=nA hl;cases v <;> simp[Value.okWide,Cell.okWide,Cell.ok,hu] at h <;> simp[dm,isAgg,Value.cells]
 | aa e=>
  obtain ⟨el,hu,_⟩:=vL hl;cases v <;> simp[Value.okWide,Cell.okWide,Cell.ok,hu] at h <;> simp[dm,isAgg,Value.cells]
 | unit=>
  simp only[bn,aD] at hl;have h2:=hl.2;split at h2
  ·rename_i fs hu;simp only[Value.okWide,hu] at h;obtain ⟨cs,rfl,_⟩:=h;simp[dm,isAgg,Value.cells]
  ·cases h2
 | pair a b=>
  simp only[bn,aD] at hl;have h2:=hl.2;split at h2
  ·rename_i fs hu;simp only[Value.okWide,hu] at h;obtain ⟨cs,rfl,_⟩:=h;simp[dm,isAgg,Value.cells]
  ·cases h2
 | _=>simp[Dx] at ha
def C9 (P:Program):List (PM×Ty)->List TypeId->Bool
 | [],[]=>true
 | (.ro,T)::ps,t::ts=>Dx T&&bn P T (.inl t)&&P.readableRec t&&Nat.blt t P.types.size&&C9 P ps ts
 | _,_=>false
theorem SH:∀ (ps:List (PM×Ty)) (ts:List TypeId) (args:List Value) (ds:List (DataW H)) (p:List MemPlace) {b0:Nat},C9 P ps ts=true->DataW.TrodAll enc P w 0 (λ_=>true) true ts args ds p ->
  (∀ (j:Nat) t v,ts[j]?=some t->args[j]?=some v->Value.okWide P w .any b0 t v)->∃ v,WG ps v/\qd P w (O6 w) OH ps v args (λ_ _=>0)
 | [],[],args,ds,p,b0,_,h,_=>by
  cases args with
  | nil=>exact ⟨(),trivial,rfl⟩
  | cons _ _=>simp[DataW.TrodAll] at h
 | (.ro,T)::ps,t::ts,args,ds,p,b0,hl,h,bd=>by
  simp only[C9,aD] at hl
  cases args with
  | nil=>simp[DataW.TrodAll] at h
  | cons v args=>
   cases ds with
   | nil=>simp[DataW.TrodAll] at h
   | cons d ds=>
    obtain ⟨p1,q1,⟨fuel,h1⟩,h2,_⟩:=h;obtain ⟨x,hox,hx⟩:=(aaV T hl.1.1.1.1).1 t hl.1.1.1.2 _ _ _ h1;obtain ⟨xs,adZ,hxs⟩:=SH ps ts args ds q1 (b0:=b0) hl.2 h2 (λj t' v' ht hv=>bd (j+1) t' v' ht hv);exact ⟨(x,xs),⟨hox,adZ⟩,v,args,λ_ _=>0,λ_ _=>0,rfl,λ_ _=>aI _,⟨_,arg_val hl.1.1.1.1 hl.1.1.1.2 (bd 0 t v rfl rfl),hx⟩,hxs⟩
theorem MJ (xl:laidOutB P=true) {W W':World} (hb:RowKit.Below W.heap.size W W') {sp:Nat->Bool}:∀ (ps:List (PM×Ty)) (ts:List TypeId) (args:List Value) (ds:List (DataW H)) (p:List MemPlace),C9 P ps ts=true->DataW.TrodAll enc P W 0 (λ_=>true) true ts args ds p ->
  (∀ x ∈ p,x.block < W.heap.size)->(∀ x ∈ p,sp x.block=true)->DataW.TrodAll enc P W' 0 sp true ts args ds p
 | [],[],args,ds,p,_,h,_,_=>by
  grind [DataW.TrodAll]
 | (.ro,T)::ps,t::ts,args,ds,p,hl,h,a8,qz=>by
  simp only[C9,aD] at hl
  cases args with
  | nil=>simp[DataW.TrodAll] at h
  | cons v args=>
   cases ds with
   | nil=>simp[DataW.TrodAll] at h
   | cons d ds=>
    obtain ⟨p1,q1,h1,h2,rfl⟩:=h;have ht:t < P.types.size:=by simp_all
    exact ⟨p1,q1,WideElems.Trod_stays xl hl.1.1.2 ht h1 (λx hx=>hb.same (a8 x (List.mem_append_left _ hx))) (λx hx=>qz x (List.mem_append_left _ hx)),
     MJ xl hb ps ts args ds q1 hl.2 h2 (λx hx=>a8 x (List.mem_append_right _ hx)) (λx hx=>qz x (List.mem_append_right _ hx)),rfl⟩
theorem WH {f:FuncId} {cap:Bool} {ps:List (PM×Ty)} {Fn:(b_ (ps.map (·.2))).den->Option (b_ ([((Ty.bool,ak .bool):Ty×Md)].map (·.1)++lL ps)).den} (hs:Sound P f { cap:=cap,ps:=ps,rs:=[(.bool,ak .bool)],F:=Fn }) (Um:∀ v,WG ps v->∃ u,Fn v=some (true,u))
  {ts:List TypeId} (hl:C9 P ps ts=true) {args:List Value} {ds:List (DataW H)} {p:List MemPlace} (hA:DataW.TrodAll enc P w 0 (λ_=>true) true ts args ds p) {b0:Nat} (bd:∀ (j:Nat) t v,ts[j]?=some t->args[j]?=some v->Value.okWide P w .any b0 t v) (ht:xA P w λ_ _=>0) :
  Calls P f args.toArray w λe W'=>e=.returned (.bool true)/\RowKit.Below w.heap.size w W':=by
 obtain ⟨v,hov,hv⟩:=SH ps ts args ds p hl hA bd;obtain ⟨u,hu⟩:=Um v hov;refine (hs w (O6 w) (λ_ _=>0) v args hv (λ_ _=>aW _) (λb i h=>by omega) (λb i h=>?_) ht _ hu).mono λe W' h=>?_
 ·rcases h with h | h
  ·omega
  ·exact h
 ·obtain ⟨rv,rfl,f_,A',G,GR,GM,_,_,_,_,_,_,_,vT,_⟩:=h;obtain ⟨cs,h1,h2⟩:=vT;simp only[lM] at h1 h2;have h2:cs=[.bool true]:=h2;subst h2;exact ⟨by rw[h1];rfl,f_.os,f_.tape,f_.output,f_.size,λb hb=>f_.obj b hb λ_=>rfl⟩
theorem YB {C:Checked} {f:Func} {s:ChangeSpec} {W W':World} {args:Array Value} {ds:List (DataW H)} {p:List MemPlace} {apart fresh handsOn:Bool} (xl:laidOutB P=true) {ps:List (PM×Ty)} {ts:List TypeId} (hts:f.params.toList=ts) (hl:C9 P ps ts=true) {tb:TypeId} (hr:f.resultTypes=#[tb]) (hu:P.underlying tb=some .bool)
  (acY:s.vars=[]) (hW:DataW.Whole enc P f.params.toList s.vars apart W args.toList ds [] p) (hA:DataW.TrodAll enc P W 0 (λ_=>true) true ts args.toList ds p) (hfn:s.fn H (ds++[])={ results:=[.lit (.bool true)],args:=ds }) (hb:RowKit.Below W.heap.size W W') :
  s.post enc P f apart fresh handsOn false W args (.bool true) W':=by
 have a8:∀ x ∈ p,x.block < W.heap.size:=λx hx=>by simpa using hW.lt x hx
 refine ⟨ds,[],p,[],p,[],hW,?_,?_,?_,World.keptBut_mono (λx hx=>⟨hx,.inr (.inl hx)⟩) (hb.frame (· ∈ p)),λe=>by cases e⟩
 ·rw[hfn,hr];exact ⟨[],[],RowKit.shut_bool hu true,rfl,rfl⟩
 ·grind [MJ]
 ·rw[hfn,acY];rfl
end
end OT
namespace OT
open Go
def Un (P:Program) (l:List (Nat×Ty)):Bool:=l.all λp=>bn P p.2 (.inl p.1)
def NO (P:Program) (l:List (Nat×Ty)):Bool:=l.all λp=>!(p.2.oZ&&isAgg p.2)||(sT P p.2 (.inl p.1)&&(P.eqGuardType P.depth p.1 == false)&&Nat.ble (dep p.2) 10000)
theorem Jc {α:Type}:∀ {l:List (Nat×α)} {i:Nat} {x:α},oD l i=some x->(i,x) ∈ l
 | (k,y)::l,i,x,h=>by
  simp only[oD] at h;split at h
  ·simp_all
  ·exact bD _ (Jc h)
def GB (P:Program) (l:List (Nat×vV)):Prop:=∀ f g,oD l f=some g->Sound P f g/\wH P f g.cap
theorem ai (P:Program):GB P []:=λf g h=>by cases h
theorem aaX {P:Program} {f:Nat} {g:vV} {l:List (Nat×vV)} (h1:Sound P f g) (h2:wH P f g.cap) (h3:GB P l):GB P ((f,g)::l):=λf' g' h=>by
 simp only[oD] at h;split at h
 ·simp_all
 ·exact h3 f' g' h
theorem ab9 {P:Program} {E:Env} {tl:List (Nat×Ty)} {gl:List (Nat×vV)} (h1:E.TI=oD tl) (h2:E.G=oD gl) (h3:Un P tl=true) (h4:NO P tl=true) (h5:GB P gl):ul P E where
 ti i T h:=by rw[h1] at h;exact bG.1 h3 _ (Jc h)
 eq i T h hq ha:=by
  rw[h1] at h;have:=bG.1 h4 _ (Jc h);simp_all
 fn f g h:=by rw[h2] at h;exact h5 f g h
def Ok (P:Program) (f:FuncId) (g:vV):Prop:=Sound P f g/\wH P f g.cap
theorem fc {P:Program} {f:Nat} {g:vV} {l:List (Nat×vV)} (h:Ok P f g) (h3:GB P l):GB P ((f,g)::l):=aaX h.1 h.2 h3
def O7 (fn:Func) (cap:Bool):Bool:=!(fn.name == "runtime.NumGoroutine")&&!fn.body.isNone&&Nat.beq fn.nfree (match cap with | true=>1 | false=>0)
noncomputable def okB (P:Program) (E:Env) (fn:Func) (ps:PQ) (rs:RQ) (es:List Nat) (cap:Bool) (tl:TL):Bool:=(Un P tl&&NO P tl)&&(O7 fn cap&&NN P E fn ps rs es)
theorem acZ {P:Program} {E:Env} {f:FuncId} {fn:Func} (hf:P.funcs[f]?=some fn) {g:vV} (hh:∀ v H,g.FK v H=true->H=[]) {es fr:List Nat} {tl:TL} {gl:GL} (h1:E.TI=oD tl) (h2:E.G=oD gl) (bd:okB P E fn g.ps g.rs es g.cap tl=true) (hg:GB P gl) (hF:∀ v,g.F v=lift λk=>NG E k fn g.ps g.rs es fr v):Ok P f g:=by
 simp only[okB,O7,aD,cC,eI] at bd;obtain ⟨⟨a1,a2⟩,⟨⟨b1,b2⟩,b3⟩,c⟩:=bd
 have hb:fn.body.isSome=true:=by
  simp_all
 exact ⟨Nt (ab9 h1 h2 a1 a2 hg) hf hb hh c λv out h=>VP (by rw[<-hF];exact h),fn,hf,b1,b2,b3⟩
structure FD where
 fn:Func
 tl:TL
 ps:PQ
 rs:RQ
 gl:GL:=[]
 es:List Nat:=[]
 fr:List Nat:=[]
 cap:Bool:=false
 fz:List (Nat×Nat×Nat):=[]
 lv:List (Nat×List Nat):=[]
 lx:List (Nat×List Nat):=[]
 lf:List (Nat×List (Nat×Md)):=[]
 od:List (Nat×List Nat):=[]
 ar:List (Nat×List Nat):=[]
 bx:List (Nat×List Nat):=[]
 pd:List (Nat×List Nat):=[]
 er:List (Nat×List (Nat×Nat)):=[]
noncomputable def FD.E (D:FD):Env:={ TI:=oD D.tl,G:=oD D.gl,fz:=D.fz,lv:=D.lv,lx:=D.lx,lf:=D.lf,od:=D.od,ar:=D.ar,bx:=D.bx,pd:=D.pd,er:=D.er }
noncomputable def FD.W (D:FD) (k:Nat) (a:(b_ (D.ps.map (·.2))).den):Option (b_ (D.rs.map (·.1)++lL D.ps)).den:=NG D.E k D.fn D.ps D.rs D.es D.fr a
noncomputable def FD.F (D:FD) (a:(b_ (D.ps.map (·.2))).den):Option (b_ (D.rs.map (·.1)++lL D.ps)).den:=lift λk=>D.W k a
noncomputable def FD.sig (D:FD):vV:={ cap:=D.cap,ps:=D.ps,rs:=D.rs,F:=D.F }
noncomputable def FD.fin (D:FD):St->Option (b_ (D.rs.map (·.1)++lL D.ps)).den:=Oc D.ps D.rs D.es D.fn.results.toList (ZT D.fr)
noncomputable def FD.K0 (D:FD):KT (b_ (D.rs.map (·.1)++lL D.ps)).den:=abB D.fin
noncomputable def FD.N (D:FD) (k:Nat) (p:List Nat):St->KT (b_ (D.rs.map (·.1)++lL D.ps)).den->Option (b_ (D.rs.map (·.1)++lL D.ps)).den:=vX D.E k D.fin (sub p (Ga D.fn))
noncomputable def FD.L (D:FD) (k:Nat) (p live:List Nat) (CR:List (Nat×Md)) (K:KT (b_ (D.rs.map (·.1)++lL D.ps)).den) (σ:St):Option (b_ (D.rs.map (·.1)++lL D.ps)).den:=HL (D.N k p) (fm live CR) K k σ
theorem al {P:Program} {D:FD} {f:FuncId} (hf:P.funcs[f]?=some D.fn) (ht:(Un P D.tl&&NO P D.tl)=true) (bd:(O7 D.fn D.cap&&NN P D.E D.fn D.ps D.rs D.es)=true) (hg:GB P D.gl):Ok P f D.sig:=
 acZ (hh:=λ_ _ h=>bC.1 h) (es:=D.es) (fr:=D.fr) (tl:=D.tl) (gl:=D.gl) (E:=D.E) hf rfl rfl (by rw[okB,ht,dT];exact bd) hg λ_=>rfl
end OT
namespace OT
open Go
theorem be {n:Int} (h:-9223372036854775808<=n/\n<=9223372036854775807):af n=n:=by
 grind [af,IntKind.wrap_i64]
theorem an:maxLen=9223372036854775807:=by simp[maxLen]
theorem tq {V R:Type} {B:(V->Option R)->V->Option R} (f:V->R) (I:V->Prop) (μ:V->Nat)
  (h:∀ v,I v->∀ self,B self v=some (f v)\/∃ v',B self v=self v'/\f v'=f v/\I v'/\μ v' < μ v):∀ (k:Nat) (v:V),I v->μ v < k->am B k v=some (f v)
 | 0,v,_,hk=>by omega
 | k+1,v,hI,hk=>by
  show B (am B k) v=some (f v)
  rcases h v hI (am B k) with h1 | ⟨v',h1,h2,h3,h4⟩
  ·exact h1
  ·rw[h1,tq f I μ h k v' h3 Bys,h2]
def Ck {α:Type} (e:α->α->Bool) (xs ys:List α):Bool:=(xs.zip ys).all λp=>e p.1 p.2
theorem WI {α:Type} (e:α->α->Bool) (xs ys:List α) (i:Nat) (hx:i < xs.length) (hy:i < ys.length):Ck e (xs.drop i) (ys.drop i)=(e xs[i] ys[i]&&Ck e (xs.drop (i+1)) (ys.drop (i+1))):=by
 grind [Ck,List.drop_eq_getElem_cons,List.zip_cons_cons]
theorem Jd {α:Type} {B:(Int->Option (Bool×Unit))->Int->Option (Bool×Unit)} {xs ys:List α} (e:α->α->Bool) (hlen:xs.length=ys.length) (Dy:xs.length<=maxLen)
  (gw:∀ (i:Nat) (hx:i < xs.length) (hy:i < ys.length) self,B self (i:Int)=if e xs[i] ys[i]=true then self (af ((i:Int)+1)) else some (false,()))
  (pL:∀ self,B self (xs.length:Int)=some (true,())):∀ k,xs.length < k->am B k 0=some (Ck e xs ys,()):=by
 intro k hk
 have h:=tq (B:=B) (λv=>(Ck e (xs.drop v.toNat) (ys.drop v.toNat),())) (λv=>0<=v/\v<=(xs.length:Int)) (λv=>xs.length - v.toNat) (λv hv self=>by
  obtain ⟨h0,h1⟩:=hv;obtain ⟨i,rfl⟩:=dB h0;simp only[aC];by_cases hi:i < xs.length
  ·have hy:i < ys.length:=by omega
   rw[WI e xs ys i hi hy,gw i hi hy];cases he:e xs[i] ys[i] <;> grind [be,an]
  ·have sR:i=xs.length:=by omega
   simp_all [Ck]) k 0 ⟨by omega,by omega⟩ (by simpa using hk)
 simpa using h
theorem WJ {α:Type} {B:((List α×Int)->Option (List α×Unit))->(List α×Int)->Option (List α×Unit)} {xs:List α} (Dy:xs.length<=maxLen)
  (gw:∀ (i:Nat) (hx:i < xs.length) (acc:List α) self,acc.length=xs.length->B self (acc,(i:Int))=self (acc.set i xs[i],af ((i:Int)+1)))
  (pL:∀ acc self,B self (acc,(xs.length:Int))=some (acc,())) (z:α):∀ k,xs.length < k->am B k (List.replicate xs.length z,0)=some (xs,()):=by
 intro k hk;refine tq (B:=B) (λ_=>(xs,())) (λv=>0<=v.2/\v.2<=(xs.length:Int)/\v.1.length=xs.length/\∀ j,j < v.2.toNat->v.1[j]?=xs[j]?) (λv=>xs.length - v.2.toNat) (λv hv self=>?_) k _ ⟨by simp,by simp,by simp,by simp⟩ (by simpa using hk);obtain ⟨acc,i⟩:=v;obtain ⟨h0,h1,h2,h3⟩:=hv;simp only at h0 h1 h2 h3;obtain ⟨i,rfl⟩:=dB h0;simp only[aC] at h3 ⊢;by_cases hi:i < xs.length
 ·right;have hw:af ((i:Int)+1)=((i+1:Nat):Int):=by grind [be,an]
  refine ⟨(acc.set i xs[i],((i+1:Nat):Int)),by grind,trivial,⟨by omega,by grind,by simpa using h2,λj hj=>?_⟩,?_⟩
  all_goals grind
 ·have sR:i=xs.length:=by omega
  subst sR;left;rw[pL]
  have:acc=xs:=eB λj=>by
   grind
  rw[this]
end OT
namespace OT
open Go
theorem Cl {V R:Type} (B:(V->Option R)->V->Option R) (k:Nat) (v:V):am B (k+1) v=B (am B k) v:=rfl
def lT {α:Type} (f:α->Nat):List α->Nat
 | []=>0
 | x::xs=>f x+lT f xs
theorem O8 {α:Type} (f:α->Nat):∀ (xs:List α) (x:α),x ∈ xs->f x<=lT f xs
 | y::xs,x,h=>by
  simp only[lT];rcases aY.1 h with rfl | h
  ·omega
  ·have:=O8 f xs x h;omega
 | [],_,h=>by cases h
theorem Ir {α:Type} (f:α->Nat):∀ (xs ys:List α),lT f (xs++ys)=lT f xs+lT f ys
 | [],ys=>by simp[lT]
 | x::xs,ys=>by simp only[dA,lT,Ir f xs ys];omega
theorem As {α:Type} (f:α->Nat) (h:∀ x,f x=0):∀ (xs:List α),lT f xs=0
 | []=>rfl
 | x::xs=>by simp[lT,h x,As f h xs]
theorem SI {α:Type} (f:α->Nat):∀ (xs:List α),lT (λx=>32*(f x+1)) xs=32*(xs.length+lT f xs)
 | []=>rfl
 | x::xs=>by simp only[lT,SI f xs,bE];omega
def zz:(t:Ty)->t.den->Nat
 | .str,v=>List.length v
 | .pair a b,v=>zz a v.1+zz b v.2
 | .aa e,v=>List.length v+lT (zz e) v
 | _,_=>0
theorem GC {e:Ty} {xs:List e.den} {x:e.den} (h:x ∈ xs):zz e x+1<=zz (.aa e) xs:=by
 have:=O8 (zz e) xs x h;have:1<=xs.length:=List.length_pos_of_mem h;show _<=List.length xs+_;omega
theorem yG {e:Ty} (xs:List e.den):xs.length<=zz (.aa e) xs:=fY _ _
theorem SJ {e:Ty} (x:e.den) (xs:List e.den):zz (.aa e) (x::xs)=zz e x+1+zz (.aa e) xs:=by
 grind [zz,lT]
theorem wo {e:Ty} (xs ys:List e.den):zz (.aa e) (xs++ys)=zz (.aa e) xs+zz (.aa e) ys:=by
 grind [zz,Ir]
def mV (n:Int) (z:Nat):Int:=if (z:Int)<=n then n - z else -1
theorem aaY {α:Type} {B:((Int×Int)->Option (Int×Unit))->(Int×Int)->Option (Int×Unit)} {xs:List α} (Dy:xs.length<=maxLen) (z:α->Nat)
  (gw:∀ (i:Nat) (hx:i < xs.length) (n:Int) self,0<=n->n<=1048576->B self (n,(i:Int))=if mV n (z xs[i]) < 0 then some (-1,()) else self (mV n (z xs[i]),af ((i:Int)+1)))
  (pL:∀ n self,B self (n,(xs.length:Int))=some (n,())) (n:Int) (h0:0<=n) (h1:n<=1048576) :
  ∀ k,xs.length < k->am B k (n,0)=some (mV n (lT z xs),()):=by
 have main:∀ (m i:Nat) (n:Int),xs.length - i=m->i<=xs.length->0<=n->n<=1048576->∀ k,m < k->am B k (n,(i:Int))=some (mV n (lT z (xs.drop i)),()):=by
  intro m
  induction m with
  | zero=>
   intro i n hm hi h0 h1 k hk;have sR:i=xs.length:=by omega
   subst sR;cases k <;> grind [am,mV,lT]
  | succ m ih=>
   intro i n hm hi h0 h1 k hk;have a8:i < xs.length:=by omega
   rw[cE a8];simp only[lT]
   cases k with
   | zero=>omega
   | succ k=>
    show B (am B k) _=_;rw[gw i a8 n _ h0 h1];by_cases hz:(z xs[i]:Int)<=n
    ·have e:mV n (z xs[i])=n - (z xs[i]:Int):=aM hz;have ad3:¬ (n - (z xs[i]:Int) < 0):=by omega
     have hw:af ((i:Int)+1)=((i+1:Nat):Int):=by grind [be,an]
     rw[e,aV ad3,hw,ih (i+1) _ Bys Bys Bys Bys k Bys];grind [mV]
    grind [mV]
 intro k hk
 simpa using main xs.length 0 n Bys Bys h0 h1 k hk
theorem aaZ {n:Int} {a b:Nat} (h:(a:Int)<=n):mV (n - a) b=mV n (a+b):=by
 grind [mV]
theorem yH {α:Type} (xs:List α) (i:Nat) (a:α) (h:i < xs.length):(xs.set i a)[i]?=some a:=by simp[h]
def mW:Int:=4611686018427387904
def chain {α:Type} (E:α->Int->α->Int->Prop) (W:α->Nat):List α->Int->List α->Int->Prop
 | [],k,ys,k'=>ys=[]/\k'=k
 | x::xs,k,ys,k'=>∃ y MK k1,ys=y::MK/\0<=k/\k+W x<=mW/\k<=k1/\k1<=k+W x/\E x k y k1/\chain E W xs k1 MK k'
theorem WK {α:Type} {B:((List α×Int×Int)->Option (Int×List α×Unit))->(List α×Int×Int)->Option (Int×List α×Unit)} {xs:List α} (Dy:xs.length<=maxLen) (E:α->Int->α->Int->Prop) (W:α->Nat)
  (hE:∀ x ∈ xs,∀ k:Int,0<=k->k+W x<=mW->∃ y k',k<=k'/\k'<=k+W x/\E x k y k')
  (gw:∀ (i:Nat) (acc:List α) (k:Int) self (x y:α) (k':Int),i < acc.length->acc[i]?=some x->0<=k->k+W x<=mW->k<=k'->k'<=k+W x->E x k y k'->B self (acc,k,(i:Int))=self (acc.set i y,k',af ((i:Int)+1)))
  (pL:∀ (acc:List α) (k:Int) self,B self (acc,k,(acc.length:Int))=some (k,acc,())) (k:Int) (h0:0<=k) (h1:k+lT W xs<=mW) :
  ∃ ys k',k<=k'/\k'<=k+lT W xs/\ys.length=xs.length/\chain E W xs k ys k'/\∀ f,xs.length < f->am B f (xs,k,0)=some (k',ys,()):=by
 have main:∀ (rest pre:List α) (k:Int),(pre++rest).length<=maxLen->(∀ x ∈ rest,x ∈ xs)->0<=k->k+lT W rest<=mW ->
   ∃ ys k',k<=k'/\k'<=k+lT W rest/\ys.length=rest.length/\chain E W rest k ys k'/\∀ f,rest.length < f->am B f (pre++rest,k,(pre.length:Int))=some (k',pre++ys,()):=by
  intro rest
  induction rest with
  | nil=>
   intro pre k hm _ h0 h1;refine ⟨[],k,gB _,by simp[lT],rfl,⟨rfl,rfl⟩,λf hf=>?_⟩
   cases f with
   | zero=>simp at hf
   | succ f=>
    simp only[cY];exact pL pre k _
  | cons x rest ih=>
   intro pre k hm hx h0 h1;simp only[lT] at h1;obtain ⟨y,k1,g1,g2,g3⟩:=hE x (hx x bV) k h0 Bys;obtain ⟨ys,k',i1,i2,i3,i4,i5⟩:=ih (pre++[y]) k1 (by simpa using hm) (λz hz=>hx z (bD _ hz)) Bys Bys;refine ⟨y::ys,k',by omega,by grind [lT],by simp[i3],⟨y,ys,k1,rfl,h0,by omega,g1,g2,g3,i4⟩,λf hf=>?_⟩
   cases f with
   | zero=>omega
   | succ f=>
    show B (am B f) _=_;have hlen:pre.length < (pre++x::rest).length:=by simp
    rw[gw pre.length (pre++x::rest) k _ x y k1 hlen (by simp) h0 Bys g1 g2 g3];grind [an,be]
 obtain ⟨ys,k',i1,i2,i3,i4,i5⟩:=main xs [] k (by simpa using Dy) (λx h=>h) h0 h1;grind
theorem WL {α:Type} {ys:List α} {B:((Int×Int)->Option (Int×Unit))->(Int×Int)->Option (Int×Unit)} {xs:List α} {k k':Int} (Dy:ys.length<=maxLen) {E:α->Int->α->Int->Prop} {W:α->Nat} (hc:chain E W xs k ys k')
  (gw:∀ (i:Nat) (k:Int) self (x y:α) (k':Int),i < ys.length->ys[i]?=some y->0<=k->k+W x<=mW->k<=k'->k'<=k+W x->E x k y k'->B self (k,(i:Int))=self (k',af ((i:Int)+1)))
  (pL:∀ (k:Int) self,B self (k,(ys.length:Int))=some (k,())):∀ f,ys.length < f->am B f (k,0)=some (k',()):=by
 have main:∀ (xs MK pre:List α) (k:Int),pre++MK=ys->chain E W xs k MK k'->∀ f,MK.length < f->am B f (k,(pre.length:Int))=some (k',()):=by
  intro xs
  induction xs with
  | nil=>
   intro MK pre k hp hc f hf;obtain ⟨rfl,rfl⟩:=hc;cases f <;> grind [am]
  | cons x xs ih=>
   intro MK pre k hp hc f hf;obtain ⟨y,ys2,k1,rfl,c1,c2,c3,c4,c5,c6⟩:=hc
   cases f with
   | zero=>omega
   | succ f=>
    show B (am B f) _=_;have hl:pre.length < ys.length:=by grind
    rw[gw pre.length k _ x y k1 hl (by grind) c1 c2 c3 c4 c5]
    have hw:af ((pre.length:Int)+1)=(((pre++[y]).length:Nat):Int):=by
     grind [an,be]
    grind
 intro f hf
 simpa using main xs ys [] k rfl hc f hf
end OT
namespace OT
open Go
theorem SK {e:Ty} {W:List e.den->Nat->Option (List e.den×Unit)} {z:e.den} {f:e.den->Option (e.den×Unit)}
  (hW:∀ x k,W x k=if 0<=(x.length:Int)/\(x.length:Int)<=(x.length:Int)/\(x.length:Int)<=(ct:Int) then (am (λ(self:(List e.den×Int)->Option (List e.den×Unit)) v=>bif decide (v.2 < (x.length:Int)) then (if 0<=v.2 then ((x[v.2.toNat]?).bind λa=>(f a).bind λr=>if 0<=v.2/\v.2 < (v.1.length:Int) then ((v.1[v.2.toNat]?).bind λ_=>self (v.1.set v.2.toNat r.1,af (v.2+(1:Int)))) else none) else none) else some (v.1,())) k (List.replicate (x.length:Int).toNat z,(0:Int))) else none)
  (hf:∀ a,zz e a<=1048576->f a=some (a,())) (x:List e.den) (h:zz (.aa e) x<=1048576):lift (W x)=some (x,()):=by
 have hl:x.length<=1048576:=bH (yG (e:=e) x) h;refine ag (k:=x.length+1) λk hk=>(hW x k).trans ?_;have hc:0<=(x.length:Int)/\(x.length:Int)<=(x.length:Int)/\(x.length:Int)<=(ct:Int):=by grind [ct]
 simp only[hc,bS,aH,aC];refine WJ (xs:=x) (by rw[an];omega) (λi hi acc self ha=>?_) (λacc self=>?_) _ k Bys
 ·have a8:(i:Int) < (x.length:Int):=by omega
  have O9:(i:Int) < (acc.length:Int):=by omega
  simp only[a8,O9,aJ,aO,aK,bS,aH,aC,aB hi,aB (show i < acc.length by omega),aA,hf x[i] (by have:=GC (e:=e) (aN hi);omega)]
 ·simp
theorem SL {e:Ty} {W:List e.den->Nat->Option (Bool×Unit)} {f:e.den->e.den->Option (Bool×Unit)}
  (hW:∀ x k,W x k=bif !decide ((x.length:Int)=(x.length:Int)) then some (false,()) else am (λ(self:Int->Option (Bool×Unit)) v=>bif decide (v < (x.length:Int)) then (if 0<=v then ((x[v.toNat]?).bind λa=>if 0<=v then ((x[v.toNat]?).bind λb=>(f a b).bind λr=>bif !r.1 then some (false,()) else self (af (v+(1:Int)))) else none) else none) else some (true,())) k (0:Int))
  (hf:∀ a,zz e a<=4611686018427387904->f a a=some (true,())) (x:List e.den) (h:zz (.aa e) x<=4611686018427387904):lift (W x)=some (true,()):=by
 have hl:x.length<=4611686018427387904:=bH (yG (e:=e) x) h;refine ag (k:=x.length+1) λk hk=>(hW x k).trans ?_;simp only[aJ,aR,aE];have:=λB h1 h2=>Jd (B:=B) (xs:=x) (ys:=x) (λ_ _=>true) rfl (by rw[an];omega) h1 h2 k Bys;rw[show Ck (λ_ _=>true) x x=true by simp[Ck]] at this;refine this _ (λi hi hj self=>?_) (λself=>?_)
 ·have a8:(i:Int) < (x.length:Int):=by omega
  simp only[a8,aJ,aO,aK,aH,aC,aB hi,aA,aR,aE,hf x[i] (by have:=GC (e:=e) (aN hi);omega)]
 ·simp
theorem szG {e:Ty} {W:List e.den->Int->Nat->Option (Int×Unit)} {f:e.den->Int->Option (Int×Unit)}
  (hW:∀ x n k,W x n k=bif decide (af (n - (x.length:Int)) < (0:Int)) then some ((-1:Int),()) else am (λ(self:Int×Int->Option (Int×Unit)) v=>bif decide (v.2 < (x.length:Int)) then (if 0<=v.2 then ((x[v.2.toNat]?).bind λa=>(f a v.1).bind λr=>bif decide (r.1 < (0:Int)) then some ((-1:Int),()) else self (r.1,af (v.2+(1:Int)))) else none) else some (v.1,())) k (af (n - (x.length:Int)),(0:Int)))
  (hf:∀ a n,ui e a->0<=n->n<=1048576->f a n=some (mV n (zz e a),())) (x:List e.den) (n:Int) (hx:ui (.aa e) x) (h0:0<=n) (h1:n<=1048576):lift (W x n)=some (mV n (zz (.aa e) x),()):=by
 obtain ⟨hl,sC⟩:=hx;have xZ:=hl;rw[an] at xZ;have hw:af (n - (List.length x:Int))=n - (List.length x:Int):=be Bys;have hz:zz (.aa e) x=List.length x+lT (zz e) x:=rfl;by_cases hc:n - (List.length x:Int) < 0
 ·rw[show mV n (zz (.aa e) x)=-1 from aV Bys];refine ag (k:=0) λk _=>(hW x n k).trans ?_;grind
 ·rw[show mV n (zz (.aa e) x)=mV (n - (List.length x:Int)) (lT (zz e) x) by grind [aaZ]];refine ag (k:=List.length x+1) λk hk=>(hW x n k).trans ?_;simp only[hw,hc,aG,aE];refine aaY (xs:=x) hl (zz e) (λi hi m self hm0 DS=>?_) (λm self=>?_) _ Bys Bys k Bys
  all_goals grind
theorem YC {e:Ty} {W:List e.den->Int->Nat->Option (Int×Unit)} (hz:∀ a:e.den,zz e a=0)
  (hW:∀ x n k,W x n k=bif decide (af (n - (x.length:Int)) < (0:Int)) then some ((-1:Int),()) else some (af (n - (x.length:Int)),())) (x:List e.den) (n:Int) (hx:ui (.aa e) x) (h0:0<=n) (h1:n<=1048576):lift (W x n)=some (mV n (zz (.aa e) x),()):=by
 obtain ⟨hl,sC⟩:=hx;have xZ:=hl;rw[an] at xZ;have hw:af (n - (List.length x:Int))=n - (List.length x:Int):=be Bys;have hz:zz (.aa e) x=List.length x:=by show List.length x+lT _ _=_;grind [As]
 refine ag (k:=0) λk _=>(hW x n k).trans ?_;grind [mV]
theorem mkC {α:Type} (z:α->Nat) {W:List α->Int->Nat->Option (Int×List α×Unit)} (E:α->Int->α->Int->Prop) {S:(List α×Int×Int->Option (Int×List α×Unit))->List α×Int×Int->Option (Int×List α×Unit)}
  (hW:∀ x k f,W x k f=am (λself v=>bif decide (v.2.2 < (v.1.length:Int)) then S self v else some (v.2.1,v.1,())) f (x,k,(0:Int)))
  (hE:∀ (x:α) (k:Int),0<=k->k+32*(((z x:Nat):Int)+1)<=mW->∃ y k',k<=k'/\k'<=k+32*(((z x:Nat):Int)+1)/\E x k y k')
  (gw:∀ (i:Nat) (acc:List α) (k:Int) self (x y:α) (k':Int),i < acc.length->acc[i]?=some x->0<=k->k+32*(((z x:Nat):Int)+1)<=mW->k<=k'->k'<=k+32*(((z x:Nat):Int)+1)->E x k y k'->(i:Int) < (acc.length:Int)->S self (acc,k,(i:Int))=self (acc.set i y,k',af ((i:Int)+1)))
  (x:List α) (k:Int) (h0:0<=k) (h1:k+32*((x.length+lT z x:Nat):Int)<=mW):∃ (k':Int) (y:List α),lift (W x k)=some (k',y,())/\y.length<=4611686018427387904/\chain E (λx=>32*(z x+1)) x k y k'/\k<=k'/\k'<=k+32*((x.length+lT z x:Nat):Int):=by
 have hB:mW=4611686018427387904:=rfl;have hs:lT (λx:α=>32*(z x+1)) x=32*(x.length+lT z x):=SI z x
 obtain ⟨ys,k',g1,g2,g3,g4,g5⟩:=WK (B:=λself v=>bif decide (v.2.2 < (v.1.length:Int)) then S self v else some (v.2.1,v.1,())) (xs:=x) (by rw[an];omega) E (λx:α=>32*(z x+1)) (λx hx k h0 h1=>by
   grind) (λi acc k self x y k' hi hx h0 h1 h2 h3 hE=>by
   grind) (λacc k self=>by simp) k h0 (by rw[hs];omega)
 exact ⟨k',ys,ag (k:=x.length+1) λf hf=>(hW x k f).trans (g5 f Bys),by omega,g4,g1,by grind⟩
theorem SM {α:Type} (z:α->Nat) {W:List α->Int->Nat->Option (Int×List α×Unit)} (E:α->Int->α->Int->Prop) {S:(List α×Int×Int->Option (Int×List α×Unit))->List α×Int×Int->Option (Int×List α×Unit)}
  (hW:∀ x k f,W x k f=am (λself v=>bif decide (v.2.2 < (v.1.length:Int)) then S self v else some (v.2.1,v.1,())) f (x,k,(0:Int)))
  (hE:∀ (x:α) (k:Int),0<=k->k+32*(((z x:Nat):Int)+1)<=mW->∃ y k',k<=k'/\k'<=k+32*(((z x:Nat):Int)+1)/\E x k y k')
  (gw:∀ (i:Nat) (acc:List α) (k:Int) self (x y:α) (k':Int),i < acc.length->acc[i]?=some x->0<=k->k+32*(((z x:Nat):Int)+1)<=mW->k<=k'->k'<=k+32*(((z x:Nat):Int)+1)->E x k y k'->(i:Int) < (acc.length:Int)->S self (acc,k,(i:Int))=self (acc.set i y,k',af ((i:Int)+1)))
  (x:List α) (k:Int) (h0:0<=k) (h1:k+32*((x.length+lT z x:Nat):Int)<=mW):∃ (k':Int) (y:List α),lift (W x k)=some (k',y,())/\k<=k'/\k'<=k+32*((x.length+lT z x:Nat):Int):=by
 obtain ⟨k',y,a,b,c,d⟩:=mkC z E hW hE gw x k h0 h1;grind
theorem SN {α:Type} (z:α->Nat) {W:List α->Int->Nat->Option (Int×List α×Unit)} {W2:List α->Int->Nat->Option (Int×Unit)} (E:α->Int->α->Int->Prop) {S:(List α×Int×Int->Option (Int×List α×Unit))->List α×Int×Int->Option (Int×List α×Unit)} {S2:List α->Int->(Int×Int->Option (Int×Unit))->Int×Int->Option (Int×Unit)}
  (hW:∀ x k f,W x k f=am (λself v=>bif decide (v.2.2 < (v.1.length:Int)) then S self v else some (v.2.1,v.1,())) f (x,k,(0:Int)))
  (hW2:∀ y k f,W2 y k f=am (λself v=>bif decide (v.2 < (y.length:Int)) then S2 y k self v else some (v.1,())) f (k,(0:Int)))
  (hE:∀ (x:α) (k:Int),0<=k->k+32*(((z x:Nat):Int)+1)<=mW->∃ y k',k<=k'/\k'<=k+32*(((z x:Nat):Int)+1)/\E x k y k')
  (gw:∀ (i:Nat) (acc:List α) (k:Int) self (x y:α) (k':Int),i < acc.length->acc[i]?=some x->0<=k->k+32*(((z x:Nat):Int)+1)<=mW->k<=k'->k'<=k+32*(((z x:Nat):Int)+1)->E x k y k'->(i:Int) < (acc.length:Int)->S self (acc,k,(i:Int))=self (acc.set i y,k',af ((i:Int)+1)))
  (TR:∀ (k0:Int) (i:Nat) (ys:List α) (k:Int) self (x y:α) (k':Int),i < ys.length->ys[i]?=some y->0<=k->k+32*(((z x:Nat):Int)+1)<=mW->k<=k'->k'<=k+32*(((z x:Nat):Int)+1)->E x k y k'->(i:Int) < (ys.length:Int)->S2 ys k0 self (k,(i:Int))=self (k',af ((i:Int)+1)))
  (x:List α) (k:Int) (h0:0<=k) (h1:k+32*((x.length+lT z x:Nat):Int)<=mW):∃ (k':Int) (y:List α),lift (W x k)=some (k',y,())/\lift (W2 y k)=some (k',())/\k<=k'/\k'<=k+32*((x.length+lT z x:Nat):Int):=by
 obtain ⟨k',y,a,b,c,d⟩:=mkC z E hW hE gw x k h0 h1;refine ⟨k',y,a,ag (k:=y.length+1) λf hf=>(hW2 y k f).trans ?_,d⟩
 exact WL (B:=λself v=>bif decide (v.2 < (y.length:Int)) then S2 y k self v else some (v.1,())) (by rw[an];omega) c (λi k self x y' k' hi hx h0 h1 h2 h3 hE=>by
   grind) (λk self=>by simp) f Bys
end OT
namespace OT
open Go
def ci {S O α:Type} (f:Nat->S->α->Sum O S) (fin:S->O):Nat->List α->S->O
 | _,[],s=>fin s
 | i,x::xs,s=>match f i s x with
  | .inl o=>o
  | .inr s'=>ci f fin (i+1) xs s'
theorem cz {V S O α:Type} {B:(V->Option O)->V->Option O} (xs:List α) (enc:S->Int->V) (f:Nat->S->α->Sum O S) (fin:S->O) (I:Nat->S->Prop) (Dy:xs.length<=maxLen)
  (gw:∀ (i:Nat) (hi:i < xs.length) (s:S) self,I i s->B self (enc s (i:Int))=match f i s xs[i] with | .inl o=>some o | .inr s'=>self (enc s' (af ((i:Int)+1))))
  (hI:∀ (i:Nat) (hi:i < xs.length) (s s':S),I i s->f i s xs[i]=.inr s'->I (i+1) s')
  (pL:∀ (s:S) self,I xs.length s->B self (enc s (xs.length:Int))=some (fin s)) (s:S) (h0:I 0 s):∀ k,xs.length < k->am B k (enc s 0)=some (ci f fin 0 xs s):=by
 have main:∀ (m i:Nat) (s:S),xs.length - i=m->i<=xs.length->I i s->∀ k,m < k->am B k (enc s (i:Int))=some (ci f fin i (xs.drop i) s):=by
  intro m
  induction m with
  | zero=>
   intro i s hm hi hs k hk;have sR:i=xs.length:=by omega
   subst sR;cases k <;> grind [am,ci]
  | succ m ih=>
   intro i s hm hi hs k hk;have a8:i < xs.length:=by omega
   cases k <;> grind [am,List.drop_eq_getElem_cons,ci,be,an]
 intro k hk
 simpa using main xs.length 0 s Bys Bys h0 k hk
theorem tr {O α:Type} (p:α->Bool) (bad:O) (fin:Unit->O):∀ (xs:List α) (i:Nat),ci (λ_ _ x=>if p x then .inr () else .inl bad) fin i xs ()=if xs.all p then fin () else bad
 | [],_=>rfl
 | x::xs,i=>by
  simp only[ci,eA];by_cases h:p x=true
  ·simp[h,tr p bad fin xs (i+1)]
  ·simp[h]
def nI {α:Type} (c:α->Int):List α->Int
 | []=>0
 | x::xs=>if c x=0 then nI c xs else c x
theorem Be {O α:Type} (c:α->Int) (bad:Int->O) (fin:Unit->O):∀ (xs:List α) (i:Nat),ci (λ_ _ x=>if c x=0 then .inr () else .inl (bad (c x))) fin i xs ()=if nI c xs=0 then fin () else bad (nI c xs)
 | [],_=>rfl
 | x::xs,i=>by
  simp only[ci,nI];by_cases h:c x=0
  ·simp[h,Be c bad fin xs (i+1)]
  ·simp[h]
theorem WM {R:Type} (a:Option R):both a a=a:=by simp[both]
theorem D2 {R α:Type} {v:List α} {a b r:Option R} (h1:v=[]->a=r) (h2:b=r):BH v a b=r:=by
 cases v <;> grind [BH,WM]
theorem dc {n:Nat} (h:n<=200000000000):n<=ct:=by grind [ct]
end OT
namespace OT
open Go
def yI:Ty->Bool
 | .int _ | .bool | .str | .unit=>true
 | .pair a b=>yI a&&yI b
 | _=>false
def rV:(t:Ty)->t.den->List Value
 | .int k,v=>[.int k (qK k v)]
 | .bool,v=>[.bool v]
 | .str,v=>[.string ⟨List.toArray v⟩]
 | .unit,_=>[]
 | .pair a b,v=>rV a v.1++rV b v.2
 | _,_=>[]
section
variable {P:Program} {w:World} {A:Cells}
theorem xq:∀ (t:Ty),yI t=true->∀ (v:t.den),Ro P w A t v (rV t v):=by
 intro t
 induction t <;> grind [yI,Ro.length,Ro,rV]
theorem ab_:∀ (t:Ty),yI t=true->∀ {v:t.den} {cs:List Value},Ro P w A t v cs->cs=rV t v:=by
 intro t
 induction t with
 | pair a b nz nr=>
  intro h v cs hr;simp only[yI,aD] at h;have h1:=nz h.1 hr.1;have h2:=nr h.2 hr.2;rw[<-cP a.sz cs,h1,h2];rfl
 | int k=>intro _ v cs h;exact h
 | bool=>intro _ v cs h;exact h
 | str=>intro _ v cs h;exact h
 | unit=>intro _ v cs h;exact h
 | _=>grind [yI]
theorem ML:∀ (t:Ty),yI t=true->t.flat=true:=by
 intro t
 induction t <;> grind [yI,Ty.flat]
end
theorem YD {w:World} {b i:Nat} {u:Value} {c:Array Value} {e:TypeId} {fr:Nat×Nat} (h:w.heap[b]?=some (.cells c e fr)) (hu:ce w b i=some u):c[i]?=some u:=by
 unfold ce at hu;simp only[h,World.cell?] at hu
 cases hc:c[i]? with
 | none=>grind
 | some v=>
  simp only[hc,Option.isSome_none,aF,aS,aA] at hu;rw[(Gb hu).1]
theorem Q9 {w:World} {b i:Nat} {u:Value} {c:Array Value} {e:TypeId} {fr:Nat×Nat} (h:w.heap[b]?=some (.cells c e fr)) (hg:c[i]?=some u) (hu:u.oneCell'=true):ce w b i=some u:=by
 grind [HM,World.cell?]
end OT
namespace OT
open Go Go.Sort
instance aev (e:Ty):Inhabited e.den:=⟨e.zero⟩
noncomputable def Bf (e:Ty) (cs:e.den×e.den×Unit->Option (Int×Unit)) (v:List e.den):Option (List e.den):=open Classical in
 if List.length v<=ct then (if h:∃ cf:e.den->e.den->Int,(∀ x y,cs (x,y,())=some (cf x y,()))/\SWO (Go.Proofs.ltOf cf) then some (pdq (Go.Proofs.ltOf h.choose) v.toArray 0 v.toArray.size (Lib.bitLen v.toArray.size) true true).toList else none) else none
theorem O_ {e:Ty} {cs:e.den×e.den×Unit->Option (Int×Unit)} {cf:e.den->e.den->Int} (h1:∀ x y,cs (x,y,())=some (cf x y,())) (h2:SWO (Go.Proofs.ltOf cf)) (v:List e.den) (hl:List.length v<=ct):Bf e cs v=some (pdq (Go.Proofs.ltOf cf) v.toArray 0 v.toArray.size (Lib.bitLen v.toArray.size) true true).toList:=by
 have hex:∃ cf:e.den->e.den->Int,(∀ x y,cs (x,y,())=some (cf x y,()))/\SWO (Go.Proofs.ltOf cf):=⟨cf,h1,h2⟩
 have he:hex.choose=cf:=by
  grind
 grind [Bf]
theorem Uo {e:Ty} {cs:e.den×e.den×Unit->Option (Int×Unit)} {v r:List e.den} (h:Bf e cs v=some r):∃ cf:e.den->e.den->Int,(∀ x y,cs (x,y,())=some (cf x y,()))/\SWO (Go.Proofs.ltOf cf)/\List.length v<=ct/\r=(pdq (Go.Proofs.ltOf cf) v.toArray 0 v.toArray.size (Lib.bitLen v.toArray.size) true true).toList:=by
 grind [O_,Bf]
theorem Pa {α:Type} [Inhabited α] {lt:α->α->Bool} (h:SWO lt) (v:List α):(pdq lt v.toArray 0 v.toArray.size (Lib.bitLen v.toArray.size) true true).toList.Perm v/\(pdq lt v.toArray 0 v.toArray.size (Lib.bitLen v.toArray.size) true true).toList.Pairwise λx y=>lt y x=false:=by
 have hs:=pdq_sorts lt h v.toArray 0 v.toArray.size (Lib.bitLen v.toArray.size) true true (aW _) (aI _) (Or.inl rfl);generalize pdq lt v.toArray 0 v.toArray.size (Lib.bitLen v.toArray.size) true true=p at hs ⊢;obtain ⟨⟨h1,h2,h3⟩,h4⟩:=hs;refine ⟨?_,?_⟩
 ·grind [Array.extract_size]
 ·rw[dD];intro i j hi hj sw;have AZ:j < p.size:=by simpa using hj
  have:=h4 i j (aW _) sw Bys;grind
section
variable {P:Program}
theorem YE {w w':World} (h:Ext w w' (λ_ _=>0)):∃ q os,w'=grow (w.drewN q) os:=by
 refine ⟨w'.drawn - w.drawn,w'.heap.extract w.heap.size w'.heap.size,?_⟩
 have hh:w'.heap=w.heap++w'.heap.extract w.heap.size w'.heap.size:=by
  apply Array.ext_getElem?;intro i;by_cases hi:i < w.heap.size
  ·rw[h.obj i hi λ_=>rfl,fF hi]
  grind
 have h1:=h.os;have h2:=h.tape;have h3:=h.output;have h4:=h.drawn
 cases w with
 | mk heap tape drawn os output=>
  cases w' <;> grind [grow,World.drewN,World.mk.injEq]
theorem YF {α:Type} [Inhabited α] {enc:α->List Value} {k b m:Nat} {dk:Array α} {os:Array Obj} {w:World} {F0:FP} (h:xA P w F0) (hb:1<=F0 b 0):xA P (Go.Proofs.sortWorldK enc k w b 0 m dk os) λ_ _=>0:=λe=>by
 obtain ⟨⟨w0,g,hw⟩,hs,hf⟩:=h e;grind [Go.Proofs.sortWorldK,grow,Go.Sort.putRowK,Go.Sort.putRow,Go.Sort.mapBlock,Go.Sort.ahead]
theorem YG {e:Ty} (hs:yI e=true) (ha:isAgg e=true) {g:Nat} {cF:e.den×e.den×Unit->Option (Int×Unit)} (hg:Sound P g { ps:=[(.ro,e),(.ro,e)],rs:=[(.int .i64,ak (.int .i64))],F:=cF }) {cf:e.den->e.den->Int} (hc:∀ x y,cF (x,y,())=some (cf x y,())) (b size:Nat) (w:World) (ht:∀ m dk os,xA P (Go.Proofs.sortWorldK (rV e) e.sz w b 0 m dk os) λ_ _=>0):Go.Proofs.CmpLays P g #[] (rV e) e.sz cf b 0 size w:=by
 intro m os dk _ x y
 have mm:qd P (Go.Proofs.sortWorldK (rV e) e.sz w b 0 m dk os) (λ_ _=>False) OH [(.ro,e),(.ro,e)] (x,y,()) [.agg (rV e x).toArray,.agg (rV e y).toArray] (λ_ _=>0):=
  ⟨_,_,λ_ _=>0,λ_ _=>0,rfl,λ_ _=>aI _,⟨rV e x,by simp[dm,ha],xq e hs x⟩,_,_,λ_ _=>0,λ_ _=>0,rfl,λ_ _=>aI _,⟨rV e y,by simp[dm,ha],xq e hs y⟩,rfl⟩
 refine (hg _ (λ_ _=>False) (λ_ _=>0) (x,y,()) _ mm (λ_ _=>aW _) (λ_ _ h=>by omega) (λ_ _ h=>by grind) (ht _ _ _) (cf x y,()) (hc x y)).mono ?_;rintro ex w' ⟨rv,rfl,f_,A',G,GR,GM,_,_,_,_,_,_,_,vT,_⟩;obtain ⟨cs,h1,h2⟩:=vT;refine ⟨?_,YE f_⟩
 have h2:cs=[.int .i64 (cf x y)]:=h2;rw[h1,h2];rfl
theorem aa0 {ρ:Go.Shelf.Ren} (L:Go.Proofs.SlLaysF0.n6 P ρ) {e:Ty} (hs:yI e=true) (ha:isAgg e=true) (hl:bn P e (.inl (ρ.t 24))=true) (h1:1<=e.sz) {g:Nat} {cF:e.den×e.den×Unit->Option (Int×Unit)}
  (hg:Ok P g { ps:=[(.ro,e),(.ro,e)],rs:=[(.int .i64,ak (.int .i64))],F:=cF }) (he:wH P (ρ.f 6) false) :
  Ok P (ρ.f 6) { ps:=[(.lR (aj (.aa e)),.aa e),(.fix g,.fn)],rs:=[],F:=λv=>(Bf e cF v.1).map λr=>(r,()) }:=by
 refine ⟨?_,he⟩
 intro w A F0 v xs mm hle zx Je LM out pL;obtain ⟨vs,⟨fg,fv⟩,⟨⟩⟩:=v;obtain ⟨x,Sz,F1,F2,rfl,hF,⟨cs,rfl,ja⟩,x2,ad5,F3,F4,rfl,hF2,⟨⟨d9,rfl,hfn⟩,ad6⟩,Dr⟩:=mm;have Dr:ad5=[]:=Dr;subst Dr;have hfg:fg=g:=ad6 rfl;subst hfg;obtain ⟨AJ,rfl,fn,aeR,aeS⟩:=hfn
 have ac0:AJ=#[]:=by
  obtain ⟨fn',k1,_,_,k4⟩:=hg.2;grind
 subst ac0;have OP:dm .fn [.func (.func fg) #[] #[]]=.func (.func fg) #[] #[]:=rfl;have pL:(Bf e cF vs).map (λr=>(r,()))=some out:=pL
 cases aai:Bf e cF vs with
 | none=>grind
 | some r=>
 rw[aai] at pL;injection pL with pL;subst pL;obtain ⟨cf,hc,hO,pK,hr⟩:=Uo aai;have Up:=Pa hO vs;rw[<-hr] at Up;have Z3:=ja;simp only[au,hole,bP,aF,aS,aj,vS,Md.own,aH] at ja;obtain ⟨xa,cap,rfl,g2,g3,g4,g5⟩:=ja;have J1:dm (.aa e) [.slice xa (List.length vs) cap]=.slice xa (List.length vs) cap:=rfl;rw[OP,J1]
 have GD:∀ (w':World) (F1':FP),Ext w w' F0->(∀ b i,F1' b i<=F1 b i)->au P w' A (.aa e) (aj (.aa e)) [] r [.slice xa (List.length vs) cap] F1' ->
   ∃ rv,Ending.returned (.tuple #[])=.returned rv/\Ext w w' F0/\∃ (A':Cells) (G GR GM:FP),(∀ b i,A b i->A' b i)/\(∀ b i,A' b i->A b i\/1<=F0 b i\/w.heap.size<=b)/\(∀ b i,1<=G b i->1<=F0 b i\/w.heap.size<=b)/\(∀ b i,G b i<=1)/\(∀ b i,1<=G b i->¬ A' b i)/\(∀ b i,1<=G b i\/A' b i->b < w'.heap.size)/\(∀ b i,GR b i+GM b i<=G b i) /\
   oM P w' A' [] rv GR/\ph P w' A' [(.lR (aj (.aa e)),.aa e),(.fix fg,.fn)] (r,()) [.slice xa (List.length vs) cap,.func (.func fg) #[] #[]] GM:=λw' F1' f_ hF1 hrp=>
  ⟨_,rfl,f_,A,F0,λ_ _=>0,F0,λ_ _ h=>h,λ_ _ h=>.inl h,λ_ _ h=>.inl h,hle,zx,λb i h=>cO (Je b i h) f_.size,λb i=>by grind,trivial,F1',F2,λb i=>by grind,⟨_,rfl,hrp⟩,trivial⟩
 by_cases h0:List.length vs=0
 ·have hvs:vs=[]:=bR h0
  have hrn:r=[]:=by
   have:=Up.1.length_eq;grind
  rw[h0];refine (Go.Proofs.AnyF.slices_SortFunc_none L xa cap (.func (.func fg) #[] #[]) w).mono ?_;rintro ex w' ⟨rfl,hw⟩;rw[hw];rw[h0] at GD;refine GD w F1 (Ext.refl _ _) (λ_ _=>aI _) ?_;grind
 ·cases xa with
  | none=>grind
  | some ad=>
   obtain ⟨q1,q2,q3,Fi,q4,q5⟩:=g5 ad rfl;obtain ⟨b,off,sp⟩:=ad;simp only at q1 q2 q3 q4 q5;subst q1;subst q2;obtain ⟨c,el,fr,c1,c2,c3,c4⟩:=q3;have hb:=(bZ.1 c1).1;have ol:vs.toArray.size=List.length vs:=by simp
   have hbl:List.length vs*e.sz<=cap*e.sz:=aZ _ g2;have I2:1<=List.length vs*e.sz:=Nat.mul_le_mul (show 1<=List.length vs by omega) h1
   have to:∀ (i:Nat) (y:e.den),vs[i]?=some y->Has w b (i*e.sz) (rV e y):=λi y hy=>by
    obtain ⟨L0,l1,l2,l3⟩:=q5 i y hy;have:=ab_ e hs (au.flat e (ML e hs) l3);grind
   have hH:Go.Sort.HoldsK (rV e) e.sz w b 0 vs.toArray:=by
    intro j hj;rw[Go.Sort.size_flatK,ol] at hj;rw[bQ,Go.Sort.get_flatK _ _ _ _ (by grind)];have hi:j / e.sz < List.length vs:=by rw[eY h1];exact hj
    have hy:=aB hi;have hm:=Nat.mod_lt j h1
    have sC:(rV e (vs[j / e.sz]))[j % e.sz]?=some ((rV e (vs[j / e.sz]))[j % e.sz]!):=by
     have hlen:=Ro.length e (xq (P:=P) (w:=w) (A:=A) e hs (vs[j / e.sz]));grind
    have hce:=to _ _ hy _ _ sC;have hdm:j / e.sz*e.sz+j % e.sz=j:=by grind [Nat.div_add_mod]
    rw[hdm] at hce;have rU:=Ro.one e (xq (P:=P) (w:=w) (A:=A) e hs (vs[j / e.sz])) _ (bU sC);have Pb:=vK hce rU;refine ⟨?_,?_⟩
    ·grind
    ·simp only[World.frozen?,c1];have:=c3 j Bys;grind
   have Z4:1<=F0 b 0:=by
    grind [d8]
   have Uq:=Go.Proofs.AnyQ.slices_SortFunc_eq L e.sz (λw=>by rw[Gp hl,ha]) (λw=>run_sizeOf hl) (rV e) (λy=>Ro.length e (xq (P:=P) (w:=w) (A:=A) e hs y)) (λy u hu=>Ro.one e (xq (P:=P) (w:=w) (A:=A) e hs y) u hu) cf hO fg #[] b 0 cap vs.toArray w
    (λargs w=>Gx hg.2 args) (YG hs ha hg.1 hc b _ w λm dk os=>YF LM Z4) hH hb (by grind [ct])
   rw[ol] at Uq;refine Uq.mono ?_;rintro ex w' ⟨rfl,n,os,rfl⟩;rw[ol] at hr;have C7:(pdq (Go.Proofs.ltOf cf) vs.toArray 0 (List.length vs) (Lib.bitLen (List.length vs)) true true)=r.toArray:=by rw[hr]
   rw[C7];have xW:r.length=List.length vs:=Up.1.length_eq
   have hold:∀ b',b' < w.heap.size->b'≠b->(Go.Proofs.sortWorldK (rV e) e.sz w b 0 n r.toArray os).heap[b']?=w.heap[b']?:=λb' Ca lU=>by
    grind [Go.Proofs.sortWorldK,grow,Go.Sort.putRowK,Go.Sort.putRow,Go.Sort.mapBlock,Go.Sort.ahead]
   have zC:(Go.Proofs.sortWorldK (rV e) e.sz w b 0 n r.toArray os).heap[b]?=some (.cells (Go.Sort.putCells id 0 (Go.Sort.flatK (rV e) e.sz r.toArray) c) el fr):=by
    simp only[Go.Proofs.sortWorldK,grow,Go.Sort.putRowK,Go.Sort.putRow,Go.Sort.mapBlock,Go.Sort.ahead];rw[fF (by simpa using hb),fT,aM rfl,c1];rfl
   have sS:(Go.Sort.putCells id 0 (Go.Sort.flatK (rV e) e.sz r.toArray) c).size=c.size:=by simp[Go.Sort.putCells]
   have f_:Ext w (Go.Proofs.sortWorldK (rV e) e.sz w b 0 n r.toArray os) F0:=by
    have jz:∀ i,i < cap*e.sz->1<=F0 b i:=λi hi=>by
     grind [d8]
    refine ⟨?_,λb' i Ca hz u hu=>?_,λb' m hm=>?_,λb' i Ca=>?_,rfl,rfl,rfl,λb' Ca hz=>?_,fY _ _⟩
    ·grind
    ·by_cases Mx:b'=b
     ·subst Mx;have hi:¬ i < cap*e.sz:=λhi=>by grind
      exfalso;have:=YD c1 hu;grind
     grind [BM]
    ·by_cases Mx:b'=b
     ·subst Mx;obtain ⟨c',e',f',m1,m2,m3⟩:=hm;rw[c1] at m1;injection m1 with m1;injection m1 with m1 m4 m5;subst m1;subst m4;subst m5;exact ⟨_,_,_,zC,by grind,m3⟩
     ·have Ca:b' < w.heap.size:=hm.lt;grind [yD]
    ·by_cases Mx:b'=b
     ·grind [World.frozen?]
     grind [zV]
    grind
   refine GD _ F1 f_ (λ_ _=>aI _) ?_;simp only[au,hole,bP,aF,aS,aj,vS,Md.own,aH];refine ⟨some ⟨b,0,none⟩,cap,by rw[xW],by grind,g3,(λe=>by cases e),λad e2=>?_⟩
   injection e2 with e2;subst e2;refine ⟨rfl,rfl,⟨_,_,_,zC,by grind,c3,c4⟩,λ_ _ _=>0,λb' i=>?_,λi y hy=>?_⟩
   ·have h3:=q4 b' i
    have h4:bi (List.length r) (λ_ _ _=>0) b' i=0:=by
     generalize List.length r=nn
     induction nn <;> grind [bi]
    grind
   ·refine ⟨rV e y,Ro.length e (xq (P:=P) (w:=w) (A:=A) e hs y),λj u hu=>?_,?_⟩
    ·have hj:=(aP.1 hu).1;have hlen:=Ro.length e (xq (P:=P) (w:=w) (A:=A) e hs y);have hi:=(aP.1 hy).1
     have sw:i*e.sz+j < r.length*e.sz:=by
      have:=aZ e.sz (show i+1<=r.length from hi);grind
     have hdiv:(i*e.sz+j) / e.sz=i:=(Go.Sort.blk_iff e.sz i _ h1).1 ⟨by omega,by omega⟩;have aeT:(i*e.sz+j) % e.sz=j:=by grind [Nat.mod_eq_sub_div_mul]
     have yu:(Go.Sort.putCells id 0 (Go.Sort.flatK (rV e) e.sz r.toArray) c)[i*e.sz+j]?=some u:=by
      have a8:i*e.sz+j < c.size:=by grind
      grind [Go.Sort.putCells,Go.Sort.size_flatK,Go.Sort.get_flatK]
     have rU:=Ro.one e (xq (P:=P) (w:=w) (A:=A) e hs y) _ (bU hu);grind [Q9]
    grind [Ro.flat,ML,xq]
end
end OT
