/- The proof's parts, merged: Maps  made, asked, turned.. No conditions but those that each states. -/
import Derived.Test.YtghckfpmmofmnaaGreatTb
import Derived.MapKept
import Derived.WideMake
import Derived.OrdersHeld
import Derived.LoopN
import Derived.Scope
import Derived.ProofKit
import Derived.Deep.Slices
import Derived.Laws.BitsLemmas
import Derived.Shelf.SlSortCmp.NoneTotal
set_option linter.unusedVariables false
set_option linter.unusedSimpArgs false
namespace OT
open Go
section
variable {P:Program} {w:World} {A:Cells}
def Ji:Value->Bool
 | .int _ _ | .bool _ | .string _=>true
 | _=>false
theorem Ro.simple:∀ (t:Ty) {v:t.den} {cs:List Value},t.oh=true->Ro P w A t v cs->∀ x ∈ cs,Ji x=true:=by
 intro t
 induction t with
 | int k=>intro v cs _ h x hx;simp only[Ro] at h;subst h;simp at hx;subst hx;rfl
 | bool=>intro v cs _ h x hx;simp only[Ro] at h;subst h;simp at hx;subst hx;rfl
 | str=>intro v cs _ h x hx;simp only[Ro] at h;subst h;simp at hx;subst hx;rfl
 | unit=>grind [Ro]
 | pair a b mX mO=>
  intro v cs he h x hx;simp only[Ty.oh,aF] at he;rw[<-dE a.sz cs] at hx;rcases bU.1 hx with hx | hx
  ·exact mX he.1 h.1 x hx
  ·exact mO he.2 h.2 x hx
 | arr n e ih=>
  intro v cs he h x hx;obtain ⟨_,hv,hl,hr⟩:=h;obtain ⟨j,hj,rfl⟩:=cV.1 hx
  have hs:0 < e.sz:=by
   grind
  have hi:j / e.sz < n:=by
   rw[fH hs];omega
  have h1:=hr (j / e.sz) _ (aB (by omega));refine ih he h1 _ (fI.2 ⟨j % e.sz,?_⟩);grind [Nat.mod_lt,Nat.div_add_mod]
 | _=>grind [Ty.oh]
theorem Ob {x:Value} (h:Ji x=true) (n:Nat):Instr.sameBits n x x=true:=by
 cases x <;> simp[Ji] at h <;> cases n <;> simp[Instr.sameBits,MapKept.bytes_beq]
theorem S7 {t:Ty} {v:t.den} {cs:List Value} (ha:isAgg t=true) (he:t.oh=true) (h:Ro P w A t v cs):Instr.sameBits 10000 (dq t cs) (dq t cs)=true:=by
 have hs:=Ro.simple t he h;simp only[dq,ha,aI,Instr.sameBits,eM,dJ,bK];rintro ⟨x,y⟩ tI;have hz:(x,y) ∈ cs.zip cs:=by simpa using tI
 have Pw:x=y/\x ∈ cs:=by
  clear h hs tI
  induction cs with
  | nil=>simp at hz
  | cons c cs ih=>
   grind [List.zip_cons_cons]
 grind [Ob]
theorem Ma:∀ (t:Ty),(∀ (i:TypeId) (d:Nat) (e:Bool) (v:t.den) (cs:List Value),bi P t (.inl i)=true->rU P t (.inl i)=true->dep t<=d->Ro P w A t v cs->(Instr.checkKey e d i (dq t cs)).run P w=.ok () w) /\
  (∀ (fs:List Field) (off d:Nat) (e:Bool) (v:t.den) (xs:Array Value),bi P t (.inr (fs,off))=true->rU P t (.inr fs)=true->dep t<=d+1->Ro P w A t v (xs.toList.drop off) ->
   (forIn fs PUnit.unit λf _=>(if f.name ≠ "_" then do
     let x <- part f.type xs f.offset
     Instr.checkKey e d f.type x
     pure (ForInStep.yield PUnit.unit)
    else pure (ForInStep.yield PUnit.unit):Sem (ForInStep PUnit))).run P w=.ok () w):=by
 intro t
 induction t with
 | int k=>
  refine ⟨λi d e v cs hl he hd h=>?_,λfs off d e v xs hl=>by simp[bi] at hl⟩
  simp only[Ro] at h;subst h
  cases d with
  | zero=>simp[dep] at hd
  | succ d=>rw[eo _ _ rfl];simp[Instr.checkKey,run_underlying (qq hl)]
 | bool=>
  refine ⟨λi d e v cs hl he hd h=>?_,λfs off d e v xs hl=>by simp[bi] at hl⟩
  simp only[Ro] at h;subst h
  have hu:P.underlying i=some .bool:=by
   grind [bi]
  cases d <;> simp_all [dep,Instr.checkKey,run_underlying]
 | str=>
  refine ⟨λi d e v cs hl he hd h=>?_,λfs off d e v xs hl=>by simp[bi] at hl⟩
  simp only[Ro] at h;subst h;cases d <;> simp_all [dep,Instr.checkKey,run_underlying,mY]
 | unit=>
  refine ⟨λi d e v cs hl he hd h=>?_,λfs off d e v xs hl he hd h=>?_⟩
  ·simp only[Ro] at h;subst h;simp only[bi,aF] at hl;have h3:=hl.2;split at h3
   ·rename_i fs hu;have Jf:fs.toList=[]:=bG.1 h3
    cases d with
    | zero=>simp[dep] at hd
    | succ d=>
     show (Instr.checkKey e (d+1) i (.agg #[])).run P w=_;simp_all [Instr.checkKey,run_underlying]
   ·cases h3
  simp_all [bi]
 | pair a b mX mO=>
  have second:∀ (fs:List Field) (off d:Nat) (e:Bool) (v:(Ty.pair a b).den) (xs:Array Value),bi P (.pair a b) (.inr (fs,off))=true->rU P (.pair a b) (.inr fs)=true->dep (.pair a b)<=d+1->Ro P w A (.pair a b) v (xs.toList.drop off) ->
    (forIn fs PUnit.unit λf _=>(if f.name ≠ "_" then do
      let x <- part f.type xs f.offset
      Instr.checkKey e d f.type x
      pure (ForInStep.yield PUnit.unit)
     else pure (ForInStep.yield PUnit.unit):Sem (ForInStep PUnit))).run P w=.ok () w:=by
   intro fs off d e v xs hl he hd h1
   cases fs with
   | nil=>simp_all
   | cons f r=>
    simp only[bi,aF,eN,dK] at hl;simp only[rU,aF,bne_iff_ne,ne_eq] at he;simp only[dep] at hd;obtain ⟨SO,SP⟩:=h1;have p1:=uS (P:=P) (w:=w) hl.1.2 (cs:=xs) (off:=off) (Ro.length _ SO);have e1:=mX.1 f.type d e v.1 _ hl.1.2 he.1.2 (by omega) SO;rw[cU] at SP;have e2:=mO.2 r (off+a.sz) d e v.2 xs hl.2 he.2 (by omega) SP;simp_all
  refine ⟨λi d e v cs hl he hd h=>?_,second⟩
  simp only[bi,aF] at hl;simp only[rU,aF,cC] at he;have h3:=hl.2;have h4:=he.2;split at h3
  ·rename_i fs hu;rw[hu] at h4;simp only at h4;split at h3
   ·rename_i f r HJ;rw[HJ] at h4;simp only at h4
    cases d with
    | zero=>grind [dep]
    | succ d=>
     show (Instr.checkKey e (d+1) i (.agg cs.toArray)).run P w=_;rw[Instr.checkKey];simp only[Sem.run_bind,run_underlying hu,Result.andThen_ok];rw[<-Array.forIn_toList,HJ];have:=second (f::r) 0 d e v cs.toArray (by grind [bi]) (by grind [rU]) hd (by simpa using h);rw[this];rfl
   ·cases h3
  ·cases h3
 | arr n e ih=>
  refine ⟨λi d em v cs hl he hd h=>?_,λfs off d em v xs hl=>by simp[bi] at hl⟩
  simp only[bi,aF] at hl;have h3:=hl.2;simp only[rU] at he;split at h3
  ·rename_i n' el hu;simp only[aF,eN,dK] at h3;obtain ⟨⟨rfl,_⟩,hle⟩:=h3;rw[hu] at he;simp only at he;obtain ⟨inf,i1,i2,_⟩:=lc (nf hle);have nC:P.cellsOf el=e.sz:=by grind [Program.cellsOf]
   obtain ⟨_,l1,_,r1⟩:=h
   cases d with
   | zero=>simp[dep] at hd
   | succ d=>
    simp only[dep] at hd;show (Instr.checkKey em (d+1) i (.agg cs.toArray)).run P w=_;rw[Instr.checkKey];simp only[Sem.run_bind,run_underlying hu,Result.andThen_ok,Std.Legacy.Range.forIn_eq_forIn_range',Std.Legacy.Range.size,Nat.sub_zero,Nat.add_one_sub_one,Nat.div_one]
    have key:∀ (m j:Nat),j+m=n->(forIn (List.range' j m) PUnit.unit λi _=>(do
       let x <- part el cs.toArray (i*(<- Go.sizeOf el))
       Instr.checkKey em d el x
       pure (ForInStep.yield PUnit.unit):Sem (ForInStep PUnit))).run P w=.ok () w:=by
     intro m
     induction m with
     | zero=>simp_all
     | succ m Y5=>
      intro j hj;have a1:=r1 j _ (aB (l:=v) (i:=j) (by omega));have p1:=uS (P:=P) (w:=w) hle (cs:=cs.toArray) (off:=j*e.sz) (Ro.length _ a1);have e1:=ih.1 el d em _ _ hle he (by omega) a1;rw[iG];simp only[List.forIn_cons,Sem.run_bind,run_sizeOf hle,p1,e1,Result.andThen_ok,Sem.run_pure];grind
    simp_all
  ·cases h3
 | _=>grind [rU]
def CR (P:Program) (w:World) (A:Cells) (k v:Ty) (es:List (Value×Value)) (m:List (k.den×v.den)):Prop:=
 es.length=m.length/\∀ (i:Nat) (y:k.den×v.den),m[i]?=some y->∃ (kc vc:List Value),es[i]?=some (dq k kc,dq v vc)/\Ro P w A k y.1 kc/\Ro P w A v y.2 vc
structure K5 (P:Program) (k:Ty) (i:TypeId):Prop where
 lay:bi P k (.inl i)=true
 agg:isAgg k=true
 oh:k.oh=true
 flat:k.flat=true
 rU:rU P k (.inl i)=true
 dep:dep k<=9000
theorem Jj {k v:Ty} {i:TypeId} (h:bi P (.map k v) (.inl i)=true):∃ ki vi,P.underlying i=some (.map ki vi)/\K5 P k ki/\bi P v (.inl vi)=true/\Wu P v vi=true:=by
 simp only[bi,aF] at h;have h2:=h.2;split at h2
 ·rename_i ki vi hu;simp only[aF,YZ,dK] at h2;obtain ⟨⟨⟨h3,h4⟩,⟨⟨⟨⟨h5,h6⟩,h7⟩,h8⟩,h9⟩⟩,F7⟩:=h2;exact ⟨ki,vi,hu,⟨h3,h5,h6,h7,h8,h9⟩,h4,F7⟩
 ·cases h2
theorem S8 {k v:Ty} {ki:TypeId} (K:K5 P k ki) {x:k.den} {xc:List Value} (hx:Ro P w A k x xc):∀ (es:List MapEntry) (m:List (k.den×v.den)) (i:Nat),CR P w A k v (es.map λe=>(e.key,e.val)) m ->
  (Instr.findAsking ki (dq k xc) es i).run P w=.ok ((m.findIdx? λy=>k.eq x y.1).bind λj=>(es[j]?).map λe=>(i+j,e.val)) w:=by
 intro es
 induction es with
 | nil=>
  simp_all [Instr.findAsking]
 | cons e es ih=>
  intro m i h
  cases m with
  | nil=>have:=h.1;simp at this
  | cons y m=>
   obtain ⟨kc,vc,h1,h2,h3⟩:=h.2 0 y rfl;simp only[cY,eI,aS,bP] at h1;have heq:(Op.equal ki (dq k xc) (dq k kc)).run P w=.ok (k.eq x y.1) w:=(Wz (P:=P) (w:=w) (A:=A) k).1 ki Op.maxDepth x y.1 xc kc K.lay K.rU (by have:=K.dep;grind [Op.maxDepth]) hx h2
   have qu:CR P w A k v (es.map λe=>(e.key,e.val)) m:=⟨by have:=h.1;simpa using this,λj z hz=>by
    have:=h.2 (j+1) z (by simpa using hz)
    simpa using this⟩
   simp only[Instr.findAsking,Sem.run_bind,h1.1,heq,Result.andThen_ok,List.findIdx?_cons]
   cases hq:k.eq x y.1 with
   | true=>simp
   | false=>
    simp only[aJ,aO,ih m (i+1) qu,Option.bind_map];congr 2;grind
theorem S9 {k:Ty} {ki:TypeId} (K:K5 P k ki):∃ d,P.underlying ki=some d/\∀ x y,Instr.sameNow d x y=none:=by
 have hl:=K.lay;have ha:=K.agg;have he:=K.oh
 cases k with
 | pair a b=>
  simp only[bi,aF] at hl;have h3:=hl.2;split at h3
  ·rename_i fs hu;exact ⟨_,hu,λ_ _=>rfl⟩
  ·cases h3
 | unit=>
  simp only[bi,aF] at hl;have h3:=hl.2;split at h3
  ·rename_i fs hu;exact ⟨_,hu,λ_ _=>rfl⟩
  ·cases h3
 | arr n e=>
  simp only[bi,aF] at hl;have h3:=hl.2;split at h3
  ·rename_i n' el hu;exact ⟨_,hu,λ_ _=>rfl⟩
  ·cases h3
 | _=>simp[isAgg] at ha
theorem Px {k v:Ty} {ki:TypeId} (K:K5 P k ki) {x:k.den} {xc:List Value} (hx:Ro P w A k x xc) {es:List MapEntry} {m:List (k.den×v.den)} (h:CR P w A k v (es.map λe=>(e.key,e.val)) m) :
  (Instr.findKey ki (dq k xc) es).run P w=.ok ((m.findIdx? λy=>k.eq x y.1).bind λj=>(es[j]?).map λe=>(j,e.val)) w:=by
 obtain ⟨d,hu,hd⟩:=S9 K;have ha:=S8 (v:=v) K hx es m 0 h;simp only[cB] at ha;unfold Instr.findKey;simp only[Sem.run_bind,run_underlying hu,Result.andThen_ok];cases es <;> simp_all [Instr.findNow]
theorem Es {k v:Ty} {m:Md} {y:List (k.den×v.den)} {cs:List Value} {F:FP} (h:ao P w A (.map k v) m [] y cs F) :
  k.flat=true/\v.flat=true/\∃ (r:Nat) (es:Array MapEntry) (clock:Nat),cs=[.map (some r)]/\w.heap[r]?=some (.map es clock)/\CR P w A k v (es.toList.map λe=>(e.key,e.val)) y/\(m.own=true->1<=F r 0):=by
 simp only[ao,hole,bV,aJ,aO] at h;split at h
 ·rename_i hm;obtain ⟨h1,h2,r,uh,h3,h4,h5,h6,h7⟩:=h;obtain ⟨es,clock,q1,q2⟩:=Sq h4;refine ⟨h1,h2,r,es,clock,h3,q1,?_,λ_=>h5⟩
  have q2:(es.toList.map λe=>(e.key,e.val))=uh:=q2;rw[q2];exact ⟨h6,h7⟩
 ·rename_i hm;obtain ⟨_,_,h1,h2,r,uh,h3,h4,h5,h6,h7⟩:=h;obtain ⟨es,clock,q1,q2⟩:=Sq h4;refine ⟨h1,h2,r,es,clock,h3,q1,?_,λe=>absurd e hm⟩
  have q2:(es.toList.map λe=>(e.key,e.val))=uh:=q2;rw[q2];exact ⟨h6,h7⟩
theorem S_ {α:Type} {k:Ty} (m:List (k.den×α)) (x:k.den):jQ k m x=(m.findIdx? λe=>k.eq x e.1).bind λj=>(m[j]?).map (·.2):=by
 unfold jQ
 induction m with
 | nil=>rfl
 | cons y m ih=>
  simp only[gS,List.findIdx?_cons]
  cases hq:k.eq x y.1 with
  | true=>simp
  | false=>
   simp only[aJ,aO];rw[ih];cases m.findIdx? (λe=>k.eq x e.1) <;> simp
theorem U2 {v:Ty} {i:TypeId} (hz:Wu P v i=true) (hv:bi P v (.inl i)=true) {z:Value} {L:List Value} (h1:(zeroValue i).run P w=.ok z w) (h2:z.cells.toList=L) (hl:L.length=v.sz):z=dq v L:=by
 obtain ⟨inf,i1,i2,i3,i4⟩:=lc (nf hv);unfold Wu at hz;rw[i1] at hz;simp only at hz
 cases hzz:inf.zero with
 | none=>grind
 | some z0=>
  have:z=z0:=by
   simp_all [zeroValue,typeInfo]
  subst this;rw[hzz] at hz;unfold dq
  cases ha:isAgg v with
  | true=>
   rw[ha] at hz;cases z <;> simp at hz;simp only[Value.cells] at h2;subst h2;simp
  | false=>
   grind [Value.cells]
theorem U3:∀ (t:Ty),t.oh=true->∀ {v1 v2:t.den} {qt d6:List Value},Ro P w A t v1 qt->Ro P w A t v2 d6->t.eq v1 v2=true->d6=qt:=by
 intro t
 induction t with
 | int k=>
  intro _ v1 v2 qt d6 h1 h2 he;simp only[Ro] at h1 h2;subst h1;subst h2;have:v1=v2:=by cases k <;> simpa [Ty.eq] using he
  rw[this]
 | bool=>
  grind [Ro,Ty.eq]
 | str=>
  grind [Ro,Ty.eq]
 | unit=>
  grind [Ro]
 | pair a b mX mO=>
  intro hq v1 v2 qt d6 h1 h2 he;simp only[Ty.oh,aF] at hq;simp only[Ty.eq,aF] at he;have e1:=mX hq.1 h1.1 h2.1 he.1;have e2:=mO hq.2 h1.2 h2.2 he.2;grind [List.take_append_drop]
 | arr n e ih=>
  intro hq v1 v2 qt d6 h1 h2 he;obtain ⟨_,l1,c1,r1⟩:=h1;obtain ⟨_,l2,c2,r2⟩:=h2;refine List.ext_getElem (by omega) λj hj2 hj1=>?_
  have hs:0 < e.sz:=by
   grind
  have hi:j / e.sz < n:=by
   rw[fH hs];omega
  have a1:=r1 (j / e.sz) _ (aB (by omega));have a2:=r2 (j / e.sz) _ (aB (by omega))
  have HW:e.eq (v1[j / e.sz]'(by omega)) (v2[j / e.sz]'(by omega))=true:=by
   simp only[Ty.eq,bK] at he;exact he (_,_) (fI.2 ⟨j / e.sz,by grind⟩)
  have h3:=ih hq a1 a2 HW;have hm:=Nat.mod_lt j hs;have hd:=Nat.div_add_mod j e.sz;have h4:=cP (·[j % e.sz]?) h3;grind
 | _=>grind [Ty.oh]
theorem QN {k v:Ty} {t:TypeId} (hl:bi P (.map k v) (.inl t)=true) (hz:v.wl=true) {x:k.den} {xc:List Value} (hx:Ro P w A k x xc) {r:Nat} {es:Array MapEntry} {clock:Nat} (hb:w.heap[r]?=some (.map es clock)) {y:List (k.den×v.den)}
  (he:CR P w A k v (es.toList.map λe=>(e.key,e.val)) y) (ok:Bool) :
  ∃ vc,Ro P w A v (A7 (jQ k y x) v.zero) vc/\(Instr.lookup t (.map (some r)) (dq k xc) ok).run P w=.ok (if ok then .tuple #[dq v vc,.bool (jQ k y x).isSome] else dq v vc) w:=by
 obtain ⟨ki,vi,hu,K,hv,abp⟩:=Jj hl;have hc:=(Ma (P:=P) (w:=w) (A:=A) k).1 ki 10000 es.isEmpty x xc K.lay K.rU (by have:=K.dep;omega) hx;have hf:=Px (v:=v) K hx he;obtain ⟨L,hL⟩:=wd v hz;obtain ⟨z,El,ze⟩:=yS (P:=P) (w:=w) hv hL;obtain ⟨r1,r2,r3⟩:=CL (P:=P) (w:=w) (A:=A) v hL hv;rw[S_]
 cases Mb:y.findIdx? (λe=>k.eq x e.1) with
 | none=>
  rw[Mb] at hf;simp only[Option.bind_none] at hf ⊢;refine ⟨L,r2,?_⟩
  have Pr:z=dq v L:=U2 abp hv El ze r3;cases ok <;> simp[Instr.lookup,run_underlying hu,MapKept.run_getObj_map hb,hc,hf,El,Pr]
 | some j=>
  rw[Mb] at hf;have hj:j < y.length:=(eK.1 Mb).1;obtain ⟨kc,vc,g1,g2,g3⟩:=he.2 j y[j] (aB hj);rw[eV] at g1
  cases hej:es.toList[j]? with
  | none=>grind
  | some e=>
   rw[hej] at g1;simp only[bT,aS,bP] at g1;simp only[hej,aA,bT,aB hj] at hf ⊢;refine ⟨vc,g3,?_⟩
   cases ok <;> simp[Instr.lookup,run_underlying hu,MapKept.run_getObj_map hb,hc,hf,g1.2]
end
section
variable {P:Program} {C:Ctx} {A:Cells} {X:FP} {σ:St} {a:Act} {w:World} {F:Nat->FP} {R:Type} {x:R} {Q:Exit->Act->World->Prop} {o:Oper} {E:Env}
theorem Oc (h:d_ P C A σ a w F) (kG:∀ i T,E.TI i=some T->bi P T (.inl i)=true) {t:Nat} (ho:o.op=.makeMap t none) {K:St->Option R}
  (hk:(p_ E t λt=>match t with
  | .map k v=>if k.flat&&v.flat then K (σ.bz o.dst (.own (.map k v) (ai (.map k v)) [] [])) else none
  | _=>none)=some x):o.wp P a w (λa' w'=>Nx P C K x a' w'/\Ext w w' (λ_ _=>0)) Q:=by
 obtain ⟨T,hT,hk⟩:=gw hk;split at hk
 ·rename_i k v;split at hk
  ·rename_i hc;simp only[aF] at hc
   have kO:(execOp a.eval o).run P w=.ok (.value (.map (some w.heap.size))) (w.alloc (.map #[] 0)):=by
    simp[execOp,ho,run_makeMap_plain]
   have gf:=pp w (.map #[] 0)
   have h1:Rel P C A (λb i=>0+ep w.heap.size 0 1 b i) σ a (w.alloc (.map #[] 0)) F:=by
    refine h.grow gf (λ_ _ h=>h) (λ_ _ h=>.inl h) (λb i=>?_);by_cases hb:b=w.heap.size
    ·subst hb;right;exact ⟨aL _,by simp,by grind [ep]⟩
    grind [ep]
   have BJ:(w.alloc (.map #[] 0)).heap[w.heap.size]?=some (.map #[] 0):=heap_alloc_new w _;refine oA kO ⟨pO h1 hk (Fd:=ep w.heap.size 0 1) ⟨_,(eo (.map k v) _ rfl).symm,?_⟩ (λb i=>by simp) (λ_ _ _ _ e=>by cases e),gf⟩;simp only[ao,hole,bV,aJ,aO,ai,uK,Md.own,aI];refine ⟨hc.1,hc.2,w.heap.size,[],rfl,?_,by simp[ep],rfl,λi y hy=>by cases hy⟩
   exact Sr BJ
  ·cases hk
 ·cases hk
theorem Od (h:d_ P C A σ a w F) (kG:∀ i T,E.TI i=some T->bi P T (.inl i)=true) {t:Nat} {y z:Operand} {ok:Bool} (ho:o.op=.lookup t y z ok) (ba:dO P y=true/\dO P z=true) {K:St->Option R}
  (hk:I0 E σ t (d7 σ y) (d7 σ z) ok o.dst K=some x):o.wp P a w (λa' w'=>Nx P C K x a' w'/\Ext w w' (λ_ _=>0)) Q:=by
 unfold I0 at hk;obtain ⟨T,hT,hk⟩:=gw hk;have jk:=kG _ _ hT;split at hk
 ·rename_i k v;split at hk
  ·rename_i hz
   rcases fy h ba.1 with hs | ⟨xs,e⟩
   rotate_left
   ·grind
   rcases fy h ba.2 with xG | ⟨xs,e2⟩
   rotate_left
   ·exfalso;rw[e2] at hk;split at hk
    ·split at hk
     ·obtain ⟨_,_,_,_,_,_,_,_,h1,_⟩:=lA h hk;grind [cy]
     ·cases hk
    ·cases hk
   split at hk
   ·rename_i r p snap hv;rw[hv] at hs;split at hk
    ·rename_i oW;obtain ⟨hr,t',m',H',v',bu,c_,F',h1,nQ,h3,h4,h5,h6⟩:=lA h hk;split at h1
     ·rename_i hH;have hH:=bG.1 hH;subst hH;obtain ⟨e1,h1⟩:=cy h1;subst e1;obtain ⟨pl,g1,g2,g3⟩:=hs.2 oW;rw[h3] at g1;injection g1 with g1;subst g1;obtain ⟨f1,f2,b,es,clock,q1,q2,q3,q4⟩:=Es h4;simp only at g2;subst q1;rw[eo (.map k v) _ rfl] at g2;split at h1
      ·rename_i t2 ix WK;rw[WK] at xG;obtain ⟨e2,h1⟩:=cy h1;subst e2;obtain ⟨kc,JX,mJ⟩:=xG;obtain ⟨vc,r1,r2⟩:=QN (P:=P) jk hz mJ q2 q3 ok
       have kO:(execOp a.eval o).run P w=.ok (.value (if ok then .tuple #[dq v vc,.bool (jQ t2 v' ix).isSome] else dq v vc)) w:=by
        simp_all [execOp]
       cases ok with
       | true=>
        simp only at h1;refine oA kO ⟨cm h h1 ⟨#[dq v vc,.bool (jQ t2 v' ix).isSome],λ_ _ _=>0,rfl,λb i=>by grind [m_],λj y hy=>?_⟩ (λ_ _ _ _ e=>by cases e),Ext.refl _ _⟩
        match j with
        | 0=>simp at hy;subst hy;exact ⟨_,rfl,.inr ⟨vc,rfl,Ro.rep v _ (it v) r1⟩⟩
        | 1=>simp at hy;subst hy;exact ⟨_,rfl,.inr ⟨[.bool _],rfl,rfl⟩⟩
        | n+2=>simp at hy
       | false=>
        simp only at h1;exact oA kO ⟨cm h h1 ⟨vc,rfl,r1⟩ (λ_ _ _ _ e=>by cases e),Ext.refl _ _⟩
      ·cases h1
     ·cases h1
    ·cases hk
   ·cases hk
  ·cases hk
 ·cases hk
theorem QO {r:Nat} {es HX:Array MapEntry} {clock Cd:Nat} (hb:w.heap[r]?=some (.map es clock)):Ext w { w with heap:=w.heap.setIfInBounds r (.map HX Cd) } (ep r 0 1):=by
 have ab6:∀ b,b≠r->(w.heap.setIfInBounds r (.map HX Cd))[b]?=w.heap[b]?:=λb kF=>by grind
 refine ⟨by simp,λb i hbs hz u hu=>?_,λb n hn=>?_,λb i hbs=>?_,rfl,rfl,rfl,λb hbs hz=>?_,aL _⟩
 ·grind [ep,ce,zU]
 ·obtain ⟨c,e,fr,h1,h2,h3⟩:=hn;have hbr:b≠r:=λe=>by grind
  exact ⟨c,e,fr,by grind,h2,h3⟩
 ·grind [World.frozen?]
 ·have hbr:b≠r:=λe=>by simp_all [ep]
  grind
theorem QP {k v:Ty} {t:TypeId} (hl:bi P (.map k v) (.inl t)=true) {x:k.den} {xc:List Value} (hx:Ro P w A k x xc) {z:v.den} {WL:List Value} (hzr:Ro P w A v z WL) {r:Nat} {es:Array MapEntry} {clock:Nat} (hb:w.heap[r]?=some (.map es clock)) {y:List (k.den×v.den)}
  (he:CR P w A k v (es.toList.map λe=>(e.key,e.val)) y) :
  ∃ (HX:Array MapEntry) (Cd:Nat),(Instr.mapUpdate t (.map (some r)) (dq k xc) (dq v WL)).run P w=.ok () { w with heap:=w.heap.setIfInBounds r (.map HX Cd) }/\CR P w A k v (HX.toList.map λe=>(e.key,e.val)) (oV k y x z):=by
 obtain ⟨ki,vi,hu,K,hv,_⟩:=Jj hl;have hc:=(Ma (P:=P) (w:=w) (A:=A) k).1 ki 10000 false x xc K.lay K.rU (by have:=K.dep;omega) hx;have hf:=Px (v:=v) K hx he;unfold oV
 cases Mb:y.findIdx? (λe=>k.eq x e.1) with
 | none=>
  rw[Mb] at hf;simp only[Option.bind_none] at hf ⊢;refine ⟨es.push { key:=dq k xc,val:=dq v WL,born:=clock },clock+1,?_,?_,λi q hq=>?_⟩
  ·simp[Instr.mapUpdate,run_underlying hu,MapKept.run_getObj_map hb,hc,hf,MapKept.run_setObj_map _ hb,Result.andThen]
  ·have:=he.1;grind
  ·have hlen:(es.toList.map λe=>(e.key,e.val)).length=y.length:=he.1;rw[Array.toList_push,eS];by_cases hi:i < y.length
   ·rw[cS hi] at hq;rw[cS (by grind)];exact he.2 i q hq
   grind
 | some j=>
  rw[Mb] at hf;have hfj:=eK.1 Mb;have hj:j < y.length:=hfj.1;obtain ⟨kc,vc,g1,g2,g3⟩:=he.2 j y[j] (aB hj);rw[eV] at g1;have hlen:es.size=y.length:=by have:=he.1;simpa using this
  have vO:es.toList[j]?=some es[j]:=by simp[hlen,hj]
  rw[vO] at g1;simp only[bT,aS,bP] at g1;simp only[aA] at hf ⊢;rw[vO] at hf;simp only[bT] at hf
  have abq:k.eq x (y[j]).1=true:=by
   grind
  have ab_:dq k kc=dq k xc:=by
   have:=U3 k K.oh hx g2 abq;rw[this]
  have FE:(Instr.keyThatStays (dq k xc) (dq k xc)).run P w=.ok (dq k xc) w:=by
   simp[Instr.keyThatStays,S7 K.agg K.oh hx]
  have wR:(es[j]?).map (·.key)=some (dq k xc):=by
   grind
  refine ⟨es.modify j λe=>{ e with key:=dq k xc,val:=dq v WL },clock,?_,?_,λi q hq=>?_⟩
  ·simp[Instr.mapUpdate,run_underlying hu,MapKept.run_getObj_map hb,hc,hf,wR,FE,MapKept.run_setObj_map _ hb,Result.andThen]
  ·simp[hlen]
  ·rw[eH] at hq;rw[eV,dP,gI];by_cases ui:j=i
   ·grind
   ·rw[aP ui] at hq ⊢;have:=he.2 i q hq;grind
theorem Jk (h:d_ P C A σ a w F) (kG:∀ i T,E.TI i=some T->bi P T (.inl i)=true) {t:Nat} {y z u:Operand} (ho:o.op=.mapUpdate t y z u) (hd:o.dst=none) (ba:dO P y=true/\dO P z=true/\dO P u=true) {K:St->Option R}
  (hk:I1 E σ t (d7 σ y) (d7 σ z) (d7 σ u) K=some x):o.wp P a w (Nx P C K x) Q:=by
 unfold I1 at hk;obtain ⟨T,hT,hk⟩:=gw hk;have jk:=kG _ _ hT;split at hk
 ·rename_i k v
  rcases fy h ba.1 with hs | ⟨xs,e⟩
  rotate_left
  ·grind
  split at hk
  ·rename_i r p snap hv;rw[hv] at hs;split at hk
   ·rename_i oW;obtain ⟨hr,t',m',H',v',bu,c_,F',h1,nQ,h3,h4,h5,h6⟩:=lA h hk;split at h1
    ·rename_i hH;simp only[aF,bG] at hH;obtain ⟨jE,hH⟩:=hH;subst hH;obtain ⟨e1,h1⟩:=cy h1;subst e1;obtain ⟨pl,g1,g2,g3⟩:=hs.2 oW;rw[h3] at g1;injection g1 with g1;subst g1;split at h1
     ·rename_i t2 ix t3 uv WK huv
      have xG:c8 P A σ a w (a.eval z) (.val t2 ix) (λ_ _=>0):=by
       grind [fy]
      have hs3:c8 P A σ a w (a.eval u) (.val t3 uv) (λ_ _=>0):=by
       grind [fy]
      obtain ⟨e2,h1⟩:=cy h1;subst e2;obtain ⟨e3,h1⟩:=cy h1;subst e3;obtain ⟨kc,JX,mJ⟩:=xG;obtain ⟨uc,hu1,hu2⟩:=hs3;obtain ⟨hr,m2,H2,v2,d6,Ca,F2,q1,q2,q3,q4,q5,q6⟩:=B_ h h1;obtain ⟨_,e2,e3,e4⟩:=At.inj ⟨nQ⟩ q1;subst e2;subst e3;have e4:=gK e4;subst e4;rw[h3] at q2;injection q2 with q2;injection q2 with q21 q22 q23 q24;subst q23;subst q24;have jj:=q3;obtain ⟨f1,f2,b,es,clock,b1,b2,b3,b4⟩:=Es q3;have b4:=b4 jE;simp only at g2;subst b1;rw[eo (.map t2 t3) _ rfl] at g2;obtain ⟨HX,Cd,r1,r2⟩:=QP (P:=P) jk mJ hu2 b2 b3;generalize Be:({ w with heap:=w.heap.setIfInBounds b (.map HX Cd) }:World)=w2 at r1;have gf:Ext w w2 (ep b 0 1):=by grind [QO]
      have FW:∀ b i,F r b i<=1:=λb i=>by have:=h.pk b i;grind [dv]
      have kO:(execOp a.eval o).run P w=.ok .skip w2:=by
       simp[execOp,ho,g2,JX,hu1,r1]
      refine LP kO hd ?_
      have hA:∀ b' i,A b' i->∀ u,ce w b' i=some u->ce w2 b' i=some u:=λb' i ha u hu=>by
       refine gf.cell b' i (h.kN b' i (.inr ha)) ?_ u hu;rcases bM (ep b 0 1 b' i) with h0 | h0
       ·exact h0
       ·have:b'=b/\i=0:=by
         grind [ep]
        obtain ⟨rfl,rfl⟩:=this;exact absurd ha (h.qb b' 0 (by grind [dv]))
      have BJ:ce w2 b 0=some (CC (entriesOf HX)):=by
       grind [Sr]
      have FA:ao P w2 A (.map t2 t3) m' [] (oV t2 v' ix uv) [.map (some b)] F2:=by
       simp only[ao,hole,bV,aJ,aO,jE,aI];refine ⟨f1,f2,b,entriesOf HX,rfl,BJ,b4,r2.1,λi q hq=>?_⟩
       obtain ⟨kc',vc',j1,j2,j3⟩:=r2.2 i q hq;exact ⟨kc',vc',j1,Ro.mono hA (λ_ _ h=>h) t2 j2,Ro.mono hA (λ_ _ h=>h) t3 j3⟩
      have hF2:∀ b' i,ep b 0 1 b' i<=F2 b' i:=λb' i=>by
       grind [ep]
      have wV:∀ b' o',c_=some (b',o')->Has w2 b' o' [.map (some b)]:=λb' o' ea j u hu=>by
       have hh1:=(q5 b' o' ea).1 j u hu;have hj:=(aR.1 hu).1;have hj0:j=0:=by simpa using hj
       subst hj0;have h2:=q4 b' (o'+0);have h4:=hF2 b' (o'+0);have h5:=FW b' (o'+0);have h7:=dv F hr b' (o'+0)
       have h6:k_ c_ (Ty.map t2 t3).sz b' (o'+0)=1:=by
        grind [k_,ep,Ty.sz]
       exact gf.cell _ _ (h.kN b' (o'+0) (.inl (by grind))) (by omega) u hh1
      obtain ⟨A3,A_,Fr,n1,n2,n3,n4,n5⟩:=q6 w2 A [.map (some b)] F2 (λ_ _=>0) (gf.mono λb' i hz=>by
        grind) (λ_ _ h=>h) (λ_ _ h=>.inl h) (λb i=>by omega) wV (λ_=>rfl) FA
      refine ⟨_,n1,A3,_,n5 wD (yc (h.l8 r)) (Ed (h.l8 r)) rfl λp' snap hb ba hlen=>?_⟩
      have h5:=GN (h.l8 r) hb ba;refine ⟨d9 p'+1,False,by omega,λ_=>.inl (by omega),λ_=>by omega,?_⟩
      intro q pl hq hp;grind [bn]
     ·cases h1
    ·cases h1
   ·cases hk
  ·cases hk
 ·cases hk
theorem Oe (h:d_ P C A σ a w F) (kG:∀ i T,E.TI i=some T->bi P T (.inl i)=true) {t:Nat} {y:Operand} (ho:o.op=.call { callee:=.builtin .len,args:=#[y],argTypes:=#[t] }) (ba:dO P y=true) {K:St->Option R}
  (hk:I2 E σ t (d7 σ y) (λn=>K (σ.bz o.dst (.val (.int .i64) (n:Int))))=some x):o.wp P a w (Nx P C K x) Q:=by
 unfold I2 at hk;obtain ⟨T,hT,hk⟩:=gw hk;have jk:=kG _ _ hT;split at hk
 ·rename_i k v
  rcases fy h ba with hs | ⟨xs,e⟩
  rotate_left
  ·grind
  split at hk
  ·rename_i r p snap hv;rw[hv] at hs;split at hk
   ·rename_i oW;obtain ⟨hr,t',m',H',v',bu,c_,F',h1,nQ,h3,h4,h5,h6⟩:=lA h hk;split at h1
    ·rename_i hH;have hH:=bG.1 hH;subst hH;obtain ⟨e1,h1⟩:=cy h1;subst e1;obtain ⟨pl,g1,g2,g3⟩:=hs.2 oW;rw[h3] at g1;injection g1 with g1;subst g1;obtain ⟨f1,f2,b,es,clock,q1,q2,q3,q4⟩:=Es h4;simp only at g2;subst q1;rw[eo (.map k v) _ rfl] at g2;obtain ⟨ki,vi,hu,_,_,_⟩:=Jj jk;have hlen:es.size=List.length v':=by have:=q3.1;simpa using this
     have kO:(execOp a.eval o).run P w=.ok (.value (.int .i64 ((List.length v':Nat):Int))) w:=by
      rw[Ah ho];simp[Builtin.len_,g2,run_underlying hu,MapKept.run_getObj_map q2,goInt,hlen]
     exact oA kO (cm h h1 ⟨[.int .i64 _],rfl,rfl⟩ (λ_ _ _ _ e=>by cases e))
    ·cases h1
   ·cases hk
  ·cases hk
 ·cases hk
end
end OT
namespace OT
open Go
structure ta (P:Program) (E:Env):Prop where
 ti:∀ i T,E.TI i=some T->bi P T (.inl i)=true
 eq:WA P E
 fn:∀ f g,E.G f=some g->Sound P f g/\ww P f g.cap
def QQ (P:Program) (t:TypeId):Bool:=match P.underlying t with
 | some (.slice _)=>true
 | some .string=>true
 | _=>false
theorem HY {P:Program} {t:TypeId} (h:QQ P t=true):(∃ e',P.underlying t=some (.slice e'))\/P.underlying t=some .string:=by
 grind [QQ]
def Mc (P:Program) (c:Call):Bool:=match c.callee with
 | .builtin .append | .builtin .copy=>match c.argTypes.toList with
  | [_,tx]=>QQ P tx
  | _=>false
 | _=>true
def rK (P:Program):Op->Bool
 | .move x | .assign x | .nilCheck x | .box _ x | .load _ x | .unOp _ _ x | .convert _ _ x | .fieldAddr _ x _ | .field _ x _=>dO P x
 | .pick c a b=>dO P c&&dO P a&&dO P b
 | .mapUpdate _ m k v=>dO P m&&dO P k&&dO P v
 | .lookup _ a x _ | .store _ a x | .binOp _ _ a x _ | .indexAddr _ a x | .index _ a x | .makeSlice _ a x=>dO P a&&dO P x
 | .build _ ps | .buildSlice _ _ ps=>ps.toList.all λp=>dO P p.2
 | .slice _ x lo hi _=>dO P x&&lo.all (dO P)&&hi.all (dO P)
 | .makeFunc (.func f) _ cs=>(P.funcs[f]?).any λfn=>fn.nfree == cs.size
 | .call c=>c.args.toList.all (dO P)&&Mc P c
 | _=>true
section
variable {P:Program} {C:Ctx} {A:Cells} {X:FP} {σ:St} {a:Act} {w:World} {F:Nat->FP} {R:Type} {x:R} {Q:Exit->Act->World->Prop} {o:Oper} {E:Env}
theorem yC {α:Type} {l:Array α} {m:List α} (h:l.toList=m):l=m.toArray:=by grind
def vG (E:Env):Op->Bool
 | .move _ | .assign _ | .pick .. | .build .. | .load .. | .nilCheck _ | .binOp .. | .unOp .. | .fieldAddr .. | .field .. | .indexAddr .. | .index .. | .slice .. | .extract .. | .makeFunc ..=>true
 | .convert _ t _=>match E.TI t with
  | some T=>T.flat
  | none=>false
 | .call c=>match c.callee with
  | .builtin .len=>match c.argTypes.toList with
   | [t]=>!Sn (E.TI t)
   | _=>false
  | _=>false
 | _=>false
theorem K6 (hE:ta P E) (h:d_ P C A σ a w F) {ip i:Nat} (dc:rK P o.op=true) (qp:vG E o.op=true) {K:St->Option R} (hk:rO E ip i o σ K=some x):Tk P o a w (Nx P C K x):=by
 unfold rO at hk
 cases ho:o.op with
 | move y=>rw[ho] at hk dc;exact SG h ho dc hk
 | assign y=>rw[ho] at hk dc;exact N8 h ho dc hk
 | pick c y z=>
  grind [rK,SH]
 | build t ps=>rw[ho] at hk dc;exact QG h hE.ti ho dc hk
 | load t y=>rw[ho] at hk dc;exact Qv h hE.ti ho dc hk
 | nilCheck y=>rw[ho] at hk dc;exact KJ h ho dc hk
 | binOp op t y z t2=>
  rw[ho] at hk dc;simp only[rK,aF] at dc;exact QD h hE.ti hE.eq ho dc hk
 | unOp op t y=>
  rw[ho] at hk dc;refine SN h ho dc (K:=K) ?_;grind
 | convert s t y=>
  rw[ho] at hk dc qp;refine LV h hE.ti ho dc (λT hT=>?_) hk;grind [vG]
 | fieldAddr t y j=>rw[ho] at hk dc;exact Jb h hE.ti ho dc hk
 | field t y j=>rw[ho] at hk dc;exact QA h hE.ti ho dc hk
 | indexAddr t y z=>
  rw[ho] at hk dc;simp only[rK,aF] at dc;exact Jc h hE.ti ho dc hk
 | index t y z=>
  rw[ho] at hk dc;simp only[rK,aF] at dc;exact QB h hE.ti ho dc hk
 | slice t y lo hi mx=>
  rw[ho] at hk dc
  cases mx with
  | none=>
   simp only[rK,aF] at dc;refine QC h hE.ti ho ⟨dc.1.1,λz hz=>?_,λz hz=>?_⟩ hk
   all_goals grind
  | some m=>cases hk
 | extract y j=>
  grind [LW]
 | makeFunc fn first cs=>
  rw[ho] at hk dc
  cases fn with
  | func f=>exact KN h ho dc hk
  | _=>cases hk
 | call c=>
  rw[ho] at hk dc qp;simp only[rK,aF] at dc;obtain ⟨mC,hc⟩:=dc;obtain ⟨callee,args,ts⟩:=c
  cases callee with
  | builtin b=>
   cases b with
   | len=>
    simp only at hk;split at hk
    ·rename_i y t h1 h2;have e1:=yC h1;have e2:=yC h2
     subst e1;subst e2;simp only[dI,aF] at mC;simp only[vG,cC] at qp;rw[qp] at hk;exact UV h hE.ti ho mC.1 hk
    ·cases hk
   | _=>grind [vG]
  | _=>grind [vG]
 | _=>grind [vG]
def quiet (E:Env):Op->Bool
 | .alloc _ | .box .. | .buildSlice .. | .makeSlice .. | .convert .. | .makeMap .. | .lookup ..=>true
 | .call c=>match c.callee with
  | .value (.func f)=>match E.G f with
   | some g=>w9 g.ps
   | none=>false
  | _=>false
 | _=>false
theorem Ta (hE:ta P E) (h:d_ P C A σ a w F) {ip i:Nat} (dc:rK P o.op=true) (qp:vG E o.op=false) {K:St->Option R} (hk:rO E ip i o σ K=some x) :
  o.wp P a w (λa' w'=>Nx P C K x a' w'/\(quiet E o.op=true->Ext w w' (λ_ _=>0))) Q:=by
 have wq:∀ {N:Act->World->Prop},o.wp P a w (λa' w'=>N a' w'/\Ext w w' (λ_ _=>0)) Q->o.wp P a w (λa' w'=>N a' w'/\(quiet E o.op=true->Ext w w' (λ_ _=>0))) Q:=λh=>Oper.wp_mono (λa' w' h=>⟨h.1,λ_=>h.2⟩) h;have wn:∀ {N:Act->World->Prop},quiet E o.op=false->o.wp P a w N Q->o.wp P a w (λa' w'=>N a' w'/\(quiet E o.op=true->Ext w w' (λ_ _=>0))) Q:=λhq h=>Oper.wp_mono (λa' w' h=>⟨h,λe=>by grind⟩) h;unfold rO at hk
 cases ho:o.op with
 | alloc t=>rw[ho] at hk;rw[<-ho];exact wq (SQ h hE.ti ho hk)
 | box t y=>rw[ho] at hk dc;rw[<-ho];exact wq (XE h ho dc hk)
 | buildSlice t n ps=>rw[ho] at hk dc;rw[<-ho];exact wq (Jg h hE.ti ho dc hk)
 | store t y z=>
  rw[ho] at hk dc;simp only[rK,aF] at dc;rw[<-ho];refine wn (by rw[ho];rfl) ?_
  cases hd:o.dst with
  | none=>rw[hd] at hk;exact Qx h hE.ti ho hd dc hk
  | some d=>grind
 | convert s t y=>rw[ho] at hk dc;rw[<-ho];exact wq (N7 h hE.ti ho dc hk)
 | makeMap t rv=>
  rw[ho] at hk;rw[<-ho]
  cases rv with
  | none=>exact wq (Oc h hE.ti ho hk)
  | some _=>cases hk
 | lookup t y z ok=>
  rw[ho] at hk dc;simp only[rK,aF] at dc;rw[<-ho];exact wq (Od h hE.ti ho dc hk)
 | mapUpdate t y z u=>
  rw[ho] at hk dc;simp only[rK,aF] at dc;rw[<-ho];refine wn (by rw[ho];rfl) ?_
  cases hd:o.dst with
  | none=>rw[hd] at hk;exact Jk h hE.ti ho hd ⟨dc.1.1,dc.1.2,dc.2⟩ hk
  | some d=>grind
 | makeSlice t y z=>
  rw[ho] at hk dc;simp only[rK,aF] at dc;rw[<-ho];exact wq (KL h hE.ti ho dc hk)
 | call c=>
  rw[ho] at hk dc qp;simp only[rK,aF] at dc;obtain ⟨mC,hc⟩:=dc;obtain ⟨callee,args,ts⟩:=c;rw[<-ho]
  cases callee with
  | builtin b=>
   cases b with
   | len=>
    simp only at hk;split at hk
    ·rename_i y t h1 h2;have e1:=yC h1;have e2:=yC h2
     subst e1;subst e2;simp only[dI,aF] at mC;simp only[vG,Bool.not_eq_false'] at qp;rw[qp] at hk;exact wn (by rw[ho];rfl) (Oe h hE.ti ho mC.1 hk)
    ·cases hk
   | append=>
    simp only at hk;split at hk
    ·rename_i y z t ts' h1 h2;have e1:=yC h1;subst e1;simp only[Mc] at hc;split at hc
     ·rename_i t0 tx h3;rw[h3] at h2;injection h2 with h2 h4;subst h2;have e2:=yC h3;subst e2;simp only[dI,aF] at mC;exact wn (by rw[ho];rfl) (step_append h hE.ti ho ⟨mC.1,mC.2.1⟩ (HY hc) hk)
     ·cases hc
    ·cases hk
   | copy=>
    simp only at hk;split at hk
    ·rename_i y z t ts' h1 h2;have e1:=yC h1;subst e1;simp only[Mc] at hc;split at hc
     ·rename_i t0 tx h3;rw[h3] at h2;injection h2 with h2 h4;subst h2;have e2:=yC h3;subst e2;simp only[dI,aF] at mC;exact wn (by rw[ho];rfl) (SW h hE.ti ho ⟨mC.1,mC.2.1⟩ (HY hc) hk)
     ·cases hc
    ·cases hk
   | _=>cases hk
  | value y=>
   cases y with
   | func f=>
    simp only at hk;split at hk
    ·rename_i g hg;split at hk
     ·rename_i qU;obtain ⟨h1,h2⟩:=hE.fn f g hg;rw[qU] at h2;refine Oper.wp_mono (λa' w' h=>⟨h.1,λe=>h.2 ?_⟩) (N_ h ho mC h1 h2 hk);grind [quiet]
     ·cases hk
    ·cases hk
   | tmp i=>
    refine wn (by rw[ho];rfl) ?_;simp only at hk;split at hk
    ·rename_i f n lT;split at hk
     ·rename_i g hg;obtain ⟨h1,h2⟩:=hE.fn f g hg;refine Oper.wp_mono (λa' w' h=>h.1) (Oa h ho mC lT h1 h2 (K:=K) (x:=x) ?_);grind
     ·cases hk
    ·cases hk
   | _=>cases hk
  | _=>cases hk
 | _=>grind [vG]
theorem XM (hE:ta P E) (h:d_ P C A σ a w F) {ip i:Nat} (dc:rK P o.op=true) {K:St->Option R} (hk:rO E ip i o σ K=some x):o.wp P a w (Nx P C K x) Q:=by
 cases qp:vG E o.op with
 | true=>exact (K6 hE h dc qp hk).wp
 | false=>grind [Oper.wp_mono,Ta]
end
end OT
namespace OT
open Go
noncomputable def yD (E:Env):Op->Option Slot
 | .alloc t=>match E.TI t with
  | some T=>if T.wl then some (.box T (ai T) [] T.zero) else none
  | none=>none
 | .buildSlice t n ps=>match E.TI t with
  | some (.aa e)=>if Nat.beq n 0&&Nat.beq ps.size 0&&e.wl then some (.own (.aa e) (.aa true (ai e)) [] []) else none
  | _=>none
 | _=>none
section
variable {P:Program} {C:Ctx} {A:Cells} {X:FP} {σ:St} {a:Act} {w:World} {F:Nat->FP} {R:Type} {x:R} {Q:Exit->Act->World->Prop} {o:Oper} {E:Env}
theorem U4 {s:Slot} (hs:yD E o.op=some s) {ip i:Nat} {K:St->Option R}:rO E ip i o σ K=K (σ.bz o.dst s):=by
 unfold yD at hs;split at hs
 ·grind [rO,p_]
 ·rename_i t n ps ho;unfold rO;simp only[ho];split at hs
  all_goals simp_all [p_,GG]
 ·cases hs
theorem Tb {N:Act->World->Prop} (hh:o.wp P a w N Q):o.wp P a w (λa' w'=>(∀ d,o.dst≠some d->tmp a' d=tmp a d)/\N a' w') Q:=by
 have key:∀ (a0:Act) v,a0.tmps=a.tmps->∀ d,o.dst≠some d->tmp (a0.put o.dst v) d=tmp a d:=λa0 v h0 d hd=>by
  unfold tmp Act.put;cases ho:o.dst <;> simp_all
 unfold Oper.wp at *;generalize (execOp a.eval o).run P w=r at *;simp_all [Oper.upon]
theorem J4 {d:Nat} (h:I4 σ d=true):d < σ.n/\σ.get d=.dead/\(∀ k,(d,k,false) ∉ σ.az)/\∀ r p snap,(d,r,p,snap) ∉ σ.gh:=by
 unfold I4 at h;simp only[aF,cC,Nat.blt_eq] at h;obtain ⟨⟨⟨h1,h2⟩,h3⟩,h4⟩:=h;refine ⟨h1,?_,λk hm=>?_,λr p snap hm=>?_⟩
 ·grind
 ·revert h3 hm
  generalize σ.az=l
  induction l with
  | nil=>grind
  | cons e l ih=>
   obtain ⟨k1,n1,b1⟩:=e;simp_all [Cw]
 ·rw[List.any_eq_false] at h4;exact h4 _ hm (by simp)
theorem Rel.tmp (h:Rel P C A X σ a w F) {d:Nat} (hp:I4 σ d=true) (v:Value):Rel P C A X σ (a.put (some d) v) w F:=by
 obtain ⟨hd,hg,hl,Wp⟩:=J4 hp;have nC:=h.size
 have ht:∀ i,i≠d->OT.tmp (a.put (some d) v) i=OT.tmp a i:=λi hi=>by
  grind [oz]
 have iU:∀ r p,place σ (a.put (some d) v) w r p=place σ a w r p:=λr p=>by
  unfold place;by_cases hr:r=d
  ·subst hr;rw[hg];rfl
  ·rw[ht r hr]
 have nP:xN σ a w σ (a.put (some d) v) w:=λr p snap hb=>⟨hb,λba=>⟨ba,λ_ pl hp=>⟨pl.H,pl.cs,by simp_all,λ_=>rfl⟩⟩⟩
 refine { h with size:=by simp[Act.put,nC],defers:=by simpa [Act.put] using h.defers,iW:=λi hi=>?_,gh:=λd' r p snap hm=>?_,oL:=λj k hm=>?_,whole:=λr t m H v' hr hk=>?_,nD:=λj k hm R hR=>?_ }
 ·by_cases hid:i=d
  ·subst hid;rw[hg];trivial
  ·rw[ht i hid];exact c8.mW nP (λ_ _ h=>h) (λ_ _ _ _ h=>h) (λ_ _ h=>h) (λ_ _ _=>⟨λ_ h=>h,rfl⟩) (h.iW i hi)
 ·rw[ht d' (λe=>by grind)];exact rG.mW nP (h.gh d' r p snap hm)
 ·rw[ht j (λe=>by grind)];exact h.oL j k hm
 ·rw[ht r (λe=>by grind)];exact h.whole r t m H v' hr hk
 ·have:j≠d:=λe=>by subst e;rw[hg] at hR;cases hR
  rw[ht j this] at hR;exact h.nD j k hm R hR
def PS (P:Program) (A:Cells) (w:World) (tv:Value):Slot->FP->Prop
 | .own t m H v,F=>∃ cs,tv=dq t cs/\ao P w A t m H v cs F
 | .box t m H v,F=>∃ b L F1,tv=.pointer (some ⟨b,0,none⟩)/\L.length=t.sz/\Has w b 0 L/\(∀ j,j < t.sz->w.frozen? ⟨b,j,none⟩=false) /\
   (∀ x i,ep b 0 t.sz x i+F1 x i<=F x i)/\ao P w A t m H v L F1/\je w b (t.sz,false)
 | _,_=>False
theorem PS.slot {tv:Value} {s:Slot} {G:FP} (h:PS P A w tv s G):c8 P A σ a w tv s G:=by
 cases s with
 | own t m H v=>exact h
 | box t m H v=>
  obtain ⟨b,L,F1,h1,h2,h3,h4,h5,h6,h7⟩:=h;exact ⟨b,0,L,F1,h1,h2,h3,λj hj=>by grind,h5,h6⟩
 | _=>exact h.elim
theorem PS.whole {tv:Value} {s:Slot} {G:FP} (h:PS P A w tv s G):∀ t m H v',s=.box t m H v'->∃ b,tv=.pointer (some ⟨b,0,none⟩)/\je w b (t.sz,false):=by
 rintro t m H v rfl;obtain ⟨b,L,F1,h1,h2,h3,h4,h5,h6,h7⟩:=h;grind
theorem PS.mW {A':Cells} {w':World} {tv:Value} {s:Slot} {G:FP} (hA:∀ b i,A b i->A' b i) (hc:∀ b i,A b i->∀ u,ce w b i=some u->ce w' b i=some u) (hb:∀ b n,je w b n->je w' b n)
  (hF:∀ b i,1<=G b i->(∀ u,ce w b i=some u->ce w' b i=some u)/\w'.frozen? ⟨b,i,none⟩=w.frozen? ⟨b,i,none⟩) (h:PS P A w tv s G):PS P A' w' tv s G:=by
 cases s with
 | own t m H v=>obtain ⟨cs,h1,h2⟩:=h;exact ⟨cs,h1,ao.mono hA hc hb t h2 (λ_ _=>aL _) (λb i hp=>(hF b i hp).1)⟩
 | box t m H v=>
  obtain ⟨b,L,F1,h1,h2,h3,h4,h5,h6,h7⟩:=h
  have hr:∀ j,j < t.sz->1<=G b j:=λj hj=>by
   grind [ep]
  exact ⟨b,L,F1,h1,h2,λj u hu=>(hF _ _ (by grind)).1 u (h3 j u hu),λj hj=>by grind,h5,
   ao.mono hA hc hb t h6 (λ_ _=>aL _) (λb i hp=>(hF b i (by grind)).1),hb _ _ h7⟩
 | _=>exact h.elim
def PF (P:Program) (E:Env) (ops:Array Oper) (A:Cells) (a:Act) (w:World):List Nat->FP->Prop
 | [],_=>True
 | j::D,X=>∃ (o:Oper) (d:Nat) (s:Slot) (Fj X':FP),ops[j]?=some o/\o.dst=some d/\yD E o.op=some s/\PS P A w (tmp a d) s Fj/\(∀ b i,X' b i+Fj b i<=X b i)/\PF P E ops A a w D X'
theorem PF.mW {ops:Array Oper} {A':Cells} {a':Act} {w':World} (hA:∀ b i,A b i->A' b i) (hc:∀ b i,A b i->∀ u,ce w b i=some u->ce w' b i=some u) (hb:∀ b n,je w b n->je w' b n) :
  ∀ (D:List Nat) {X:FP},(∀ j ∈ D,∀ o d,ops[j]?=some o->o.dst=some d->tmp a' d=tmp a d)->(∀ b i,1<=X b i->(∀ u,ce w b i=some u->ce w' b i=some u)/\w'.frozen? ⟨b,i,none⟩=w.frozen? ⟨b,i,none⟩) ->
   PF P E ops A a w D X->PF P E ops A' a' w' D X
 | [],_,_,_,_=>trivial
 | j::D,X,ht,hF,h=>by
  obtain ⟨o,d,s,Fj,X',h1,h2,h3,h4,h5,h6⟩:=h
  exact ⟨o,d,s,Fj,X',h1,h2,h3,by
   rw[ht j (by simp) o d h1 h2]
   exact PS.mW hA hc hb (λb i hp=>hF b i (by have:=h5 b i;omega)) h4,h5,PF.mW hA hc hb D (λk hk=>ht k (by simp[hk])) (λb i hp=>hF b i (by have:=h5 b i;omega)) h6⟩
theorem PF.grow {ops:Array Oper}:∀ (D:List Nat) {X X1:FP},(∀ b i,X b i<=X1 b i)->PF P E ops A a w D X->PF P E ops A a w D X1
 | [],_,_,_,_=>trivial
 | j::D,X,X1,hx,h=>by
  obtain ⟨o,d,s,Fj,X',h1,h2,h3,h4,h5,h6⟩:=h;exact ⟨o,d,s,Fj,X',h1,h2,h3,h4,λb i=>bL (h5 b i) (hx b i),h6⟩
theorem PF.take {ops:Array Oper} {j:Nat}:∀ (D:List Nat) {X:FP},j ∈ D->PF P E ops A a w D X ->
  ∃ (o:Oper) (d:Nat) (s:Slot) (Fj X':FP),ops[j]?=some o/\o.dst=some d/\yD E o.op=some s/\PS P A w (tmp a d) s Fj/\(∀ b i,X' b i+Fj b i<=X b i)/\PF P E ops A a w (D.erase j) X'
 | [],_,hj,_=>by cases hj
 | k::D,X,hj,h=>by
  by_cases Bf:k=j
  ·subst Bf;rw[List.erase_cons_head];exact h
  ·have zb:j ∈ D:=by
    rcases bB.1 hj with e | e
    ·exact absurd e.symm Bf
    ·exact e
   obtain ⟨o,d,s,Fk,X1,h1,h2,h3,h4,h5,h6⟩:=h;obtain ⟨o',d',s',Fj,X2,g1,g2,g3,g4,g5,g6⟩:=PF.take D zb h6;rw[List.erase_cons_tail (by simpa using Bf)];exact ⟨o',d',s',Fj,λb i=>X2 b i+Fk b i,g1,g2,g3,g4,λb i=>by have:=g5 b i;have:=h5 b i;show X2 b i+Fk b i+Fj b i<=X b i;omega,o,d,s,Fk,X2,h1,h2,h3,h4,λb i=>aL _,g6⟩
theorem U5 (h:Rel P C A X σ a w F) (kG:∀ i T,E.TI i=some T->bi P T (.inl i)=true) {s:Slot} (hs:yD E o.op=some s) {d:Nat} (hp:I4 σ d=true) :
  ∃ (v:Value) (w':World) (Fj:FP),(execOp a.eval o).run P w=.ok (.value v) w'/\Ext w w' (λ_ _=>0)/\Rel P C A (λb i=>X b i+Fj b i) σ (a.put (some d) v) w' F/\PS P A w' v s Fj:=by
 unfold yD at hs;split at hs
 ·rename_i t ho;split at hs
  ·rename_i T hT;split at hs
   ·rename_i SR;injection hs with hs;subst hs;have jk:=kG _ _ hT;obtain ⟨L,hL⟩:=wd T SR;obtain ⟨z,El,ze⟩:=yS (P:=P) (w:=w) jk hL;obtain ⟨r1,r2,r3⟩:=CL (P:=P) (w:=w) (A:=A) T hL jk;have hc:z.cells=L.toArray:=by grind
    have h1:=h.alloc L.toArray t (0,0);have jE:=Bb w L.toArray t (0,0) false (.inr (aL _));have hll:L.length=T.sz:=ao.length T r1;simp only[iD,hll] at jE h1;have wM:=ao.alloc h r1 (λb i hp=>by simp at hp) (pp w (.cells L.toArray t));refine ⟨.pointer (some ⟨w.heap.size,0,none⟩),w.alloc (.cells L.toArray t),ep w.heap.size 0 T.sz,?_,pp w _,h1.tmp hp _,w.heap.size,L,(λ_ _=>0),rfl,hll,Bc w L.toArray t (0,0) (λj u hu=>by simpa using hu) (ao.one _ r1),λj hj=>jE.frozen hj,λ_ _=>aL _,wM,jE⟩
    simp_all [execOp,Instr.alloc,newVar,newRow]
   ·cases hs
  ·cases hs
 ·rename_i t n ps ho;split at hs
  ·rename_i e hT;split at hs
   ·rename_i hc;injection hs with hs;subst hs;simp only[aF,eN] at hc;obtain ⟨⟨h1,h2⟩,hz⟩:=hc;subst h1;have wY:ps=#[]:=gL h2;subst wY;have hl:=kG _ _ hT;simp only[bi,aF] at hl;have h2:=hl.2;split at h2
    ·rename_i el hu;simp only[aF,dK] at h2;obtain ⟨nC,sk⟩:=h2;obtain ⟨inf,i1,i2,i3,i4⟩:=lc (nf sk)
     have kO:(execOp a.eval o).run P w=.ok (.value (.slice (some ⟨w.heap.size,0,none⟩) 0 0)) (w.alloc (.cells #[] el)):=by
      simp[execOp,ho,Instr.buildSlice,run_underlying hu,Go.sizeOf,typeInfo,i1,Instr.fill,newRow,show Array.range 0=#[] from rfl]
     have FX:=h.alloc #[] el (0,0);have jE:=Bb w #[] el (0,0) (I5 e) (.inr (aL _));refine ⟨_,_,λb i=>ep w.heap.size 0 0 b i+bg 0 (λ_ _ _=>0) b i,kO,pp w _,?_,?_⟩
     ·refine (FX.less (λb i=>?_)).tmp hp _;simp[ep,bg]
     ·refine ⟨_,(eo (.aa e) _ rfl).symm,?_⟩
      simp only[ao,hole,bV,aJ,aO,Md.own,aI,Md.e];refine ⟨_,0,rfl,aL _,bD _,(λe=>by cases e),λad lH=>?_⟩
      injection lH with lH;subst lH;refine ⟨rfl,rfl,by simpa using jE,λ_ _ _=>0,λb i=>by simp,λi y hy=>by cases hy⟩
    ·cases h2
   ·cases hs
  ·cases hs
 ·cases hs
theorem Rel.XN (h:Rel P C A X σ a w F):∃ C':Ctx,C'.w0=w/\C'.A0=A/\(∀ b i,A b i->C'.F0 b i=0)/\Rel P C' A X σ a w F/\(∀ {A2:Cells} {X2:FP} {ml:St} {a2:Act} {w2:World} {F2:Nat->FP},Rel P C' A2 X2 ml a2 w2 F2->Rel P C A2 X2 ml a2 w2 F2):=by
 refine ⟨⟨w,A,λb i=>X b i+bg σ.n F b i,C.args⟩,rfl,rfl,λb i ha=>?_,?_,λ{A2 X2 ml a2 w2 F2} h2=>?_⟩
 ·show X b i+bg σ.n F b i=0;rcases bM (X b i+bg σ.n F b i) with h0 | h0
  ·exact h0
  ·exact absurd ha (h.qb b i h0)
 ·exact { h with ext:=Ext.refl _ _,own:=λb i hp=>.inl hp,a0:=λ_ _ h=>h,a1:=λ_ _ h=>.inl h,oL:=h.oL,nD:=h.nD,wN:=h.CH λb i hp=>hp }
 ·have nC:C.w0.heap.size<=w.heap.size:=h.ext.size;refine { h2 with ext:=h.ext.trans h2.ext (λb i hb hz=>?_),own:=λb i hp=>?_,a0:=λb i ha=>h2.a0 b i (h.a0 b i ha),a1:=λb i ha=>?_,oL:=h2.oL,nD:=h2.nD,wN:=h.wN }
  ·show X b i+bg σ.n F b i=0;rcases bM (X b i+bg σ.n F b i) with h0 | h0
   ·exact h0
   ·rcases h.own b i h0 with h1 | h1 <;> omega
  ·rcases h2.own b i hp with h1 | h1
   ·exact h.own b i h1
   grind
  ·rcases h2.a1 b i ha with h1 | h1 | h1
   ·exact h.a1 b i h1
   ·exact .inr (h.own b i h1)
   grind
theorem Rel.frame (h:Rel P C A X σ a w F):∃ C1:Ctx,d_ P C1 A σ a w F/\∀ {A2:Cells} {ml:St} {a2:Act} {w2:World} {F2:Nat->FP},d_ P C1 A2 ml a2 w2 F2->Rel P C A2 X ml a2 w2 F2 /\
  (∀ b i,A b i->A2 b i)/\(∀ b i,A b i->∀ u,ce w b i=some u->ce w2 b i=some u)/\(∀ b n,je w b n->je w2 b n)/\(∀ b i,1<=X b i->(∀ u,ce w b i=some u->ce w2 b i=some u)/\w2.frozen? ⟨b,i,none⟩=w.frozen? ⟨b,i,none⟩):=by
 have hX0:∀ b i,1<=X b i->bg σ.n F b i=0:=λb i hp=>by have:=h.pk b i;omega
 have Zh:∀ b i,1<=X b i->b < w.heap.size:=λb i hp=>h.kN b i (.inl (by omega));refine ⟨⟨w,A,bg σ.n F,C.args⟩,?_,λ{A2 ml a2 w2 F2} h2=>⟨?_,h2.a0,λb i ha u hu=>?_,h2.ext.xE,λb i hp=>⟨λu hu=>h2.ext.cell b i (Zh b i hp) (hX0 b i hp) u hu,h2.ext.yP b i (Zh b i hp)⟩⟩⟩
 ·exact { h with
   pk:=λb i=>by have:=h.pk b i;grind
   qb:=λb i hp=>h.qb b i (by grind)
   kN:=λb i hp=>h.kN b i (hp.imp (λhp=>by grind) id)
   ext:=Ext.refl _ _
   own:=λb i hp=>.inl (by grind)
   a0:=λ_ _ h=>h,a1:=λ_ _ h=>.inl h,oL:=h.oL,nD:=h.nD,wN:=h.CH λb i hp=>by grind }
 ·have nC:C.w0.heap.size<=w.heap.size:=h.ext.size
  have Tc:∀ b i,1<=X b i->bg ml.n F2 b i=0:=λb i hp=>by
   rcases bM (bg ml.n F2 b i) with h0 | h0
   ·exact h0
   ·rcases h2.own b i (by grind) with h1 | h1
    all_goals grind
  have jE:∀ b i,1<=bg σ.n F b i->1<=C.F0 b i\/C.w0.heap.size<=b:=λb i hp=>h.own b i (by omega);refine { h2 with pk:=λb i=>?_,qb:=λb i hp=>?_,kN:=λb i hp=>?_,ext:=h.ext.trans h2.ext (λb i hb hz=>?_),own:=λb i hp=>?_,a0:=λb i ha=>h2.a0 b i (h.a0 b i ha),a1:=λb i ha=>?_,oL:=h2.oL,nD:=h2.nD,wN:=h.wN }
  ·have h1:0+bg ml.n F2 b i<=1:=h2.pk b i;have:=Tc b i;have:=h.pk b i;omega
  ·by_cases hx:1<=X b i
   ·intro ha;rcases h2.a1 b i ha with h1 | h1 | h1
    ·exact h.qb b i (by omega) h1
    all_goals grind
   ·exact h2.qb b i (by grind)
  ·by_cases hx:1<=X b i
   ·exact dB (Zh b i hx) h2.ext.size
   ·exact h2.kN b i (hp.imp (λhp=>by grind) id)
  ·grind
  ·by_cases hx:1<=X b i
   ·exact h.own b i (by omega)
   ·rcases h2.own b i (by grind) with h1 | h1
    all_goals grind
  ·rcases h2.a1 b i ha with h1 | h1 | h1
   ·exact h.a1 b i h1
   all_goals grind
 ·refine h2.ext.cell b i (wX hu) ?_ u hu;show bg σ.n F b i=0;rcases bM (bg σ.n F b i) with h0 | h0
  ·exact h0
  ·exact absurd ha (h.qb b i (by omega))
end
end OT
namespace OT
open Go
section
variable {P:Program} {C:Ctx} {A:Cells} {X:FP} {σ:St} {a:Act} {w:World} {F:Nat->FP} {R:Type} {x:R} {Q:Exit->Act->World->Prop} {o:Oper} {E:Env}
theorem Rel.congr (h:Rel P C A X σ a w F) {σ':St} (hn:σ'.n=σ.n) (hg:∀ i,σ'.get i=σ.get i) (hv:∀ i,σ'.kZ i=σ.kZ i) (hl:∀ e,e ∈ σ'.az↔e ∈ σ.az) (Wp:∀ e,e ∈ σ'.gh->e ∈ σ.gh):Rel P C A X σ' a w F:=by
 have nP:xN σ a w σ' a w:=λr p snap hb=>⟨by rw[hv];exact hb,λba=>by
  unfold St.ok at ba ⊢;rw[hv] at ba
  exact ⟨ba,λ_ pl iU=>⟨pl.H,pl.cs,by unfold place at iU ⊢;rw[hg];exact iU,λ_=>rfl⟩⟩⟩
 refine ⟨by rw[hn];exact h.size,h.defers,λi hi=>?_,λd r p snap hm=>rG.mW nP (h.gh d r p snap (Wp _ hm)),λb i=>by rw[hn];exact h.pk b i,λb i hp=>by rw[hn] at hp;exact h.qb b i hp,λb i hp=>by rw[hn] at hp;exact h.kN b i hp,
  λi=>by rw[hv];exact h.l8 i,h.ext,λb i hp=>by rw[hn] at hp;exact h.own b i hp,h.a0,h.a1,λj k hm=>h.oL j k ((hl _).1 hm),λr t m H v hr hk=>?_,λj k hm R hR=>?_,h.wN⟩
 ·rw[hg];exact c8.mW nP (λ_ _ h=>h) (λ_ _ _ _ h=>h) (λ_ _ h=>h) (λ_ _ _=>⟨λ_ h=>h,rfl⟩) (h.iW i (by rw[<-hn];exact hi))
 ·rw[hg] at hr;exact h.whole r t m H v hr λk hm=>hk k ((hl _).2 hm)
 ·rw[hg] at hR;exact h.nD j k ((hl _).1 hm) R hR
theorem Rel.same (h:Rel P C A X σ a w F) {t:Nat} {s:Slot} (hs:σ.get t=s):Rel P C A X (σ.lS t s) a w F:=
 h.congr rfl (λi=>by
  rw[Fz];split
  ·rename_i hc;rw[<-hs,hc.1]
  ·rfl) (λi=>rfl) (λe=>iH) (λe he=>he)
theorem Me (h:Rel P C A X σ a w F) {ops:Array Oper} {o:Oper} {K:Bool->St->Option R} (hk:D4 ops.toList σ o.guard K=some x):∃ (b:Bool) (σ':St),K b σ'=some x/\Rel P C A X σ' a w F/\Region.wanted o (yielded ops a.tmps)=b:=by
 unfold D4 at hk;split at hk
 ·rename_i hg;exact ⟨true,σ,hk,h,by simp[Region.wanted,hg]⟩
 ·rename_i j want hg;split at hk
  ·cases hk
  ·rename_i t ht;rw[dP] at ht
   have hy:∀ v,tmp a t=v->t < σ.n->yielded ops a.tmps j=match v with | .bool b=>some b | _=>none:=λv hv DW=>by
    have ax:t < a.tmps.size:=by rw[h.size];exact DW
    unfold yielded;rw[ht];have:a.tmps[t]?=some v:=by rw[iB ax,<- hv];simp[tmp,ax]
    simp only[aA,this];cases v <;> rfl
   have ax:∀ s,σ.get t=s->s≠.dead->t < σ.n:=λs hs kF=>by
    rcases cK t σ.n with hi | hi
    ·exact hi
    ·rw[mf (fZ.2 hi)] at hs;exact absurd hs.symm kF
   split at hk
   ·rename_i b Mf;have DW:=ax _ Mf (by intro e;cases e);have hs:=h.iW t DW;rw[Mf] at hs;have hv:=LS hs;have Py:=hy _ hv DW;simp only at Py
    cases b with
    | true=>exact ⟨_,_,hk,Rel.same h Mf,by simp only[Region.wanted,hg,Py];cases want <;> rfl⟩
    | false=>exact ⟨_,_,hk,Rel.same h Mf,by simp only[Region.wanted,hg,Py];cases want <;> rfl⟩
   ·rename_i Mf;have DW:=ax _ Mf (by intro e;cases e);have hs:=h.iW t DW;rw[Mf] at hs;obtain ⟨vs,Fi,h1,_⟩:=hs;have Py:=hy _ h1 DW;simp only at Py;exact ⟨false,σ,hk,h,by simp only[Region.wanted,hg,Py];cases want <;> rfl⟩
   ·cases hk
theorem Jl (h:Rel P C A X σ a w F) (o:Oper):∃ F',Rel P C A X (σ.bz o.dst (.rT [])) (a.put o.dst undef) w F':=
 h.bz o.dst (s:=.rT []) (v:=undef) (Fd:=λ_ _=>0) (X':=X) ⟨#[],λ_ _ _=>0,rfl,λb i=>by simp[bg],λj y hy=>by cases hy⟩ (λb i=>aL _) (λ_ _ _ _ e=>by cases e)
theorem Zi (hE:ta P E) {ip:Nat} {ops:Array Oper} (dc:∀ o ∈ ops.toList,rK P o.op=true) {K:St->Option R} (hQ:∀ a w,Nx P C K x a w->Q .normal a w) :
  ∀ (rest:List Oper) (i:Nat) {σ:St} {A:Cells} {a:Act} {w:World} {F:Nat->FP},ops.toList.drop i=rest->d_ P C A σ a w F->I3 E ip ops.toList rest i σ K=some x->wpOps P ops Q (List.range' i rest.length) a w:=by
 intro rest
 induction rest with
 | nil=>intro i σ A a w F hd h hk;exact hQ a w ⟨σ,hk,A,F,h⟩
 | cons o rest ih=>
  intro i σ A a w F hd h hk
  have hi:ops[i]?=some o:=by
   have:(ops.toList.drop i)[0]?=some o:=by rw[hd];rfl
   rw[bZ] at this
   simpa using this
  have tt:ops.toList.drop (i+1)=rest:=by rw[<-cU,hd];rfl
  have yT:o ∈ ops.toList:=cD (i:=i) (by simpa using hi);simp only[I3] at hk;obtain ⟨b,pM,hk,h1,hw⟩:=Me h hk;show wpOps P ops Q (i::List.range' (i+1) rest.length) a w;simp only[wpOps,hi,hw]
  cases b with
  | true=>
   simp only[aI];refine .inl (Oper.wp_mono (λa' w' hn=>?_) (XM hE h1 (dc o yT) hk));obtain ⟨ml,mJ,A2,F2,h2⟩:=hn;exact ih (i+1) tt h2 mJ
  | false=>
   simp only[aJ,aO];obtain ⟨F2,h2⟩:=Jl h1 o;exact ih (i+1) tt h2 hk
theorem Td (hE:ta P E) {ip id:Nat} {ops:Array Oper} (dc:∀ o ∈ ops.toList,rK P o.op=true) (h:d_ P C A σ a w F) {K:St->Option R} (hk:I3 E ip ops.toList ops.toList 0 σ K=some x) (hQ:∀ a w,Nx P C K x a w->Q .normal a w) :
  (Code.region id ops false).wp P Q a w:=by
 refine wp_region ?_;have:=Zi hE dc hQ ops.toList 0 (by simp) h hk
 simpa [fN] using this
def uU (P:Program) (md:Region.Mode) (ops:Array Oper) (Q:Exit->Act->World->Prop) (S:Array Bool->World->Prop):Nat->Array Bool->Act->World->Prop
 | 0,ln,a,w=>Region.ready md ops ln=[]/\Q .normal a w
 | fuel+1,ln,a,w=>
  (Region.ready md ops ln=[]->Q .normal a w) /\
  ∀ i ∈ Region.ready md ops ln,wpOp P ops Q i (λa' w'=>S (ln.setIfInBounds i true) w'/\uU P md ops Q S fuel (ln.setIfInBounds i true) a' w') a w
theorem HZ {md:Region.Mode} {ops:Array Oper} {S:Array Bool->World->Prop}:∀ (fuel:Nat) (ln:Array Bool) (a:Act) (w:World),uU P md ops Q S fuel ln a w->wpAny P md ops Q fuel ln a w
 | 0,_,_,_,h=>h
 | fuel+1,_,_,_,h=>⟨h.1,λi hi=>wpOp_mono (λa' w' h'=>HZ fuel _ a' w' h'.2) (h.2 i hi)⟩
def Ce (md:Region.Mode) (ops:Array Oper) (l:Array Bool):Prop:=∀ j o,ops[j]?=some o->l.getD j false=true->∀ e ∈ o.after,Region.binds md e=true->l.getD e.on false=true
theorem CS {md:Region.Mode} {ops:Array Oper} {l:Array Bool} (h:Ce md ops l) {j:Nat} (hj:j ∈ Region.ready md ops l):Ce md ops (l.setIfInBounds j true):=by
 obtain ⟨_,oj,H6,rJ⟩:=mem_ready.1 hj;intro k o hk hl e he hb;by_cases Bf:j=k
 ·subst Bf;rw[H6] at hk;injection hk with hk;subst hk;exact getD_set_true (rJ e he hb)
 ·rw[getD_set_ne false Bf] at hl;exact getD_set_true (h k o hk hl e he hb)
def SU (md:Region.Mode) (ops:Array Oper) (S:Array Bool->World->Prop) (i:Nat):World->Prop:=λw'=>∃ l,Ce md ops l/\l.getD i true=false/\S l w'
theorem w_ {md:Region.Mode} {ops:Array Oper} {S:Array Bool->World->Prop} {i:Nat} {oi:Oper} {v:Value} (hi:ops[i]?=some oi) (CT:∀ (j:Nat) (o:Oper) cs b,ops[j]?=some o->o.op≠.select cs b)
  (hQ:∀ c a w,Q (.panic c) (a.put oi.dst v) w->Q (.panic c) a w) (hS:∀ l w,S (l.setIfInBounds i true) w↔S l w) :
  ∀ (fuel:Nat) (ln:Array Bool) (a:Act) (w:World),
   (∀ j oj,ops[j]?=some oj->j≠i->ln.getD j true=false->(∀ e ∈ oj.after,Region.binds md e=true->e.on≠i)->oi.apart ops oj=true) ->
   i ∈ Region.ready md ops ln->Ce md ops ln->YieldsIf P ops (SU md ops S i) oi v a->S ln w ->
   uU P md ops Q S fuel (ln.setIfInBounds i true) (a.put oi.dst v) w->uU P md ops Q S (fuel+1) ln a w:=by
 intro fuel
 induction fuel with
 | zero=>
  intro ln a w _ hr hc hy hs H;have tz:ln.getD i true=false:=(mem_ready.1 hr).1;refine ⟨λh=>(by rw[h] at hr;cases hr),λj hj=>?_⟩
  by_cases oy:j=i
  ·subst oy;exact hy.wpOp hi ⟨ln,hc,tz,hs⟩ ⟨(hS _ _).2 hs,H⟩
  ·have:=ready_mono hj oy;rw[H.1] at this;cases this
 | succ fuel ih=>
  intro ln a w K7 hr hc hy hs H;have tz:ln.getD i true=false:=(mem_ready.1 hr).1;refine ⟨λh=>(by rw[h] at hr;cases hr),λj hj=>?_⟩
  by_cases oy:j=i
  ·subst oy;exact hy.wpOp hi ⟨ln,hc,tz,hs⟩ ⟨(hS _ _).2 hs,H⟩
  ·have h1:=H.2 j (ready_mono hj oy);obtain ⟨Zj,oj,H6,rJ⟩:=mem_ready.1 hj
   have Zk:∀ e ∈ oj.after,Region.binds md e=true->e.on≠i:=λe he hb heq=>by
    have h1:=rJ e he hb;have h0:=(mem_ready.1 hr).1;rw[heq] at h1;rcases cK i ln.size with h' | h'
    ·simp[h'] at h0 h1;rw[h0] at h1;cases h1
    ·simp[dY h'] at h1
   have h2:=wpOp_putIf H6 (K7 j oj H6 oy Zj Zk) (λcs b=>CT i oi cs b hi) (λcs b=>CT j oj cs b H6) hQ hy h1
   have Zl:∀ k ok,ops[k]?=some ok->k≠i->(ln.setIfInBounds j true).getD k true=false ->
     (∀ e ∈ ok.after,Region.binds md e=true->e.on≠i)->oi.apart ops ok=true:=λk ok hk hki tz oN=>by
    refine K7 k ok hk hki ?_ oN;by_cases hjk:j=k
    ·subst hjk;exact Zj
    ·rw[getD_set_ne true hjk] at tz;exact tz
   refine wpOp_mono (λa' w' h3=>?_) h2;have h4:=h3.2.1;have h5:=h3.2.2;rw[Array.setIfInBounds_comm _ _ (Ne.symm oy)] at h4 h5;have h6:=(hS _ _).1 h4;exact ⟨h6,ih (ln.setIfInBounds j true) a' w' Zl (ready_mono hr (Ne.symm oy)) (CS hc hj) h3.1 h6 h5⟩
def J5 (ops:Array Oper):Nat->Nat->Nat->Bool
 | 0,_,_=>false
 | n+1,d,i=>match ops[d]? with
  | some o=>o.after.toList.any λe=>Region.binds .any e&&(Nat.beq e.on i||J5 ops n e.on i)
  | none=>false
theorem vp {ops:Array Oper} {l:Array Bool} (h:Ce .any ops l):∀ (n d i:Nat),J5 ops n d i=true->l.getD d false=true->l.getD i false=true
 | 0,_,_,ha,_=>by cases ha
 | n+1,d,i,ha,hd=>by
  simp only[J5] at ha;split at ha
  ·rename_i o ho;obtain ⟨e,he,hb⟩:=fC.1 ha;simp only[aF,dC,eN] at hb;have hl:=h d o ho hd e (by simpa using he) hb.1;rcases hb.2 with hb | hb
   ·rw[<-hb];exact hl
   ·exact vp h n e.on i hb hl
  ·cases ha
def qv (E:Env) (ops:Array Oper) (d:Nat):Bool:=match ops[d]? with
 | some o=>!vG E o.op&&!quiet E o.op
 | none=>false
def Bg (l:Array Bool):List Nat->Array Bool
 | []=>l
 | j::js=>Bg (l.setIfInBounds j true) js
def An (E:Env) (ip:Nat) (ops:Array Oper) (pd:List Nat):List Nat->Array Bool->Bool->Bool
 | [],l,_=>(Region.ready .any ops l).isEmpty
 | i::is,l,f=>match ops[i]? with
  | none=>false
  | some o=>
   match pd.any (Nat.beq i) with
   | true=>!is.any (Nat.beq i)&&(Region.ready .any ops l).contains i&&(Region.ready .any ops (Bg l (pd.filter λj=>!Nat.beq i j))).all (λj=>pd.any (Nat.beq j))&&An E ip ops pd is (l.setIfInBounds i true) f
   | false=>
   match vG E o.op&&(Region.free .any ops l i&&(Region.ready .any ops l).contains i&&(!reads o.op||Ly E ip i||Qi E ip i||(f&&(List.range ops.size).all λd=>!qv E ops d||J5 ops ops.size d i))) with
   | true=>An E ip ops pd is (l.setIfInBounds i true) f
   | false=>(Region.ready .any ops l).contains i&&(Region.ready .any ops (Bg l pd)).all (Nat.beq i)&&An E ip ops pd is (l.setIfInBounds i true) false
noncomputable def Et (E:Env) (ops:Array Oper) (pd:List Nat):Bool:=pd.all λj=>match ops[j]? with
 | some o=>(match o.guard with
  | none=>true
  | some _=>false)&&(yD E o.op).isSome&&(match o.dst with
   | some d=>(List.range ops.size).all λk=>Nat.beq k j||(match ops[k]? with
    | some o'=>(match o'.dst with
     | some d'=>!Nat.beq d' d
     | none=>true)
    | none=>true)
   | none=>false)
 | none=>false
def H7:List Nat->Bool
 | []=>true
 | i::is=>!is.any (Nat.beq i)&&H7 is
noncomputable def Ao (E:Env) (ops:Array Oper) (pd:List Nat) (er:List (Nat×Nat)):Bool:=er.all λe=>!pd.any (Nat.beq e.1)&&(Nat.ble ops.size e.2||(qv E ops e.2&&!pd.any (Nat.beq e.2)&&J5 ops ops.size e.2 e.1))&&(match ops[e.1]? with
 | some o=>(match o.guard with
  | none=>true
  | some _=>false)&&(match o.op,o.dst with
   | .load _ (.tmp x),some d=>!Nat.beq x d&&(List.range ops.size).all λk=>Nat.beq k e.1||(match ops[k]? with
    | some o'=>(match o'.dst with
     | some d'=>!Nat.beq d' d&&(!Nat.beq d' x||J5 ops ops.size e.1 k)
     | none=>true)
    | none=>true)
   | _,_=>false)
 | none=>false)
noncomputable def Mg (E:Env) (ip:Nat) (ops:Array Oper) (is:List Nat):Bool:=
 Region.noSelect ops&&Nat.ble is.length ops.size&&(Et E ops (ox E.pd ip)&&(ox E.pd ip).all λj=>is.any (Nat.beq j))&&(H7 is&&(List.range ops.size).all (λk=>is.any (Nat.beq k))&&Ao E ops (ox E.pd ip) (Hx E.er ip))&&An E ip ops (ox E.pd ip) is (Array.replicate ops.size false) (match ox E.pd ip with
  | []=>true
  | _::_=>false)
theorem WM {K:St->Option R}:∀ (is:List Nat) {σ:St} {A:Cells} {F:Nat->FP},d_ P C A σ a w F->Pb σ is K=some x->∃ (A':Cells) (σ':St) (F':Nat->FP),K σ'=some x/\d_ P C A' σ' a w F':=by
 intro is
 induction is with
 | nil=>intro σ A F h hk;exact ⟨A,σ,F,hk,h⟩
 | cons i is ih=>
  intro σ A F h hk;simp only[Pb] at hk;split at hk
  ·rename_i t m H v hg;split at hk
   ·rename_i hc;simp only[aF,bG] at hc;obtain ⟨hH,Aj⟩:=hc;subst hH;obtain ⟨A1,F1,_,h1,_,_⟩:=SY h hg;exact ih h1 hk
   ·cases hk
  ·cases hk
theorem Rel.Zm (h:d_ P C A σ a w F):∃ C':Ctx,C'.w0=w/\C'.A0=A/\(∀ b i,A b i->C'.F0 b i=0)/\d_ P C' A σ a w F/\(∀ {A2:Cells} {ml:St} {a2:Act} {w2:World} {F2:Nat->FP},d_ P C' A2 ml a2 w2 F2->d_ P C A2 ml a2 w2 F2):=by
 have jE:∀ b i,1<=bg σ.n F b i->1<=C.F0 b i\/C.w0.heap.size<=b:=λb i hp=>h.own b i (by show 1<=0+_;omega);refine ⟨⟨w,A,bg σ.n F,C.args⟩,rfl,rfl,λb i ha=>?_,?_,λ{A2 ml a2 w2 F2} h2=>?_⟩
 ·rcases bM (bg σ.n F b i) with h0 | h0
  ·exact h0
  ·exact absurd ha (h.qb b i (by show 1<=0+_;omega))
 ·exact { h with ext:=Ext.refl _ _,own:=λb i hp=>.inl (by have hp:1<=0+bg σ.n F b i:=hp;show 1<=bg σ.n F b i;omega),a0:=λ_ _ h=>h,a1:=λ_ _ h=>.inl h,oL:=h.oL,nD:=h.nD,wN:=h.CH λb i hp=>by have hp:1<=bg σ.n F b i:=hp;show 1<=0+_;omega }
 ·have nC:C.w0.heap.size<=w.heap.size:=h.ext.size;refine { h2 with ext:=h.ext.trans h2.ext (λb i hb hz=>?_),own:=λb i hp=>?_,a0:=λb i ha=>h2.a0 b i (h.a0 b i ha),a1:=λb i ha=>?_,oL:=h2.oL,nD:=h2.nD,wN:=h.wN }
  ·show bg σ.n F b i=0;rcases bM (bg σ.n F b i) with h0 | h0
   ·exact h0
   ·rcases jE b i h0 with h1 | h1 <;> omega
  ·rcases h2.own b i hp with h1 | h1
   ·exact jE b i h1
   ·exact .inr (bL nC h1)
  ·rcases h2.a1 b i ha with h1 | h1 | h1
   ·exact h.a1 b i h1
   ·exact .inr (jE b i h1)
   ·exact .inr (.inr (bL nC h1))
theorem XO (h:d_ P C A σ a w F) (hE:ta P E) {ip i:Nat} (dc:rK P o.op=true) (qp:vG E o.op=true) (HO:Lx σ o=true) {K:St->Option R} (hk:rO E ip i o σ K=some x) :
  ∃ v,(∀ w',(∀ b i,A b i->∀ u,ce w b i=some u->ce w' b i=some u)->(execOp a.eval o).run P w'=.ok (.value v) w')/\Nx P C K x (a.put o.dst v) w:=by
 unfold Lx at HO;split at HO
 ·rename_i t y ho;split at HO
  ·rename_i t' v hv;unfold rO at hk;simp only[ho,Hv] at hk
   cases hf:UK E.fz ip i 8 with
   | true=>rw[hf] at hk;simp only[hv] at hk;cases hk
   | false=>
   rw[hf] at hk;simp only[hv,Cx] at hk;obtain ⟨T,hT,hk⟩:=gw hk;have jk:=hE.ti _ _ hT;split at hk
   ·rename_i e;subst e;rw[ho] at dc
    rcases fy h dc with hs | ⟨xs,e⟩
    rotate_left
    ·rw[e] at hv;cases hv
    rw[hv] at hs;obtain ⟨⟨b,off,sp⟩,h1,h2,L,h3,h4,h5⟩:=hs;simp only[dH,eJ] at h1;simp only at h2;subst h2;refine ⟨dq t' L,λw' s8=>?_,cm h hk ⟨L,rfl,h5⟩ (λ_ _ _ _ e=>by cases e)⟩
    simp[execOp,ho,h1,Instr.loadAt,Instr.sureAddr,ye jk (λj u hu=>s8 _ _ (h4 j u hu).2 u (h4 j u hu).1) h3 (Ro.one _ h5)]
   ·cases hk
  ·cases HO
 ·rename_i s t y ho;unfold rO at hk;simp only[ho] at hk;rw[ho] at dc;refine HN h hE.ti ho dc (λT hT=>?_) HO hk;rw[ho] at qp;simp only[vG,hT] at qp;exact qp
 ·cases HO
def BL (ops:Array Oper) (l:Array Bool) (u:Nat):Prop:=ops.size<=u\/l.getD u false=false
def SD (E:Env) (ops:Array Oper) (w0:World) (C:Ctx) (RC:List (Nat×Nat×Nat×Nat×List Value)):Array Bool->World->Prop:=λl w'=>((∀ d,qv E ops d=true->l.getD d false=false)->Ext w0 w' (λ_ _=>0))/\(∀ b i,C.A0 b i->∀ u,ce C.w0 b i=some u->ce w' b i=some u)/\∀ e ∈ RC,BL ops l e.2.1->Has w' e.2.2.1 e.2.2.2.1 e.2.2.2.2
theorem XP {next:Act->World->Prop} (h:Tk P o a w next):o.wp P a w (λa' w'=>w=w'/\next a' w') Q:=by
 obtain ⟨v,h1,h2⟩:=h;exact oA (h1 w λ_=>Ext.refl _ _) ⟨rfl,h2⟩
theorem BM {md:Region.Mode} {ops:Array Oper} {S S':Array Bool->World->Prop} (hS:∀ l w,S l w->S' l w):∀ (fuel:Nat) (ln:Array Bool) (a:Act) (w:World),uU P md ops Q S fuel ln a w->uU P md ops Q S' fuel ln a w
 | 0,_,_,_,h=>h
 | fuel+1,_,_,_,h=>⟨h.1,λi hi=>wpOp_mono (λa' w' h'=>⟨hS _ _ h'.1,BM hS fuel _ a' w' h'.2⟩) (h.2 i hi)⟩
theorem Mh (a:Act) (d:Nat):a.put (some d) (tmp a d)=a:=by
 have:a.tmps.setIfInBounds d (tmp a d)=a.tmps:=by
  unfold tmp;apply Array.ext
  ·simp
  ·intro i h1 h2;rw[gY];split
   ·rename_i e;subst e;simp[h2]
   ·rfl
 show { a with tmps:=a.tmps.setIfInBounds d (tmp a d) }=a;rw[this]
theorem aaz {ops:Array Oper} {K:St->Option R}:∀ (js:List Nat) {σ:St} {F:Nat->FP},d_ P C A σ a w F->So ops.toList σ js K=some x->∃ (σ':St) (F':Nat->FP),K σ'=some x/\d_ P C A σ' a w F':=by
 intro js
 induction js with
 | nil=>intro σ F h hk;exact ⟨σ,F,hk,h⟩
 | cons j js ih=>
  intro σ F h hk;simp only[So] at hk;split at hk
  ·rename_i d hd;obtain ⟨F1,h1⟩:=h.bz (some d) (s:=.dead) (v:=tmp a d) (Fd:=λ_ _=>0) (X':=λ_ _=>0) trivial (λb i=>aL _) (λ_ _ _ _ e=>by cases e);rw[Mh] at h1;exact ih h1 hk
  ·cases hk
theorem CU:∀ (js:List Nat) (l:Array Bool) (k:Nat) (b:Bool),(Bg l js).getD k b=if k ∈ js/\k < l.size then true else l.getD k b
 | [],l,k,b=>by simp[Bg]
 | j::js,l,k,b=>by
  rw[Bg,CU js];simp only[Array.size_setIfInBounds];by_cases h1:k ∈ js/\k < l.size
  ·rw[aM h1,aM ⟨by simp[h1.1],h1.2⟩]
  ·rw[aP h1];by_cases Bf:j=k
   ·subst Bf;by_cases ax:j < l.size
    ·rw[aM ⟨by simp,ax⟩];simp[ax]
    ·rw[aP (λh=>ax h.2)];simp[ax]
   ·rw[getD_set_ne b Bf,aP];rintro ⟨h2,h3⟩;rcases bB.1 h2 with e | e
    ·exact Bf e.symm
    ·exact h1 ⟨e,h3⟩
theorem qw {l:List Nat} {i:Nat}:l.any (Nat.beq i)=true↔i ∈ l:=by
 rw[fC];constructor
 ·rintro ⟨y,h1,h2⟩;rw[cQ h2];exact h1
 ·intro h;exact ⟨i,h,iI i⟩
theorem BN {ops:Array Oper} {pd:List Nat} (h:Et E ops pd=true) {j:Nat} (hj:j ∈ pd):∃ o d s,ops[j]?=some o/\o.guard=none/\o.dst=some d/\yD E o.op=some s/\∀ k o',ops[k]?=some o'->k≠j->o'.dst≠some d:=by
 unfold Et at h;have h:=bK.1 h j hj;split at h
 ·rename_i o ho;simp only[aF] at h;obtain ⟨⟨h1,h2⟩,h3⟩:=h;split at h3
  ·rename_i d hd;obtain ⟨s,hs⟩:=eC.1 h2;refine ⟨o,d,s,ho,?_,hd,hs,λk o' hk Bf e=>?_⟩
   ·split at h1
    ·assumption
    ·cases h1
   ·have:=bK.1 h3 k (cH.2 (cE.1 hk).1);rw[hk] at this;simp only[e,dC] at this;rcases this with h4 | h4
    ·exact Bf (cQ h4)
    ·simp at h4
  ·cases h3
 ·cases h
def RE (ops:Array Oper) (er:List (Nat×Nat)) (L:Array Bool) (a:Act) (w:World) (e:Nat×Nat×Nat×Nat×List Value):Prop:=(e.1,e.2.1) ∈ er/\L.getD e.1 false=true /\
 ∃ o t x d,ops[e.1]?=some o/\o.op=.load t (.tmp x)/\o.dst=some d/\tmp a x=.pointer (some ⟨e.2.2.1,e.2.2.2.1,none⟩)/\(tmp a d).cells.toList=e.2.2.2.2/\(BL ops L e.2.1->Has w e.2.2.1 e.2.2.2.1 e.2.2.2.2)
theorem F8:∀ {is:List Nat},H7 is=true->is.Nodup
 | [],_=>gF
 | i::is,h=>by
  simp only[H7,aF,cC] at h;refine cO.2 ⟨λhm=>?_,F8 h.2⟩;have:=h.1;rw[qw.2 hm] at this;cases this
theorem vP {E:Env} {ops:Array Oper} {pd:List Nat} {er:List (Nat×Nat)} (h:Ao E ops pd er=true) {j u:Nat} (hj:(j,u) ∈ er):j ∉ pd/\(ops.size<=u\/(qv E ops u=true/\u ∉ pd/\J5 ops ops.size u j=true))/\∃ o t x d,ops[j]?=some o/\o.guard=none/\o.op=.load t (.tmp x)/\o.dst=some d/\x≠d /\
  ∀ k o',ops[k]?=some o'->k≠j->o'.dst≠some d/\(o'.dst=some x->J5 ops ops.size j k=true):=by
 unfold Ao at h;have h1:=bK.1 h _ hj;simp only[aF,dC,cC,dK] at h1;obtain ⟨⟨h0,hu⟩,h1⟩:=h1;refine ⟨λhm=>?_,hu.imp id λq=>⟨q.1.1,λhm=>?_,q.2⟩,?_⟩
 ·rw[qw.2 hm] at h0;cases h0
 ·have q2:=q.1.2;rw[qw.2 hm] at q2;cases q2
 split at h1
 ·rename_i o ho;simp only[aF] at h1;obtain ⟨h2,h3⟩:=h1;split at h3
  ·rename_i t x d WD hd;simp only[aF,cC,bK,cH] at h3;obtain ⟨h4,h5⟩:=h3;refine ⟨o,t,x,d,ho,?_,WD,hd,(λe=>by subst e;rw[iI] at h4;cases h4),λk o' hk Bf=>?_⟩
   ·cases hg:o.guard with
    | none=>rfl
    | some g=>rw[hg] at h2;cases h2
   ·have h6:=h5 k (cE.1 hk).1;rw[hk] at h6;simp only[dC] at h6;rcases h6 with h6 | h6
    ·exact absurd (cQ h6) Bf
    ·cases tt:o'.dst with
     | none=>exact ⟨(λe=>by cases e),λe=>by cases e⟩
     | some d'=>
      rw[tt] at h6;simp only[aF,dC,cC] at h6;refine ⟨λe=>?_,λe=>?_⟩
      ·injection e with e;subst e;rw[iI] at h6;cases h6.1
      ·injection e with e;subst e;rcases h6.2 with h7 | h7
       ·rw[iI] at h7;cases h7
       ·exact h7
  ·cases h3
 ·cases h1
theorem xR:∀ {p q:Path},wF p q=true->p=q
 | [],[],_=>rfl
 | .fst::p,.fst::q,h=>by simp only[wF] at h;rw[xR h]
 | .snd::p,.snd::q,h=>by simp only[wF] at h;rw[xR h]
 | .idx i::p,.idx j::q,h=>by simp only[wF,aF] at h;rw[cQ h.1,xR h.2]
 | .qO i::p,.qO j::q,h=>by simp only[wF,aF] at h;rw[cQ h.1,xR h.2]
theorem Te (h:Rel P C A X σ a w F) {o:Oper} (ba:UO σ o=true) {t x d:Nat} (ho:o.op=.load t (.tmp x)) (hd:o.dst=some d) {b off:Nat} (hx:tmp a x=.pointer (some ⟨b,off,none⟩)):Has w b off (tmp a d).cells.toList/\d < a.tmps.size:=by
 unfold UO at ba;rw[ho,hd] at ba;simp only at ba
 have lt:∀ {i:Nat},σ.get i≠.dead->i < σ.n:=λ{i} hi=>by
  rcases cK i σ.n with h1 | h1
  ·exact h1
  ·exact absurd (mf (fZ.2 h1)) hi
 split at ba
 ·rename_i r p s Pz;split at ba
  ·rename_i r' p' s' Bh;simp only[aF] at ba;obtain ⟨⟨h1,h2,h3⟩,h4⟩:=ba;have e1:=cQ h1;have e2:=xR h4;subst e1;subst e2;have Ap:=h.iW x (lt (by rw[Pz];intro e;cases e));rw[Pz] at Ap;obtain ⟨pl,b',o',g1,g2,g3,_⟩:=Ap.2 h2;rw[hx] at g3;simp only[Value.pointer.injEq,aS,Addr.mk.injEq,eJ] at g3;obtain ⟨rfl,rfl⟩:=g3;have J6:=h.iW d (lt (by rw[Bh];intro e;cases e));rw[Bh] at J6;obtain ⟨JM,k1,k2,_⟩:=J6.2 h3;rw[g1] at k1;injection k1 with k1;subst k1;have hr:=tP g1;have iU:=g1;unfold place at iU
   cases hR:d8 w (tmp a r) (σ.get r) with
   | none=>rw[hR] at iU;cases iU
   | some R=>
    rw[hR] at iU;simp only[aA] at iU;obtain ⟨m,v,F1,q1,_,q2,_⟩:=wO (h.iW r hr) hR;obtain ⟨z1,m',v',F',z2⟩:=Pe p R.t q1 (λb o e=>(q2 b o e).1) iU;rw[k2,lu (ao.length _ z2) (ao.one _ z2)];exact ⟨z1 _ _ g2,by rw[h.size];exact lt (by rw[Bh];intro e;cases e)⟩
  ·rename_i v Bh;simp only[aF] at ba;obtain ⟨h2,hi⟩:=ba;unfold Wi at hi;split at hi;rotate_left
   ·cases hi
   rename_i bb nQ;subst hi;have Ap:=h.iW x (lt (by rw[Pz];intro e;cases e));rw[Pz] at Ap;obtain ⟨pl,b',o',g1,g2,g3,_⟩:=Ap.2 h2;rw[hx] at g3;simp only[Value.pointer.injEq,aS,Addr.mk.injEq,eJ] at g3;obtain ⟨rfl,rfl⟩:=g3;have J6:=h.iW d (lt (by rw[Bh];intro e;cases e));rw[Bh] at J6;obtain ⟨d6,k1,k2⟩:=J6;obtain ⟨hr,t',m',H',v',bu,c_,F',i1,i2,i3,i4,i5,i6⟩:=lA h nQ;rw[i3] at g1;injection g1 with g1;subst g1;simp only at g2;subst g2;obtain ⟨e,i1⟩:=cy i1;subst e;simp only[aS,bI] at i1;have hh:Has w b off bu:=by first | exact (i6 b off rfl).1 | exact i6 b off rfl | exact (i5 b off rfl).1 | exact i5 b off rfl
   have c1:bu=[.int .i64 v]:=by
    have i4:_:=i4;simp only[ao] at i4;rw[<-i1]
    first | exact i4.1 | exact i4 | exact i4.2 | simp_all
   have c2:d6=[.int .i64 v]:=k2;rw[k1,c2,lu rfl (λu hu=>by rw[bJ] at hu;subst hu;rfl)];rw[c1] at hh;exact ⟨hh,by rw[h.size];exact lt (by rw[Bh];intro e;cases e)⟩
  ·cases ba
 ·rename_i tb mb Hb vb Pz;split at ba
  ·rename_i r' p' s' Bh;simp only[aF] at ba;obtain ⟨⟨h1,h3⟩,h4⟩:=ba;have e1:=cQ h1;have e2:=xR h4;subst e1;subst e2;have J6:=h.iW d (lt (by rw[Bh];intro e;cases e));rw[Bh] at J6;obtain ⟨JM,k1,k2,_⟩:=J6.2 h3;have hr:=tP k1;have iU:=k1;unfold place at iU
   cases hR:d8 w (tmp a x) (σ.get x) with
   | none=>rw[hR] at iU;cases iU
   | some R=>
    rw[hR] at iU;simp only[aA] at iU;obtain ⟨m,v,F1,q1,_,q2,_⟩:=wO (h.iW x hr) hR;obtain ⟨z1,m',v',F',z2⟩:=Pe [] R.t q1 (λb o e=>(q2 b o e).1) iU;rw[k2,lu (ao.length _ z2) (ao.one _ z2)]
    have lH:JM.ad=some (b,off):=by
     rw[Pz,hx] at hR;simp only[d8,aS] at hR;subst hR;simp only[bn,aS] at iU;subst iU;rfl
    exact ⟨z1 _ _ lH,by rw[h.size];exact lt (by rw[Bh];intro e;cases e)⟩
  ·cases ba
 ·cases ba
theorem quiet_of {ip i:Nat} {o:Oper} {K:St->Option R} (hk:rO E ip i o σ K=some x) (hm:Ft o.op=false) (ht:vG E o.op=false):quiet E o.op=true:=by
 unfold rO at hk;cases ho:o.op <;> rw[ho] at hk hm ht <;> first | rfl | (cases hm;done) | (cases ht;done) | (simp only[reduceCtorEq] at hk;done) | skip
theorem Mi (h:d_ P C A σ a w F) (hE:ta P E) {t x0:Nat} {mv:Bool} (dc:rK P o.op=true) (ho:o.op=.load t (.tmp x0)) {K:St->Option R} (hk:Cx E σ t (d7 σ (.tmp x0)) mv o.dst K=some x) :
  ∃ b off v cs,tmp a x0=.pointer (some ⟨b,off,none⟩)/\Has w b off cs/\v.cells.toList=cs/\∀ w',Has w' b off cs->(execOp a.eval o).run P w'=.ok (.value v) w':=by
 unfold Cx at hk;obtain ⟨T,hT,hk⟩:=gw hk;have jk:=hE.ti _ _ hT
 have run:∀ b off L,a.eval (.tmp x0)=.pointer (some ⟨b,off,none⟩)->L.length=T.sz->(∀ u ∈ L,u.oneCell'=true)->∀ w',Has w' b off L->(execOp a.eval o).run P w'=.ok (.value (dq T L)) w':=λb off L hy hl qT w' hL=>by
  simp[execOp,ho,hy,Instr.loadAt,Instr.sureAddr,ye jk hL hl qT]
 rw[ho] at dc
 rcases fy h (show dO P (.tmp x0)=true from dc) with hs | ⟨xs,e⟩
 rotate_left
 ·rw[e] at hk;cases hk
 split at hk
 ·rename_i t' v hv;rw[hv] at hs;split at hk
  ·rename_i e;subst e;obtain ⟨⟨b,off,sp⟩,h1,h2,L,h3,h4,h5⟩:=hs;simp only[dH,eJ] at h1;simp only at h2;subst h2;exact ⟨b,off,dq t' L,L,h1,λj u hu=>(h4 j u hu).1,lu h3 (Ro.one _ h5),run b off L h1 h3 (Ro.one _ h5)⟩
  ·cases hk
 ·rename_i r p snap hv;rw[hv] at hs;split at hk
  ·rename_i oW;obtain ⟨hr,t',m',H',v',bu,c_,F',h1,h2,h3,h4,h5,h6⟩:=lA h hk;obtain ⟨pl,b,off,g1,g2,g3,g4⟩:=hs.2 oW;rw[h3] at g1;injection g1 with g1;subst g1;simp only at g2;subst g2;split at h1
   ·rename_i e;subst e;have hh:Has w b off bu:=by first | exact (h6 b off rfl).1 | exact h6 b off rfl | exact (h5 b off rfl).1 | exact h5 b off rfl
    exact ⟨b,off,dq t' bu,bu,g3,hh,lu (ao.length _ h4) (ao.one _ h4),run b off bu g3 (ao.length _ h4) (ao.one _ h4)⟩
   ·cases h1
  ·cases hk
 ·cases hk
theorem XQ (h:d_ P C A σ a w F) (hE:ta P E) {ip i t x0:Nat} (dc:rK P o.op=true) (ho:o.op=.load t (.tmp x0)) {K:St->Option R} (hk:rO E ip i o σ K=some x) :
  ∃ b off v cs,tmp a x0=.pointer (some ⟨b,off,none⟩)/\Has w b off cs/\v.cells.toList=cs/\∀ w',Has w' b off cs->(execOp a.eval o).run P w'=.ok (.value v) w':=by
 unfold rO at hk;simp only[ho,Hv] at hk;split at hk
 ·exact Mi h hE dc ho hk
 ·split at hk
  ·split at hk
   ·obtain ⟨A1,pM,F1,_,_,_,_,_,k1,_,k3,_⟩:=yz h hk;exact Mi k3 hE dc ho k1
   ·cases hk
  ·cases hk
structure Inv (P:Program) (E:Env) (ops:Array Oper) (pd:List Nat) (w0:World) (C:Ctx) (is:List Nat) (l:Array Bool) (f:Bool) (σ:St) (fuel:Nat) (A:Cells) (a:Act) (w:World) (X:FP) (F:Nat->FP) (D:List Nat) (L:Array Bool) (er:List (Nat×Nat)) (RC:List (Nat×Nat×Nat×Nat×List Value)):Prop where
 h:Rel P C A X σ a w F
 pf:PF P E ops A a w D X
 nd:D.Nodup
 J7:∀ j ∈ D,j ∈ pd
 dl:∀ j ∈ D,l.getD j false=false
 qb:∀ j ∈ D,j ∈ is
 WN:∀ j ∈ pd,l.getD j false=true\/j ∈ is
 WO:(is.filter λk=>decide (k ∉ D)).length<=fuel
 cl:Ce .any ops L
 hS:(∀ d,qv E ops d=true->L.getD d false=false)->Ext w0 w (λ_ _=>0)
 hf:f=true->w=w0/\pd=[]
 H8:l.size=ops.size
 Aq:L.size=ops.size
 hL:∀ k,L.getD k false=true↔(l.getD k false=true\/k ∈ D)
 Tf:is.Nodup
 Tg:∀ k,k < ops.size->l.getD k false=true\/k ∈ is
 io:∀ k ∈ is,l.getD k false=false
 rc:∀ e ∈ RC,RE ops er L a w e
theorem vq {l:Array Bool} {k:Nat} (h:k < l.size):l.getD k true=l.getD k false:=by simp[h]
theorem iv {l:Array Bool} {i k:Nat} (hi:i < l.size):(l.setIfInBounds i true).getD k false=true↔(k=i\/l.getD k false=true):=by
 by_cases hk:i=k
 ·subst hk;simp[hi]
 ·rw[getD_set_ne false hk];constructor
  ·exact .inr
  ·rintro (h | h)
   ·exact absurd h.symm hk
   ·exact h
theorem Of {D:List Nat} {j:Nat} (hD:j ∉ D):∀ (is:List Nat),j ∈ is->(is.filter λk=>decide (k ∉ j::D)).length+1<=(is.filter λk=>decide (k ∉ D)).length:=by
 have hle:∀ (is:List Nat),(is.filter λk=>decide (k ∉ j::D)).length<=(is.filter λk=>decide (k ∉ D)).length:=by
  intro is
  induction is with
  | nil=>exact aL _
  | cons i is ih=>
   simp only[fT];by_cases h1:i ∈ D
   ·have h2:i ∈ j::D:=by simp[h1]
    simp only[h1,h2,fK,aE,aJ,aO];exact ih
   ·by_cases h2:i ∈ j::D
    ·simp only[h1,h2,fK,dM,aE,aG,aJ,aO,aI,aW];omega
    ·simp only[h1,h2,dM,aG,aI,aW];omega
 intro is
 induction is with
 | nil=>intro h;cases h
 | cons i is ih=>
  intro h;simp only[fT];by_cases ui:i=j
  ·subst ui;have h2:i ∈ i::D:=by simp
   simp only[hD,h2,fK,dM,aE,aG,aJ,aO,aI,aW];have:=hle is;omega
  ·have h3:j ∈ is:=by
    rcases bB.1 h with e | e
    ·exact absurd e.symm ui
    ·exact e
   have:=ih h3;by_cases h1:i ∈ D
   ·have h2:i ∈ j::D:=by simp[h1]
    simp only[h1,h2,fK,aE,aJ,aO];exact this
   ·have h2:i ∉ j::D:=by simp[h1,ui]
    simp only[h1,h2,dM,aG,aI,aW];omega
section
variable {ops:Array Oper} {pd:List Nat} {w0:World} {is:List Nat} {l L:Array Bool} {f:Bool} {fuel:Nat} {D:List Nat} {i:Nat} {er:List (Nat×Nat)} {RC:List (Nat×Nat×Nat×Nat×List Value)}
theorem Inv.GT (v:Inv P E ops pd w0 C is l f σ fuel A a w X F D L er RC) (hi:i ∈ Region.ready .any ops l) (hD:i ∉ D):i ∈ Region.ready .any ops L:=by
 obtain ⟨h0,o,ho,rJ⟩:=mem_ready.1 hi;have ax:i < ops.size:=(cE.1 ho).1;refine mem_ready.2 ⟨?_,o,ho,λe he hb=>(v.hL _).2 (.inl (rJ e he hb))⟩;rw[vq (by rw[v.Aq];exact ax)];rw[vq (by rw[v.H8];exact ax)] at h0
 cases hh:L.getD i false with
 | false=>rfl
 | true=>
  rcases (v.hL i).1 hh with h1 | h1
  ·rw[h0] at h1;cases h1
  ·exact absurd h1 hD
theorem Inv.Eu (v:Inv P E ops pd w0 C is l f σ fuel A a w X F D L er RC) {j:Nat} {S:List Nat} (hS:∀ k ∈ D,k ∈ S) (hj:j ∈ Region.ready .any ops L) (WP:j ∉ S):j ∈ Region.ready .any ops (Bg l S):=by
 obtain ⟨h0,o,ho,rJ⟩:=mem_ready.1 hj;have ax:j < ops.size:=(cE.1 ho).1;refine mem_ready.2 ⟨?_,o,ho,λe he hb=>?_⟩
 ·rw[CU,aP (λh=>WP h.1),vq (by rw[v.H8];exact ax)];rw[vq (by rw[v.Aq];exact ax)] at h0
  cases hh:l.getD j false with
  | false=>rfl
  | true=>rw[(v.hL j).2 (.inl hh)] at h0;cases h0
 ·rw[CU];have h1:=rJ e he hb;rcases (v.hL _).1 h1 with h2 | h2
  ·split
   ·rfl
   ·exact h2
  ·have ax:e.on < L.size:=by
    rcases cK e.on L.size with h' | h'
    ·exact h'
    ·simp[dY h'] at h1
   rw[aM ⟨hS _ h2,by rw[v.H8,<- v.Aq];exact ax⟩]
theorem Inv.H9 (v:Inv P E ops pd w0 C is l f σ fuel A a w X F D L er RC) {j:Nat} (h:L.getD j true=false):j ∉ D/\l.getD j false=false/\l.getD j true=false:=by
 have ax:j < L.size:=by
  rcases cK j L.size with h' | h'
  ·exact h'
  ·simp[dY h'] at h
 rw[vq ax] at h
 have h1:l.getD j false=false:=by
  cases hh:l.getD j false with
  | false=>rfl
  | true=>rw[(v.hL j).2 (.inl hh)] at h;cases h
 have h2:j ∉ D:=λhD=>by
  rw[(v.hL j).2 (.inr hD)] at h;cases h
 exact ⟨h2,h1,by rw[vq (by rw[v.H8,<- v.Aq];exact ax)];exact h1⟩
theorem Inv.next (v:Inv P E ops pd w0 C (i::is) l f σ (fuel+1) A a w X F D L er RC) (hD:i ∉ D) (hr:i ∈ Region.ready .any ops L) {C2:Ctx} {f2:Bool} {ml:St} {A2:Cells} {a2:Act} {w2:World} {F2:Nat->FP}
  (h2:Rel P C2 A2 X ml a2 w2 F2) (hp:PF P E ops A2 a2 w2 D X) (hS2:(∀ d,qv E ops d=true->(L.setIfInBounds i true).getD d false=false)->Ext w0 w2 (λ_ _=>0)) (hf2:f2=true->w2=w0/\pd=[]) {RC2:List (Nat×Nat×Nat×Nat×List Value)} (hrc:∀ e ∈ RC2,RE ops er (L.setIfInBounds i true) a2 w2 e) :
  Inv P E ops pd w0 C2 is (l.setIfInBounds i true) f2 ml fuel A2 a2 w2 X F2 D (L.setIfInBounds i true) er RC2:=by
 obtain ⟨_,o,ho,_⟩:=mem_ready.1 hr;have ax:i < ops.size:=(cE.1 ho).1;have Ar:i < l.size:=by rw[v.H8];exact ax
 have As:i < L.size:=by rw[v.Aq];exact ax
 refine ⟨h2,hp,v.nd,v.J7,λj hj=>?_,λj hj=>?_,λj hj=>?_,?_,CS v.cl hr,hS2,hf2,by simpa using v.H8,by simpa using v.Aq,λk=>?_,(cO.1 v.Tf).2,λk hk=>?_,λk hk=>?_,hrc⟩
 ·rw[getD_set_ne false (λe=>by subst e;exact hD hj)];exact v.dl j hj
 ·rcases bB.1 (v.qb j hj) with e | e
  ·subst e;exact absurd hj hD
  ·exact e
 ·rcases v.WN j hj with h | h
  ·exact .inl ((iv Ar).2 (.inr h))
  ·rcases bB.1 h with e | e
   ·exact .inl ((iv Ar).2 (.inl e))
   ·exact .inr e
 ·have:=v.WO;simp only[fT,hD,dM,aG,aI,aW] at this;omega
 ·rw[iv As,iv Ar,v.hL];exact or_assoc.symm
 ·rcases v.Tg k hk with h | h
  ·exact .inl ((iv Ar).2 (.inr h))
  ·rcases bB.1 h with e | e
   ·exact .inl ((iv Ar).2 (.inl e))
   ·exact .inr e
 ·rw[getD_set_ne false (λe=>by subst e;exact (cO.1 v.Tf).1 hk)];exact v.io k (bF _ hk)
theorem Inv.QR (v:Inv P E ops pd w0 C (i::is) l f σ fuel A a w X F D L er RC) (hD:i ∈ D) (s9:i ∉ is) {ml:St} {X2:FP} {F2:Nat->FP} (h2:Rel P C A X2 ml a w F2) (hp:PF P E ops A a w (D.erase i) X2) :
  Inv P E ops pd w0 C is (l.setIfInBounds i true) f ml fuel A a w X2 F2 (D.erase i) L er RC:=by
 have As:i < L.size:=by
  have h1:=(v.hL i).2 (.inr hD);rcases cK i L.size with h' | h'
  ·exact h'
  ·simp[dY h'] at h1
 have Ar:i < l.size:=by rw[v.H8,<- v.Aq];exact As
 have DV:∀ k,k ∈ D.erase i↔k≠i/\k ∈ D:=λk=>v.nd.mem_erase_iff;refine ⟨h2,hp,v.nd.erase _,λj hj=>v.J7 j ((DV j).1 hj).2,λj hj=>?_,λj hj=>?_,λj hj=>?_,?_,v.cl,v.hS,v.hf,by simpa using v.H8,v.Aq,λk=>?_,(cO.1 v.Tf).2,λk hk=>?_,λk hk=>?_,v.rc⟩
 ·obtain ⟨h3,h4⟩:=(DV j).1 hj;rw[getD_set_ne false (λe=>h3 e.symm)];exact v.dl j h4
 ·obtain ⟨h3,h4⟩:=(DV j).1 hj;rcases bB.1 (v.qb j h4) with e | e
  ·exact absurd e h3
  ·exact e
 ·rcases v.WN j hj with h | h
  ·exact .inl ((iv Ar).2 (.inr h))
  ·rcases bB.1 h with e | e
   ·exact .inl ((iv Ar).2 (.inl e))
   ·exact .inr e
 ·have:=v.WO;simp only[fT,hD,fK,aE,aJ,aO] at this;refine bL (gZ (cP List.length (List.filter_congr λk hk=>?_))) this;have:k≠i:=λe=>by subst e;exact s9 hk
  simp only[DV,this,ne_eq,dM,dQ]
 ·rw[v.hL,iv Ar,DV];constructor
  ·rintro (h | h)
   ·exact .inl (.inr h)
   ·by_cases hk:k=i
    ·exact .inl (.inl hk)
    ·exact .inr ⟨hk,h⟩
  ·rintro ((h | h) | h)
   ·subst h;exact .inr hD
   ·exact .inl h
   ·exact .inr h.2
 ·rcases v.Tg k hk with h | h
  ·exact .inl ((iv Ar).2 (.inr h))
  ·rcases bB.1 h with e | e
   ·exact .inl ((iv Ar).2 (.inl e))
   ·exact .inr e
 ·rw[getD_set_ne false (λe=>by subst e;exact s9 hk)];exact v.io k (bF _ hk)
theorem unl {j:Nat} (ax:j < L.size) {k:Nat} (hu:(L.setIfInBounds j true).getD k false=false):L.getD k false=false:=by
 cases hl:L.getD k false with
 | false=>rfl
 | true=>rw[(iv ax).2 (.inr hl)] at hu;cases hu
theorem Inv.yN (v:Inv P E ops pd w0 C is l f σ fuel A a w X F D L er RC) (vO:Ao E ops pd er=true) {j:Nat} {o':Oper} (hj:ops[j]?=some o') (tz:L.getD j false=false) {a2:Act} {w2:World}
  (ht:∀ d,o'.dst≠some d->tmp a2 d=tmp a d) (hh:∀ e ∈ RC,BL ops (L.setIfInBounds j true) e.2.1->Has w2 e.2.2.1 e.2.2.2.1 e.2.2.2.2):∀ e ∈ RC,RE ops er (L.setIfInBounds j true) a2 w2 e:=by
 intro e he;obtain ⟨h1,h2,o,t,x,d,h3,h4,h5,h6,h7,h8⟩:=v.rc e he;obtain ⟨_,_,o1,t1,x1,d1,g1,_,g2,g3,_,g4⟩:=vP vO h1;rw[h3] at g1;injection g1 with g1;subst g1;rw[h4] at g2;injection g2 with _ g2;injection g2 with g2;subst g2;rw[h5] at g3;injection g3 with g3;subst g3;have kF:j≠e.1:=λe'=>by rw[e'] at tz;rw[h2] at tz;cases tz
 obtain ⟨k1,k2⟩:=g4 j o' hj kF
 have k3:o'.dst≠some x:=λe'=>by
  have:=vp v.cl _ _ _ (k2 e') h2;rw[this] at tz;cases tz
 exact ⟨h1,by rw[getD_set_ne false kF];exact h2,o,t,x,d,h3,h4,h5,by rw[ht x k3];exact h6,by rw[ht d k1];exact h7,hh e he⟩
theorem Inv.still (v:Inv P E ops pd w0 C (i::is) l f σ fuel A a w X F D L er RC) (vO:Ao E ops pd er=true) {ip:Nat} (Mj:Hx E.er ip=er) {o':Oper} (hj:ops[i]?=some o') (tz:L.getD i false=false) {C2:Ctx} {A2:Cells} {X2:FP} {ml:St} {a2:Act} {w2:World} {F2:Nat->FP} (h2:Rel P C2 A2 X2 ml a2 w2 F2)
  (ht:∀ d,o'.dst≠some d->tmp a2 d=tmp a d) (gf:Ft o'.op=false->Ext w w2 (λ_ _=>0)) (Jm:Hy E ip ops.toList i o' is ml=true):∀ e ∈ RC,BL ops (L.setIfInBounds i true) e.2.1->Has w2 e.2.2.1 e.2.2.2.1 e.2.2.2.2:=by
 intro e he hu;obtain ⟨g1,g2,o,t,x,d,g3,g4,g5,g6,g7,g8⟩:=v.rc e he;have As:i < L.size:=by rw[v.Aq];exact (cE.1 hj).1
 have huL:BL ops L e.2.1:=hu.imp id λhu=>by
  cases hl:L.getD e.2.1 false with
  | false=>rfl
  | true=>rw[(iv As).2 (.inr hl)] at hu;cases hu
 cases hm:Ft o'.op with
 | false=>exact (g8 huL).ext (gf hm)
 | true=>
  simp only[Hy,hm,hJ,aN,cZ,Qj,Mj,bK] at Jm;have:=Jm _ g1;obtain ⟨Th,hu2,o1,t1,x1,d1,k1,_,k2,k3,_,k4⟩:=vP vO g1;rw[g3] at k1;injection k1 with k1;subst k1;rw[g4] at k2;injection k2 with _ k2;injection k2 with k2;subst k2;rw[g5] at k3;injection k3 with k3;subst k3;have kF:i≠e.1:=λe'=>by rw[e'] at tz;rw[g2] at tz;cases tz
  have hl:l.getD e.1 false=true:=((v.hL e.1).1 g2).resolve_right λhD=>Th (v.J7 _ hD)
  have U6:is.any (Nat.beq e.1)=false:=by
   cases hb:is.any (Nat.beq e.1) with
   | false=>rfl
   | true=>
    have:=v.io e.1 (bF _ (qw.1 hb));rw[hl] at this;cases this
  have U7:(is.any (Nat.beq e.2.1)||Nat.ble ops.toList.length e.2.1)=true:=by
   rcases cK e.2.1 ops.size with h9 | h9
   ·have Zn:=huL.resolve_left (by omega)
    have hui:e.2.1≠i:=λe'=>by
     have:=hu.resolve_left (by omega);rw[(iv As).2 (.inl e')] at this;cases this
    rcases v.Tg _ h9 with F7 | F7
    ·rw[(v.hL _).2 (.inl F7)] at Zn;cases Zn
    ·rcases bB.1 F7 with Ti | Ti
     ·exact absurd Ti hui
     ·rw[qw.2 Ti,hJ]
   ·have:Nat.ble ops.toList.length e.2.1=true:=by simpa using h9
    rw[this,iJ]
  rw[U6,U7,aN,cZ,cZ,dP,g3] at this;simp only at this;obtain ⟨q1,q2⟩:=k4 i o' hj kF
  have q3:o'.dst≠some x:=λe'=>by
   have:=vp v.cl _ _ _ (q2 e') g2;rw[this] at tz;cases tz
  have hx:tmp a2 x=.pointer (some ⟨e.2.2.1,e.2.2.2.1,none⟩):=by rw[ht x q3];exact g6
  obtain ⟨z1,z2⟩:=Te h2 this g4 g5 hx;rw[ht d q1,g7] at z1;exact z1
theorem Inv.early (hE:ta P E) (wY:Et E ops pd=true) {ip:Nat} (Th:ox E.pd ip=pd) (vO:Ao E ops pd er=true) (rJ:Qk E ip ops.toList is σ=true) (hC:∀ b i,C.A0 b i->C.F0 b i=0)
  (v:Inv P E ops pd w0 C is l f σ (fuel+1) A a w X F D L er RC) {j:Nat} (hj:j ∈ pd) (hr:j ∈ Region.ready .any ops L) {S:Array Bool->World->Prop}
  (hS:∀ w',Ext w w' (λ_ _=>0)->((∀ d,qv E ops d=true->(L.setIfInBounds j true).getD d false=false)->Ext w0 w' (λ_ _=>0))->S (L.setIfInBounds j true) w')
  (next:∀ (a':Act) (w':World) (X':FP),Inv P E ops pd w0 C is l f σ fuel A a' w' X' F (j::D) (L.setIfInBounds j true) er RC->uU P .any ops Q S fuel (L.setIfInBounds j true) a' w') :
  wpOp P ops Q j (λa' w'=>S (L.setIfInBounds j true) w'/\uU P .any ops Q S fuel (L.setIfInBounds j true) a' w') a w:=by
 obtain ⟨o,d,s,ho,hg,hd,hs,kF⟩:=BN wY hj;have As:j < L.size:=by rw[v.Aq];exact (cE.1 ho).1
 obtain ⟨Zo,PA,_⟩:=v.H9 (mem_ready.1 hr).1;have U8:j ∈ is:=(v.WN j hj).resolve_left (by rw[PA];simp)
 have ba:I4 σ d=true:=by
  unfold Qk at rJ;rw[Th] at rJ;have:=bK.1 rJ j hj;rw[dP,ho,qw.2 U8] at this
  simpa [hd] using this
 obtain ⟨val,w',Fj,kO,gf,h2,hPS⟩:=U5 (o:=o) v.h hE.ti hs ba
 have uV:(∀ d,qv E ops d=true->(L.setIfInBounds j true).getD d false=false)->Ext w0 w' (λ_ _=>0):=λBi=>(v.hS λd' tt=>by
  cases hh:L.getD d' false with
  | false=>rfl
  | true=>rw[<-Bi d' tt,(iv As).2 (.inr hh)]).trans gf (λ_ _ _ _=>rfl)
 have hw:Region.wanted o (yielded ops a.tmps)=true:=by simp[Region.wanted,hg]
 unfold wpOp;simp only[ho,hw,aI];refine .inl (oA kO ⟨hS w' gf uV,?_⟩);rw[hd];have hdn:d < σ.n:=(J4 ba).1
 refine next _ _ (λb i=>X b i+Fj b i) ⟨h2,⟨o,d,s,Fj,X,ho,hd,hs,?_,λb i=>aL _,?_⟩,cO.2 ⟨Zo,v.nd⟩,?_,?_,?_,v.WN,?_,CS v.cl hr,uV,λhf=>?_,v.H8,by simpa using v.Aq,λk=>?_,v.Tf,v.Tg,v.io,v.yN vO ho (by have:=(mem_ready.1 hr).1;rw[vq As] at this;exact this) (λd' tt=>by rw[oz,aP (λe=>tt (by rw[hd,e.1]))]) (λe he hu=>by
  obtain ⟨_,_,_,_,_,_,_,_,_,_,_,q⟩:=v.rc e he
  exact (q (hu.imp id λhu=>unl As hu)).ext gf)⟩
 ·have:tmp (a.put (some d) val) d=val:=by rw[oz,v.h.size,aM ⟨rfl,hdn⟩]
  rw[this];exact hPS
 ·refine PF.mW (λ_ _ h=>h) (λb i ha u hu=>gf.cell b i (wX hu) rfl u hu) gf.xE D (λk hk o' d' Bj tt=>?_) (λb i hp=>⟨λu hu=>gf.cell b i (wX hu) rfl u hu,gf.yP b i (v.h.kN b i (.inl (by omega)))⟩) v.pf;have:d'≠d:=λe=>kF k o' Bj (λe'=>by subst e';exact Zo hk) (by rw[tt,e]);rw[oz,aP (λh=>this h.1.symm)]
 ·intro k hk;rcases bB.1 hk with e | e
  ·subst e;exact hj
  ·exact v.J7 k e
 ·intro k hk;rcases bB.1 hk with e | e
  ·subst e;exact PA
  ·exact v.dl k e
 ·intro k hk;rcases bB.1 hk with e | e
  ·subst e;exact U8
  ·exact v.qb k e
 ·have:=Of Zo is U8;have:=v.WO;omega
 ·have:=(v.hf hf).2;rw[this] at hj;cases hj
 ·rw[iv As,v.hL,bB];constructor
  ·rintro (h | h | h)
   ·exact .inr (.inl h)
   ·exact .inl h
   ·exact .inr (.inr h)
  ·rintro (h | h | h)
   ·exact .inr (.inl h)
   ·exact .inl h
   ·exact .inr (.inr h)
theorem Tj (hE:ta P E) {ip:Nat} (dc:∀ o ∈ ops.toList,rK P o.op=true) {K:St->Option R} (hP:∀ c a w,¬ Q (.panic c) a w) (CT:Region.noSelect ops=true) (wY:Et E ops pd=true) (Th:ox E.pd ip=pd) {er:List (Nat×Nat)} (Mj:Hx E.er ip=er) (vO:Ao E ops pd er=true) :
  ∀ (is:List Nat) (l:Array Bool) (f:Bool) {C:Ctx} {σ:St},(∀ a w,Nx P C K x a w->Q .normal a w)->(∀ b i,C.A0 b i->C.F0 b i=0)->An E ip ops pd is l f=true->D5 E ip ops.toList is σ K=some x ->
   ∀ (fuel:Nat) {A:Cells} {a:Act} {w:World} {X:FP} {F:Nat->FP} {D:List Nat} {L:Array Bool} {RC:List (Nat×Nat×Nat×Nat×List Value)},Inv P E ops pd w0 C is l f σ fuel A a w X F D L er RC->uU P .any ops Q (SD E ops w0 C RC) fuel L a w:=by
 intro is
 induction is with
 | nil=>
  intro l f C σ hQ hC hg hk fuel A a w X F D L RC v;simp only[An,bG] at hg
  have hD:D=[]:=by
   cases D with
   | nil=>rfl
   | cons j D=>have:=v.qb j (by simp);cases this
  subst hD
  have hr:Region.ready .any ops L=[]:=by
   rw[List.eq_nil_iff_forall_not_mem];intro j hj;have:=v.Eu (S:=[]) (λ_ h=>h) hj (by simp);rw[Bg,hg] at this;cases this
  have hq:=hQ a w ⟨σ,hk,A,F,v.h.less λ_ _=>bD _⟩
  cases fuel with
  | zero=>exact ⟨hr,hq⟩
  | succ fuel=>exact ⟨λ_=>hq,by rw[hr];simp⟩
 | cons i is ih=>
  intro l f C σ hQ hC hg hk;simp only[D5] at hk;split at hk
  ·cases hk
  rename_i rJ;simp only[An] at hg
  cases hi:ops[i]? with
  | none=>rw[hi] at hg;cases hg
  | some o=>
  rw[dP,hi] at hk;rw[hi] at hg;simp only at hk hg;have L4:i < ops.size:=(cE.1 hi).1;have yT:o ∈ ops.toList:=cD (i:=i) (by simpa using hi)
  have QR:∀ (fuel:Nat) {A:Cells} {a:Act} {w:World} {X:FP} {F:Nat->FP} {D:List Nat} {L:Array Bool} {RC:List (Nat×Nat×Nat×Nat×List Value)},Inv P E ops pd w0 C (i::is) l f σ fuel A a w X F D L er RC->i ∈ D->uU P .any ops Q (SD E ops w0 C RC) fuel L a w:=by
   intro fuel A a w X F D L RC v hD;have Bk:=v.J7 i hD;rw[qw.2 Bk] at hg;simp only[aF,cC] at hg;obtain ⟨⟨⟨s9,_⟩,_⟩,hg⟩:=hg;have s9:i ∉ is:=λhm=>by rw[qw.2 hm] at s9;cases s9
   obtain ⟨o',d',s',Bj,hgd,tt,hs',_⟩:=BN wY Bk;rw[hi] at Bj;injection Bj with Bj;subst Bj;obtain ⟨o2,d,s,Fi,X',g1,g2,g3,g4,g5,g6⟩:=PF.take D hD v.pf;rw[hi] at g1;injection g1 with g1;subst g1;simp only[D4,hgd] at hk;split at hk
   ·cases hk
   rw[U4 g3,g2] at hk;split at hk;rotate_left
   ·cases hk
   obtain ⟨F2,h2⟩:=v.h.bz (some d) g4.slot g5 g4.whole;rw[Mh] at h2;exact ih _ f hQ hC hg hk fuel (v.QR hD s9 h2 g6)
  intro fuel
  induction fuel with
  | zero=>
   intro A a w X F D L RC v;by_cases hD:i ∈ D
   ·exact QR 0 v hD
   ·have:=v.WO;simp[fT,hD] at this
  | succ fuel ihf=>
  intro A a w X F D L RC v;by_cases hD:i ∈ D
  ·exact QR _ v hD
  have H_:∀ e ∈ RC,BL ops L e.2.1->Has w e.2.2.1 e.2.2.2.1 e.2.2.2.2:=λe he=>by obtain ⟨_,_,_,_,_,_,_,_,_,_,_,q⟩:=v.rc e he;exact q
  have abr:∀ w',Ext w w' (λ_ _=>0)->∀ (l':Array Bool),(∀ k,l'.getD k false=false->L.getD k false=false)->((∀ d,qv E ops d=true->l'.getD d false=false)->Ext w0 w' (λ_ _=>0))->SD E ops w0 C RC l' w':=λw' s8 l' wy hh=>⟨hh,(λb i ha u hu=>by
   have:=v.h.ext.cell b i (wX hu) (hC b i ha) u hu
   exact s8.cell b i (wX this) rfl u this),λe he hu=>(H_ e he (hu.imp id (wy _))).ext s8⟩
  have Tl:∀ j,j ∈ pd->j ∈ Region.ready .any ops L->wpOp P ops Q j (λa' w'=>SD E ops w0 C RC (L.setIfInBounds j true) w'/\uU P .any ops Q (SD E ops w0 C RC) fuel (L.setIfInBounds j true) a' w') a w:=λj hj hr=>
   v.early hE wY Th vO rJ hC hj hr (λw' s8 hh=>abr w' s8 _ (λk hk=>unl (by rw[v.Aq];obtain ⟨_,oj,H6,_⟩:=mem_ready.1 hr;exact (cE.1 H6).1) hk) hh) (λa' w' X' v'=>ihf v')
  have Mk:SD E ops w0 C RC L w:=⟨v.hS,(λb i ha u hu=>v.h.ext.cell b i (wX hu) (hC b i ha) u hu),H_⟩
  cases Au:pd.any (Nat.beq i) with
  | true=>
   rw[Au] at hg;simp only[aF,cC,bK] at hg;obtain ⟨⟨⟨s9,Bl⟩,Jm⟩,hg⟩:=hg;have tS:i ∈ Region.ready .any ops L:=v.GT (by simpa using Bl) hD;refine ⟨λh0=>(by rw[h0] at tS;cases tS),λj hj=>Tl j ?_ hj⟩
   by_cases WP:j ∈ pd.filter (λj=>!Nat.beq i j)
   ·exact (List.mem_filter.1 WP).1
   ·refine qw.1 (Jm j (v.Eu (λk hk=>List.mem_filter.2 ⟨v.J7 k hk,?_⟩) hj WP))
    cases hb:Nat.beq i k with
    | false=>rfl
    | true=>rw[cQ hb] at hD;exact absurd hk hD
  | false=>
  rw[Au] at hg;simp only at hg;have aco:i ∉ pd:=λhm=>by rw[qw.2 hm] at Au;cases Au
  have U9:∀ j ∈ D,∀ o' d,ops[j]?=some o'->o'.dst=some d->o.dst≠some d:=λj hj o' d Bj tt=>by
   obtain ⟨o2,d2,s2,g1,_,g2,_,g3⟩:=BN wY (v.J7 j hj);rw[Bj] at g1;injection g1 with g1;subst g1;rw[tt] at g2;injection g2 with g2;subst g2;exact g3 i o hi (λe=>by subst e;exact hD hj)
  obtain ⟨b,pM,hk,h1,hw⟩:=Me v.h hk
  have J0:(match (generalizing:=false) b with
    | true=>rO E ip i o pM λσ=>match Hy E ip ops.toList i o is σ with
     | true=>D5 E ip ops.toList is σ K
     | false=>none
    | false=>D5 E ip ops.toList is (pM.bz o.dst (.rT [])) K)=some x/\(b=true->Ly E ip i=true->Lx pM o=true):=by
   cases b with
   | true=>
    simp only at hk
    cases hn:(Ly E ip i&&!Lx pM o) with
    | true=>rw[hn] at hk;cases hk
    | false=>
     rw[hn] at hk;exact ⟨hk,λ_ HO=>by rw[HO] at hn;simpa using hn⟩
   | false=>exact ⟨hk,λe=>by cases e⟩
  obtain ⟨hk,abs⟩:=J0
  have Ac:∀ (val:Value),∀ j ∈ D,∀ o' d,ops[j]?=some o'->o'.dst=some d->tmp (a.put o.dst val) d=tmp a d:=λval j hj o' d Bj tt=>by
   have:=U9 j hj o' d Bj tt
   cases Zp:o.dst with
   | none=>rfl
   | some e=>rw[oz,aP (λh=>this (by rw[Zp,h.1]))]
  split at hg
  ·rename_i WQ;simp only[aF,dC,cC,bK,cH] at WQ;obtain ⟨qp,⟨K7,Ml⟩,Bl⟩:=WQ;have tS:i ∈ Region.ready .any ops L:=v.GT (by simpa using Ml) hD;have Ia:∀ j oj,ops[j]?=some oj->j≠i->L.getD j true=false->(∀ e ∈ oj.after,Region.binds .any e=true->e.on≠i)->o.apart ops oj=true:=λj oj H6 oy tz oN=>Region.free_spec hi K7 j oj H6 oy (v.H9 tz).2.2 oN;have vQ:qv E ops i=false:=by simp[qv,hi,qp]
   have Bi:∀ (l':Array Bool),(∀ d,qv E ops d=true->(l'.setIfInBounds i true).getD d false=false)↔∀ d,qv E ops d=true->l'.getD d false=false:=λl'=>by
    constructor
    ·intro hh d hd;have:=hh d hd;rw[getD_set_ne false (λe=>by subst e;rw[vQ] at hd;cases hd)] at this;exact this
    ·intro hh d hd;rw[getD_set_ne false (λe=>by subst e;rw[vQ] at hd;cases hd)];exact hh d hd
   have WR:∀ (C:Ctx) (RC:List (Nat×Nat×Nat×Nat×List Value)),(∀ e ∈ RC,(e.1,e.2.1) ∈ er)->∀ l w,SD E ops w0 C RC (l.setIfInBounds i true) w↔SD E ops w0 C RC l w:=λC RC i7 l' w'=>by
    unfold SD;rw[Bi];refine and_congr iH (and_congr iH (forall_congr' λe=>forall_congr' λhe=>?_))
    have kF:i≠e.2.1:=λe'=>by
     rcases (vP vO (i7 e he)).2.1 with h | ⟨h,_⟩
     ·omega
     ·rw[<-e',vQ] at h;cases h
    unfold BL;rw[getD_set_ne false kF]
   have i7:∀ e ∈ RC,(e.1,e.2.1) ∈ er:=λe he=>(v.rc e he).1
   have aaA:∀ {l':Array Bool} {u:Nat},(∃ j,(j,u) ∈ er)->(BL ops (l'.setIfInBounds i true) u->BL ops l' u):=λ{l' u} ⟨j,hj⟩ hu=>by
    have kF:i≠u:=λe'=>by
     rcases (vP vO hj).2.1 with h | ⟨h,_⟩
     ·omega
     ·rw[<-e',vQ] at h;cases h
    unfold BL at hu ⊢
    rwa [getD_set_ne false kF] at hu
   have WS:(∀ d,qv E ops d=true->(L.setIfInBounds i true).getD d false=false)->Ext w0 w (λ_ _=>0):=λhd=>v.hS ((Bi L).1 hd)
   have GU:L.getD i false=false:=by
    have h0:=(mem_ready.1 tS).1;rw[vq (by rw[v.Aq];exact L4)] at h0;exact h0
   have FE:∀ (val:Value),∀ e ∈ RC,RE ops er (L.setIfInBounds i true) (a.put o.dst val) w e:=λval=>v.yN vO hi GU (λd hd=>by
    cases ho:o.dst with
    | none=>rfl
    | some d'=>rw[oz,aP (λe=>hd (by rw[ho,e.1]))]) (λe he hu=>H_ e he (aaA ⟨_,i7 e he⟩ hu))
   cases b with
   | true=>
    simp only at hk
    cases Zq:Ly E ip i with
    | true=>
     obtain ⟨C',c1,c2,c3,c4,c5⟩:=h1.XN;obtain ⟨C1,f1,f2⟩:=c4.frame;obtain ⟨val,kO,ml,mJ,A2,F2,h2⟩:=XO f1 hE (dc o yT) qp (abs rfl Zq) hk;simp only at mJ;split at mJ;rotate_left
     ·cases mJ
     have Zr:∀ b i,C'.A0 b i->C'.F0 b i=0:=λb i ha=>c3 b i (by rw[<-c2];exact ha);obtain ⟨e1,e2,e3,e4,e5⟩:=f2 h2
     refine BM (S:=SD E ops w0 C' RC) (λl' w' hs=>⟨hs.1,(λb i ha u hu=>hs.2.1 b i (by rw[c2];exact h1.a0 b i ha) u (by rw[c1];exact h1.ext.cell b i (wX hu) (hC b i ha) u hu)),hs.2.2⟩) _ _ _ _
      (w_ hi (Region.noSelect_spec CT) (λc a w hq=>(hP c _ _ hq).elim) (WR C' RC i7) fuel L a w Ia tS v.cl (.inl ⟨hw,λw' uV=>kO w' λb i ha u hu=>?_⟩) ⟨v.hS,(λb i ha u hu=>by rw[c1] at hu;exact hu),H_⟩
      (ih _ f (λa w ⟨A_,q1,A3,F3,q2⟩=>hQ a w ⟨A_,q1,A3,F3,c5 q2⟩) Zr hg mJ fuel (v.next hD tS e1 (PF.mW e2 e3 e4 D (Ac val) e5 v.pf) WS v.hf (FE val))))
     obtain ⟨l',zV,tz,uV⟩:=uV;exact uV.2.1 b i (by rw[c2];exact ha) u (by rw[c1];exact hu)
    | false=>
    cases Mm:Qi E ip i with
    | true=>
     obtain ⟨u,K8⟩:∃ u,(i,u) ∈ er:=by
      unfold Qi at Mm;rw[Mj] at Mm;obtain ⟨e,he1,PB⟩:=fC.1 Mm;rw[cQ PB];exact ⟨e.2,he1⟩
     obtain ⟨_,hu0,o1,t1,x1,d1,g1,_,g2,g3,g4,_⟩:=vP vO K8;rw[hi] at g1;injection g1 with g1;subst g1;obtain ⟨C1,f1,f2⟩:=h1.frame;obtain ⟨b0,off,abt,cs,q1,q2,q3,q4⟩:=XQ f1 hE (dc o yT) g2 hk;obtain ⟨val,kO,ml,mJ,A2,F2,h2⟩:=K6 hE f1 (dc o yT) qp hk
     have LR:val=abt:=by
      have r1:=kO w λ_=>Ext.refl _ _;have r2:=q4 w q2;rw[r1] at r2;injection r2 with r2 _;injection r2
     subst LR;simp only at mJ;split at mJ;rotate_left
     ·cases mJ
     rename_i K9;obtain ⟨e1,e2,e3,e4,e5⟩:=f2 h2
     have BJ:RE ops er (L.setIfInBounds i true) (a.put o.dst val) w (i,u,b0,off,cs):=by
      refine ⟨K8,(iv (by rw[v.Aq];exact L4)).2 (.inl rfl),o,t1,x1,d1,hi,g2,g3,?_,?_,λ_=>q2⟩
      ·rw[g3,oz,aP (λe=>g4 e.1.symm)];exact q1
      ·simp only[Hy,Mm,iJ,aN,cZ,Qj,Mj,bK] at K9;have h9:=K9 _ K8
       have U6:is.any (Nat.beq i)=false:=by
        cases hb:is.any (Nat.beq i) with
        | false=>rfl
        | true=>exact absurd (qw.1 hb) (cO.1 v.Tf).1
       have U7:(is.any (Nat.beq u)||Nat.ble ops.toList.length u)=true:=by
        rcases cK u ops.size with k1 | k1
        ·obtain ⟨k2,_,k3⟩:=hu0.resolve_left (by omega);rcases v.Tg u k1 with k4 | k4
         ·have k5:=(v.hL u).2 (.inl k4);have:=vp v.cl _ _ _ k3 k5;rw[GU] at this;cases this
         ·rcases bB.1 k4 with k5 | k5
          ·rw[k5,vQ] at k2;cases k2
          ·rw[qw.2 k5,hJ]
        ·have:Nat.ble ops.toList.length u=true:=by simpa using k1
         rw[this,iJ]
       rw[U6,U7,aN,cZ,cZ,dP,hi] at h9;simp only at h9;have F7:=(Te h2 h9 g2 g3 (b:=b0) (off:=off) (by rw[g3,oz,aP (λe=>g4 e.1.symm)];exact q1)).2;rw[g3] at F7 ⊢;rw[oz,aM ⟨rfl,by simpa [Act.put] using F7⟩];exact q3
     refine BM (S:=SD E ops w0 C ((i,u,b0,off,cs)::RC)) (λl' w' hs=>⟨hs.1,hs.2.1,λe he=>hs.2.2 e (bF _ he)⟩) _ _ _ _
      (w_ hi (Region.noSelect_spec CT) (λc a w hq=>(hP c _ _ hq).elim) (WR C _ (λe he=>by rcases bB.1 he with rfl | he;exact K8;exact i7 e he)) fuel L a w Ia tS v.cl (.inl ⟨hw,λw' uV=>?_⟩) ⟨Mk.1,Mk.2.1,λe he hu=>?_⟩
      (ih _ f hQ hC hg mJ fuel (v.next hD tS e1 (PF.mW e2 e3 e4 D (Ac val) e5 v.pf) WS v.hf (λe he=>?_))))
     ·obtain ⟨l',zV,tz,uV⟩:=uV;refine q4 w' (uV.2.2 _ cA ?_)
      rcases hu0 with k1 | ⟨_,_,k3⟩
      ·exact .inl k1
      ·right;show l'.getD u false=false
       cases Zs:l'.getD u false with
       | false=>rfl
       | true=>
        have:=vp zV _ _ _ k3 Zs;rcases cK i l'.size with h' | h'
        ·simp[h'] at this tz;rw[tz] at this;cases this
        ·simp[dY h'] at this
     ·rcases bB.1 he with rfl | he
      ·exact q2
      ·exact H_ e he hu
     ·rcases bB.1 he with rfl | he
      ·exact BJ
      ·exact FE val e he
    | false=>
    obtain ⟨C1,f1,f2⟩:=h1.frame;obtain ⟨val,kO,ml,mJ,A2,F2,h2⟩:=K6 hE f1 (dc o yT) qp hk;simp only at mJ;split at mJ;rotate_left
    ·cases mJ
    obtain ⟨e1,e2,e3,e4,e5⟩:=f2 h2;refine w_ hi (Region.noSelect_spec CT) (λc a w hq=>(hP c _ _ hq).elim) (WR C RC i7) fuel L a w Ia tS v.cl (.inl ⟨hw,λw' uV=>kO w' λhr=>?_⟩) Mk (ih _ f hQ hC hg mJ fuel (v.next hD tS e1 (PF.mW e2 e3 e4 D (Ac val) e5 v.pf) WS v.hf (FE val)))
    rcases Bl with ((Bl | Bl) | Bl) | ⟨nc,abu⟩
    ·rw[hr] at Bl;cases Bl
    ·rw[Zq] at Bl;cases Bl
    ·rw[Mm] at Bl;cases Bl
    ·rw[(v.hf nc).1];obtain ⟨l',zV,tz,uV⟩:=uV;refine uV.1 λd hd=>?_
     have hdl:d < ops.size:=by
      unfold qv at hd;split at hd
      ·rename_i od Zp;exact (cE.1 Zp).1
      ·cases hd
     rcases abu d hdl with hh | hh
     ·rw[hd] at hh;cases hh
     ·cases Zs:l'.getD d false with
      | false=>rfl
      | true=>
       have:=vp zV _ _ _ hh Zs;rcases cK i l'.size with h' | h'
       ·simp[h'] at this tz;rw[tz] at this;cases this
       ·simp[dY h'] at this
   | false=>
    obtain ⟨F2,h2⟩:=Jl h1 o;exact w_ hi (Region.noSelect_spec CT) (λc a w hq=>(hP c _ _ hq).elim) (WR C RC i7) fuel L a w Ia tS v.cl (v:=undef) (.inr ⟨hw,rfl⟩) Mk (ih _ f hQ hC hg hk fuel (v.next hD tS h2 (PF.mW (λ_ _ h=>h) (λ_ _ _ _ h=>h) (λ_ _ h=>h) D (Ac undef) (λ_ _ _=>⟨λ_ h=>h,rfl⟩) v.pf) WS v.hf (FE undef)))
  ·simp only[aF,bK] at hg;obtain ⟨⟨Ml,Jm⟩,hg⟩:=hg;have tS:i ∈ Region.ready .any ops L:=v.GT (by simpa using Ml) hD;have QS:i < L.size:=by rw[v.Aq];exact L4
   have GU:L.getD i false=false:=by
    have h0:=(mem_ready.1 tS).1;rw[vq QS] at h0;exact h0
   refine ⟨λh0=>(by rw[h0] at tS;cases tS),λj hj=>?_⟩
   by_cases hjp:j ∈ pd
   ·exact Tl j hjp hj
   have ui:i=j:=cQ (Jm j (v.Eu v.J7 hj hjp));subst ui;unfold wpOp;simp only[hi,hw]
   have hold:∀ {d},(L.setIfInBounds i true).getD d false=false->L.getD d false=false:=λ{d} hh=>by
    cases hl:L.getD d false with
    | false=>rfl
    | true=>rw[(iv QS).2 (.inr hl)] at hh;cases hh
   have GI:(L.setIfInBounds i true).getD i false=true:=(iv QS).2 (.inl rfl)
   cases b with
   | true=>
    simp only[aI];obtain ⟨C1,f1,f2⟩:=h1.frame;have Bh:∀ w',(∀ b i,A b i->∀ u,ce w b i=some u->ce w' b i=some u)->∀ b i,C.A0 b i->∀ u,ce C.w0 b i=some u->ce w' b i=some u:=λw' he b i ha u hu=>he b i (v.h.a0 b i ha) u (v.h.ext.cell b i (wX hu) (hC b i ha) u hu)
    cases qp:vG E o.op with
    | true=>
     refine .inl (Oper.wp_mono (λa' w' hn=>?_) (Tb (XP (K6 hE f1 (dc o yT) qp hk))));obtain ⟨ht,hww,ml,mJ,A2,F2,h2⟩:=hn;subst hww;simp only at mJ;split at mJ;rotate_left
     ·cases mJ
     obtain ⟨e1,e2,e3,e4,e5⟩:=f2 h2;have uV:(∀ d,qv E ops d=true->(L.setIfInBounds i true).getD d false=false)->Ext w0 w (λ_ _=>0):=λhd=>v.hS λd Bi=>hold (hd d Bi);exact ⟨⟨uV,Bh _ e3,λe he hu=>H_ e he (hu.imp id hold)⟩,ih _ false hQ hC hg mJ fuel (v.next hD tS e1 (PF.mW e2 e3 e4 D (λj hj o' d Bj tt=>ht d (U9 j hj o' d Bj tt)) e5 v.pf) uV (λe=>by cases e) (v.yN vO hi GU ht λe he hu=>H_ e he (hu.imp id hold)))⟩
    | false=>
    refine .inl (Oper.wp_mono (λa' w' hn=>?_) (Tb (Ta hE f1 (dc o yT) qp hk)));obtain ⟨ht,⟨ml,mJ,A2,F2,h2⟩,hq⟩:=hn;simp only at mJ;split at mJ;rotate_left
    ·cases mJ
    rename_i K9;obtain ⟨e1,e2,e3,e4,e5⟩:=f2 h2
    have uV:(∀ d,qv E ops d=true->(L.setIfInBounds i true).getD d false=false)->Ext w0 w' (λ_ _=>0):=λhd=>by
     have Zt:quiet E o.op=true:=by
      cases Zt:quiet E o.op with
      | true=>rfl
      | false=>
       have hdj:qv E ops i=true:=by simp[qv,hi,qp,Zt]
       have:=hd i hdj;rw[GI] at this;cases this
     exact (v.hS λd Bi=>hold (hd d Bi)).trans (hq Zt) (λ_ _ _ _=>rfl)
    have Zu:=v.still vO Mj hi GU h2 ht (λhm=>hq (quiet_of hk hm qp)) K9;exact ⟨⟨uV,Bh _ e3,Zu⟩,ih _ false hQ hC hg mJ fuel (v.next hD tS e1 (PF.mW e2 e3 e4 D (λj hj o' d Bj tt=>ht d (U9 j hj o' d Bj tt)) e5 v.pf) uV (λe=>by cases e) (v.yN vO hi GU ht Zu))⟩
   | false=>
    simp only[aJ,aO];obtain ⟨F2,h2⟩:=Jl h1 o;have uV:(∀ d,qv E ops d=true->(L.setIfInBounds i true).getD d false=false)->Ext w0 w (λ_ _=>0):=λhd=>v.hS λd Bi=>hold (hd d Bi)
    exact ⟨⟨uV,Mk.2.1,λe he hu=>H_ e he (hu.imp id hold)⟩,ih _ false hQ hC hg hk fuel (v.next hD tS h2 (PF.mW (λ_ _ h=>h) (λ_ _ _ _ h=>h) (λ_ _ h=>h) D (Ac undef) (λ_ _ _=>⟨λ_ h=>h,rfl⟩) v.pf) uV (λe=>by cases e) (v.yN vO hi GU (λd hd=>by
     cases ho:o.dst with
     | none=>rfl
     | some d'=>rw[oz,aP (λe=>hd (by rw[ho,e.1]))]) λe he hu=>H_ e he (hu.imp id hold)))⟩
end
theorem XR (hE:ta P E) (hm:P.follows .mixedOrders=true) {ip id:Nat} {ops:Array Oper} (dc:∀ o ∈ ops.toList,rK P o.op=true) {is bx:List Nat} (hd:Mg E ip ops is=true) (h:d_ P C A σ a w F) {K:St->Option R} (hk:Pb σ bx (λσ=>So ops.toList σ (ox E.pd ip) λσ=>D5 E ip ops.toList is σ K)=some x)
  (hQ:∀ a w,Nx P C K x a w->Q .normal a w) (hP:∀ c a w,¬ Q (.panic c) a w):(Code.region id ops true).wp P Q a w:=by
 simp only[Mg,aF,dK] at hd;obtain ⟨⟨⟨⟨CT,hlen⟩,wY,abv⟩,⟨vQ,abw⟩,vO⟩,hg⟩:=hd;have h0:=h.drew;obtain ⟨A1,pM,F1,hk,h1⟩:=WM bx h0 hk;obtain ⟨ml,F2,hk,h1⟩:=aaz (ox E.pd ip) h1 hk;obtain ⟨C',c1,c2,c3,c4,c5⟩:=h1.Zm;have Zr:∀ b i,C'.A0 b i->C'.F0 b i=0:=λb i ha=>c3 b i (by rw[<-c2];exact ha)
 have Pu:∀ k,(Array.replicate ops.size false).getD k false=false:=λk=>by
  by_cases hk:k < ops.size <;> simp[hk]
 refine wp_region_any hm (HZ _ _ _ _ (Tj hE dc hP CT wY rfl rfl vO is _ _ (λa w ⟨A_,q1,A3,F3,q2⟩=>hQ a w ⟨A_,q1,A3,F3,c5 q2⟩) Zr hg hk ops.size (w0:=w.drew) (D:=[]) (RC:=[]) ⟨c4,trivial,gF,(λ_ h=>by cases h),(λ_ h=>by cases h),(λ_ h=>by cases h),λj hj=>.inr (qw.1 (bK.1 abv j hj)),
  bL (List.length_filter_le _ _) hlen,λj o hj hl=>?_,λ_=>Ext.refl _ _,λhf=>⟨rfl,?_⟩,by simp,by simp,(λk=>by simp),F8 vQ,λk hk=>.inr (qw.1 (bK.1 abw k (cH.2 hk))),λk _=>Pu k,λe he=>by cases he⟩))
 ·rw[Pu] at hl;cases hl
 ·split at hf
  ·assumption
  ·cases hf
end
end OT
namespace OT
open Go
section
variable {P:Program} {C:Ctx} {A:Cells} {X:FP} {σ:St} {a:Act} {w:World} {F:Nat->FP} {R:Type} {x:R} {E:Env}
theorem Mn (f:Nat->Slot):∀ (live:List Nat) (i:Nat),nO (live.map λj=>(j,f j)) i=if live.any (Nat.beq i) then some (f i) else none
 | [],i=>rfl
 | j::live,i=>by
  simp only[cY,nO,gN];by_cases ui:i=j
  ·simp_all
  ·have h1:Nat.beq j i=false:=by
    grind [Nat.eq_of_beq_eq_true]
   have h2:Nat.beq i j=false:=by
    grind [Nat.eq_of_beq_eq_true]
   simp only[h1,h2,aJ,aO,cZ,Mn f live i]
theorem Av (live:List Nat) (fr:List (Nat×Md)) (σ:St) (i:Nat):(fw live fr σ).get i=if i < σ.n/\live.any (Nat.beq i)=true then A8 fr i (k9 live fr σ i) else .dead:=by
 unfold St.get fw;simp only[Mn];grind [Nat.blt_eq]
theorem CV (live:List Nat) (fr:List (Nat×Md)) (σ:St) (i:Nat):(fw live fr σ).kZ i=[0,0,0,0,0]:=rfl
theorem CW {s:List Nat} (h:s.length<=5):Below (s.map λ_=>0) [0,0,0,0,0]:=by
 intro j y hj;grind
theorem CX {live:List Nat} {fr:List (Nat×Md)} {r:Nat} (hr:D6 live fr r=true) {p:Path} {pl:Pl} (hp:place σ a w r p=some pl):place (fw live fr σ) a w r p=some pl:=by
 grind [tP,D6,place,Av,A8,k9,d8]
theorem Tm {live:List Nat} {fr:List (Nat×Md)} {i:Nat} {G:FP} (hs:c8 P A σ a w (tmp a i) (σ.get i) G) (hG:∀ b k,G b k<=1) :
  ∃ G':FP,(∀ b k,G' b k<=G b k)/\∀ A':Cells,(∀ b k,A b k->A' b k)->(∀ b k,1<=G b k->G' b k=0->A' b k)->c8 P A' (fw live fr σ) a w (tmp a i) (A8 fr i (k9 live fr σ i)) G':=by
 have same:∀ b k,A b k->∀ u,ce w b k=some u->ce w b k=some u:=λ_ _ _ _ h=>h;have dead:A8 fr i .dead=.dead:=by grind [A8]
 have CY:∀ {s:Slot},(∀ t m H v,s≠.own t m H v)->(∀ t m H v,s≠.box t m H v)->A8 fr i s=s:=λ{s} h1 h2=>by
  grind [A8]
 cases hg:σ.get i with
 | dead=>exact ⟨λ_ _=>0,λ_ _=>bD _,λA' _ _=>by simp only[k9,hg,dead];trivial⟩
 | wC=>
  rw[hg] at hs;exact ⟨λ_ _=>0,λ_ _=>bD _,λA' _ _=>by simp only[k9,hg];rw[CY (by intros;simp) (by intros;simp)];exact hs⟩
 | val t v=>
  rw[hg] at hs;obtain ⟨cs,h1,h2⟩:=hs;exact ⟨λ_ _=>0,λ_ _=>bD _,λA' hA _=>by simp only[k9,hg];rw[CY (by intros;simp) (by intros;simp)];exact ⟨cs,h1,Ro.mono same hA t h2⟩⟩
 | cp t v=>
  rw[hg] at hs;exact ⟨λ_ _=>0,λ_ _=>bD _,λA' hA _=>by simp only[k9,hg];rw[CY (by intros;simp) (by intros;simp)];exact Ro.mono same hA (.ptr t) hs⟩
 | own t m H v=>
  rw[hg] at hs;obtain ⟨cs,h1,h2⟩:=hs;have hk:k9 live fr σ i=.own t m H v:=by grind [k9]
  rw[hk];unfold A8;split
  ·exact ⟨G,λ_ _=>aL _,λA' hA _=>⟨cs,h1,ao.mono hA same (λ_ _ h=>h) t h2 (λ_ _=>aL _) (λ_ _ _ _ h=>h)⟩⟩
  ·rename_i m1 hm;simp only;split
   ·rename_i hc;simp only[aF,bG] at hc;obtain ⟨hH,hf⟩:=hc;subst hH;obtain ⟨G1,g1,g2⟩:=ao.fits t hf h2 hG;refine ⟨G1,g1,λA' hA Bm=>?_⟩
    have hr:=g2 A' hA Bm;split
    ·rename_i e;subst e;exact ⟨cs,h1,ao.ro t (it t) hr⟩
    ·exact ⟨cs,h1,hr⟩
   ·exact ⟨λ_ _=>0,λ_ _=>bD _,λA' _ _=>trivial⟩
 | box t m H v=>
  rw[hg] at hs;obtain ⟨b,o,L,F1,s1,s2,s3,s4,s5,s6⟩:=hs;have hk:k9 live fr σ i=.box t m H v:=by grind [k9]
  rw[hk];unfold A8;split
  ·exact ⟨G,λ_ _=>aL _,λA' hA _=>⟨b,o,L,F1,s1,s2,s3,s4,s5,ao.mono hA same (λ_ _ h=>h) t s6 (λ_ _=>aL _) (λ_ _ _ _ h=>h)⟩⟩
  ·rename_i m1 hm;simp only;split
   ·rename_i hc;simp only[aF,bG] at hc;obtain ⟨hH,hf⟩:=hc;subst hH;obtain ⟨G1,g1,g2⟩:=ao.fits t hf s6 (λb' k=>by grind);refine ⟨λb' k=>ep b o t.sz b' k+G1 b' k,λb' k=>by grind,λA' hA Bm=>⟨b,o,L,G1,s1,s2,s3,s4,λ_ _=>aL _,g2 A' hA λb' k hp hz=>?_⟩⟩
    grind
   ·exact ⟨λ_ _=>0,λ_ _=>bD _,λA' _ _=>trivial⟩
 | ref r p snap=>
  rw[hg] at hs;refine ⟨λ_ _=>0,λ_ _=>bD _,λA' _ _=>?_⟩
  simp only[k9,hg];split
  ·rename_i hc;simp only[aF] at hc;rw[CY (by intros;simp) (by intros;simp)];obtain ⟨pl,h1,h2,h3⟩:=hs.2 hc.1;have hl:snap.length<=5:=by grind
   exact ⟨by grind [CV,CW],λ_=>⟨pl,CX hc.2 h1,h2,by simpa using h3⟩⟩
  ·rw[dead];trivial
 | ptr r p snap=>
  rw[hg] at hs;refine ⟨λ_ _=>0,λ_ _=>bD _,λA' _ _=>?_⟩
  simp only[k9,hg];split
  ·rename_i hc;simp only[aF] at hc;rw[CY (by intros;simp) (by intros;simp)];obtain ⟨pl,b,o,h1,h2,h3,h4⟩:=hs.2 hc.1;have hl:snap.length<=5:=by omega
   exact ⟨by grind [CV,CW],λ_=>⟨pl,b,o,CX hc.2 h1,h2,h3,by simpa using h4⟩⟩
  ·rw[dead];trivial
 | sub r p snap lo hi=>
  rw[hg] at hs;refine ⟨λ_ _=>0,λ_ _=>bD _,λA' _ _=>?_⟩
  simp only[k9,hg];split
  ·rename_i hc;simp only[aF] at hc;rw[CY (by intros;simp) (by intros;simp)];obtain ⟨pl,e,xa,n,cap,vM,cap',h1,h2,h3,h4,h5,h6,h7,h8,h9,F7,Ti⟩:=hs.2 hc.1;have hl:snap.length<=5:=by grind
   exact ⟨by grind [CV,CW],λ_=>⟨pl,e,xa,n,cap,vM,cap',CX hc.2 h1,h2,h3,h4,h5,h6,h7,h8,h9,F7,by simpa using Ti⟩⟩
  ·rw[dead];trivial
 | rT xs=>
  rw[hg] at hs;obtain ⟨vs,Fi,h1,h2,h3⟩:=hs;refine ⟨G,λ_ _=>aL _,λA' hA _=>?_⟩
  simp only[k9,hg];rw[CY (by intros;simp) (by intros;simp)]
  exact ⟨vs,Fi,h1,h2,λj y hy=>by
   obtain ⟨v,g1,g2⟩:=h3 j y hy
   exact ⟨v,g1,g2.imp id λ⟨cs,g3,g4⟩=>⟨cs,g3,ao.mono hA same (λ_ _ h=>h) _ g4 (λ_ _=>aL _) (λ_ _ _ _ h=>h)⟩⟩⟩
theorem GV (h:d_ P C A σ a w F) (live:List Nat) (fr:List (Nat×Md)):Eh P C (fw live fr σ) a w:=by
 have hle:∀ i,i < σ.n->∀ b k,F i b k<=1:=λi hi b k=>by have:=h.pk b k;grind [dv]
 have each:∀ i,∃ G':FP,(∀ b k,i < σ.n->G' b k<=F i b k)/\(¬ i < σ.n->∀ b k,G' b k=0)/\∀ A':Cells,(∀ b k,A b k->A' b k)->(∀ b k,1<=F i b k->G' b k=0->A' b k)->i < σ.n->c8 P A' (fw live fr σ) a w (tmp a i) ((fw live fr σ).get i) G':=by
  intro i;by_cases hi:i < σ.n
  ·by_cases hl:live.any (Nat.beq i)=true
   ·obtain ⟨G',g1,g2⟩:=Tm (live:=live) (fr:=fr) (h.iW i hi) (hle i hi);exact ⟨G',λb k _=>g1 b k,λhn=>absurd hi hn,λA' hA Bm _=>by grind [Av]⟩
   ·exact ⟨λ_ _=>0,λ_ _ _=>bD _,λ_ _ _=>rfl,λA' _ _ _=>by rw[Av,aP (λhc=>hl hc.2)];trivial⟩
  ·exact ⟨λ_ _=>0,λ_ _ _=>bD _,λ_ _ _=>rfl,λA' _ _ pj=>absurd pj hi⟩
 obtain ⟨F',Zv⟩:=gC each;have qa:∀ b k,bg σ.n F' b k<=bg σ.n F b k:=λb k=>I6 b k λj hj=>(Zv j).1 b k hj;refine ⟨λb k=>A b k\/∃ j,j < σ.n/\1<=F j b k/\F' j b k=0,F',?_⟩
 have hold:∀ {b k j},j < σ.n->1<=F j b k->1<=0+bg σ.n F b k:=λ{b k j} hj hp=>by grind [dv]
 refine ⟨h.size,h.defers,λi hi=>(Zv i).2.2 _ (λ_ _ h=>.inl h) (λb k hp hz=>.inr ⟨i,hi,hp,hz⟩) hi,(λd r p snap hm=>by cases hm),λb k=>by have:=h.pk b k;have:=qa b k;show 0+bg σ.n F' b k<=1;omega,λb k hp ha=>?_,λb k hp=>?_,
  λi=>by rw[CV];rfl,h.ext,λb k hp=>h.own b k (by have:=qa b k;have hp:1<=0+bg σ.n F' b k:=hp;grind),λb k ha=>.inl (h.a0 b k ha),λb k ha=>?_,h.oL,λr t m H v hg hl=>?_,λj k hm R' po=>?_,h.wN⟩
 ·have hp:1<=0+bg σ.n F' b k:=hp
  rcases ha with ha | ⟨j,hj,h1,h2⟩
  ·exact h.qb b k (by grind) ha
  ·obtain ⟨i,hi,Au⟩:=LC (show 1<=bg σ.n F' b k by omega);have kF:i≠j:=λe=>by grind
   have:=uN F hi hj kF b k;have:=(Zv i).1 b k hi;have:=h.pk b k;omega
 ·rcases hp with hp | (ha | ⟨j,hj,h1,_⟩)
  ·exact h.kN b k (.inl (by have:=qa b k;have hp:1<=0+bg σ.n F' b k:=hp;grind))
  ·exact h.kN b k (.inr ha)
  ·exact h.kN b k (.inl (hold hj h1))
 ·rcases ha with ha | ⟨j,hj,h1,_⟩
  ·exact h.a1 b k ha
  ·exact .inr (h.own b k (hold hj h1))
 ·rw[Av] at hg;split at hg
  ·have:∃ m0 H0 v0,σ.get r=.box t m0 H0 v0:=by
    grind [A8,k9]
   obtain ⟨m0,H0,v0,YT⟩:=this;exact h.whole r t m0 H0 v0 YT hl
  ·cases hg
 ·have Qt:d8 w (tmp a j) (σ.get j)=some R'\/∃ H0,d8 w (tmp a j) (σ.get j)=some { R' with H:=H0 }:=by
   rw[Av] at po;split at po
   ·unfold A8 at po;split at po
    ·grind [k9,d8]
    ·split at po
     ·grind [k9,d8]
     ·rename_i t0 m0 H0 v0 hk
      have F5:σ.get j=.box t0 m0 H0 v0:=by
       grind [k9]
      split at po
      all_goals simp_all [d8]
     grind [d8]
   grind [d8]
  rcases Qt with hr | ⟨H0,hr⟩
  ·exact h.nD j k hm R' hr
  ·have:=h.nD j k hm _ hr;exact this
theorem XS (live:List Nat) (σ:St):yN live σ=fw live [] σ:=rfl
theorem XT (h:d_ P C A σ a w F) (live:List Nat):Eh P C (yN live σ) a w:=by grind [XS,GV]
end
end OT
namespace OT
open Go
def QK (P:Program) (C:Ctx) {R:Type} (K:Ex->St->Option R) (fin:St->Option R) (x:R):Exit->Act->World->Prop
 | .normal,a,w=>∃ σ,K .normal σ=some x/\Eh P C σ a w
 | .exit id,a,w=>∃ σ,K (.exit id) σ=some x/\Eh P C σ a w
 | .ret,a,w=>∃ σ,fin σ=some x/\Eh P C σ a w
 | _,_,_=>False
noncomputable def codeOk (P:Program) (E:Env):Code->Bool
 | .skip=>true
 | .region id ops d=>ops.toList.all (λo=>rK P o.op)&&(match d with
  | false=>true
  | true=>P.follows .mixedOrders&&Mg E id ops (ox E.od id))
 | .seq a b=>codeOk P E a&&codeOk P E b
 | .cond c a b=>dO P c&&codeOk P E a&&codeOk P E b
 | .block _ b=>codeOk P E b
 | .loop b=>codeOk P E b
 | .scope b=>codeOk P E b
 | .exit _=>true
 | .ret=>true
 | _=>true
section
variable {P:Program} {C:Ctx} {R:Type} {x:R} {E:Env} {fin:St->Option R} {n:Nat}
theorem XU (hE:ta P E):∀ (c:Code),codeOk P E c=true->∀ {σ:St} {A:Cells} {a:Act} {w:World} {F:Nat->FP} {K:Ex->St->Option R},d_ P C A σ a w F->uF E n fin c σ K=some x->c.wp P (QK P C K fin x) a w:=by
 intro c
 induction c with
 | skip=>intro _ σ A a w F K h hk;exact wp_skip ⟨σ,hk,A,F,h⟩
 | region id ops d=>
  intro hc σ A a w F K h hk;simp only[codeOk,aF] at hc;have dc:∀ o ∈ ops.toList,rK P o.op=true:=λo ho=>bK.1 hc.1 o ho
  cases d with
  | false=>exact Td hE dc h hk (λa w ⟨σ',h1,A',F',h2⟩=>by
    obtain ⟨A2,ml,F2,h3,h4⟩:=WM _ h2 h1
    exact ⟨ml,h3,A2,F2,h4⟩)
  | true=>
   have h2:=hc.2;simp only[aF] at h2;exact XR hE h2.1 dc h2.2 h hk (λa w ⟨σ',h1,h2⟩=>⟨σ',h1,h2⟩) (λc a w hq=>hq)
 | seq a b mX mO=>
  intro hc σ A ac w F K h hk;simp only[codeOk,aF] at hc;refine wp_seq (wp_mono (mX hc.1 h hk) λe a' w' hq=>?_)
  cases e with
  | normal=>obtain ⟨σ',h1,A',F',h2⟩:=hq;exact mO hc.2 h2 h1
  | exit j=>obtain ⟨σ',h1,h2⟩:=hq;exact ⟨σ',h1,h2⟩
  | ret=>exact hq
  | _=>exact hq.elim
 | cond c a b mX mO=>
  intro hc σ A ac w F K h hk;simp only[codeOk,aF] at hc;simp only[uF] at hk
  rcases fy h hc.1.1 with hs | ⟨xs,e⟩
  rotate_left
  ·rw[e] at hk;cases hk
  grind [HH,wp_cond_true,wp_cond_false]
 | block id b ih=>
  intro hc σ A ac w F K h hk;refine wp_block (wp_mono (ih hc h hk) λe a' w' hq=>?_)
  cases e with
  | normal=>exact hq
  | exit j=>
   obtain ⟨σ',h1,h2⟩:=hq;simp only[ah] at h1;simp only[Exit.inBlock];by_cases hj:j=id
   ·subst hj;rw[aM (by simp)] at h1;rw[aM rfl];exact ⟨σ',h1,h2⟩
   ·have:Nat.beq j id=false:=by
     grind [Nat.eq_of_beq_eq_true]
    rw[this,aP (by simp)] at h1;rw[aP hj];exact ⟨σ',h1,h2⟩
  | ret=>exact hq
  | _=>exact hq.elim
 | loop b ih=>
  intro hc σ A ac w F K h hk;simp only[uF] at hk
  have key:∀ (m:Nat) (σ:St) (ac:Act) (w:World),Eh P C σ ac w->Fu (uF E n fin b) (fw (ox E.lv (sM b)) (Ql E.lf (sM b))) K m σ=some x->Code.rounds P b (QK P C K fin x) m ac w:=by
   intro m
   induction m with
   | zero=>intro σ ac w h hk;cases hk
   | succ m Y5=>
    intro σ ac w h hk;obtain ⟨A',F',h⟩:=h;rw[rounds_succ];refine wp_mono (ih hc h hk) λe a' w' hq=>?_
    cases e with
    | normal=>
     obtain ⟨σ',h1,A2,F2,h2⟩:=hq;exact Y5 _ a' w' (GV h2 _ _) h1
    | exit j=>exact hq
    | ret=>exact hq
    | _=>exact hq.elim
  exact wp_loop_rounds n (key n _ ac w (GV h _ _) hk)
 | scope b ih=>
  intro hc σ A ac w F K h hk;refine wp_scope_straight (wp_mono (ih hc h hk) λe a' w' hq=>?_)
  cases e with
  | normal=>exact hq
  | exit j=>exact hq
  | ret=>exact hq
  | _=>exact hq.elim
 | exit id=>
  intro hc σ A ac w F K h hk;exact wp_exit ⟨_,hk,XT h _⟩
 | ret=>
  intro hc σ A ac w F K h hk;exact wp_ret ⟨σ,hk,A,F,h⟩
 | _=>grind [uF]
end
end OT
namespace OT
open Go
section
variable {P:Program} {C:Ctx} {A:Cells} {X:FP} {σ:St} {a:Act} {w:World} {F:Nat->FP} {R:Type} {x:R} {E:Env}
def CZ (tmps:Array Value):ResultVar->Sem Value
 | .tmp t=>pure (tmps.getD t undef)
 | .cell a t=>do loadVar t (<- asAddr (tmps.getD a undef))
theorem Mo {α:Type} (f:α->Sem Value):∀ (l:List α) (vs:List Value),l.length=vs.length->(∀ (j:Nat) (y:α) (v:Value),l[j]?=some y->vs[j]?=some v->(f y).run P w=.ok v w)->(l.mapM f).run P w=.ok vs w
 | [],[],_,_=>rfl
 | y::l,v::vs,hl,h=>by
  have h0:=h 0 y v rfl rfl;have ih:=Mo f l vs (by simpa using hl) (λj y v hy hv=>h (j+1) y v hy hv);simp_all
 | [],_::_,h,_=>by simp at h
 | _::_,[],h,_=>by simp at h
theorem Og {fn:Func} {tmps:Array Value} {vs:List Value} (hl:fn.results.toList.length=vs.length) (h:∀ (j:Nat) (y:ResultVar) (v:Value),fn.results.toList[j]?=some y->vs[j]?=some v->(CZ tmps y).run P w=.ok v w) :
  (results fn tmps).run P w=.ok (if h:vs.toArray.size=1 then vs.toArray[0] else .tuple vs.toArray) w:=by
 have h1:=Mo (P:=P) (w:=w) (CZ tmps) fn.results.toList vs hl h
 have h2:(fn.results.mapM (CZ tmps)).run P w=.ok vs.toArray w:=by
  have e:fn.results=fn.results.toList.toArray:=by simp
  rw[e,List.mapM_toArray,map_eq_pure_bind,Sem.run_bind,h1,Result.andThen_ok,Sem.run_pure]
 have e:results fn tmps=(do
  let vs <- fn.results.mapM (CZ tmps)
  pure (if h:vs.size=1 then vs[0] else .tuple vs)):=by
  unfold results;congr 1
 simp_all
def GW (E:Env):List (Ty×Md)->List ResultVar->Bool
 | [],[]=>true
 | _::rs,.tmp _::xs=>GW E rs xs
 | (t,_)::rs,.cell _ ty::xs=>(match E.TI ty with
  | some T=>decide (T=t)
  | none=>false)&&GW E rs xs
 | _,_=>false
theorem aaB (hE:ta P E) (h:Rel P C A X σ a w F) {rv:ResultVar} {t:Ty} (Af:∀ b ty,rv=.cell b ty->E.TI ty=some t) {mv:Bool} {K:Md->t.den->St->Option R} (hk:mV σ (Hz σ rv) mv t K=some x) :
  ∃ (tv:Value),(CZ a.tmps rv).run P w=.ok tv w/\∃ (A':Cells) (σ':St) (F':Nat->FP) (m:Md) (v:t.den) (cs:List Value) (Fv:FP),K m v σ'=some x/\(∀ b i,A b i->A' b i)/\Rel P C A' (λb i=>X b i+Fv b i) σ' a w F'/\tv=dq t cs/\ao P w A' t m [] v cs Fv:=by
 cases rv with
 | tmp i=>
  rcases fy h (o:=.tmp i) rfl with hs | ⟨xs,e⟩
  rotate_left
  ·grind [Hz,mV]
  obtain ⟨A',σ',F',m,v,cs,Fv,k1,k2,k3,k4,kr,k5,k6⟩:=um h hs hk;exact ⟨_,rfl,A',σ',F',m,v,cs,Fv,k1,k2,k3,k5,k6⟩
 | cell i ty=>
  have hT:=Af i ty rfl;have jk:=hE.ti _ _ hT;simp only[Hz] at hk;split at hk
  ·rename_i t0 m0 H0 v0 hg
   have hi:i < σ.n:=by
    grind [mf]
   have hs:=h.iW i hi;rw[hg] at hs;obtain ⟨b,o,L,F1,s1,s2,s3,s4,s5,s6⟩:=hs
   have iU:place σ a w i []=some ⟨t0,H0,L,some (b,o)⟩:=by
    grind [place,d8,fi,bn]
   have K4:c8 P A σ a w (dq t0 L) (.ref i [] (σ.kZ i)) (λ_ _=>0):=⟨Below.refl _,λ_=>⟨_,iU,rfl,.inr (h.l8 i)⟩⟩
   have ht:t0=t:=by
    grind [mV,lA,cy]
   subst ht;obtain ⟨A',σ',F',m,v,cs,Fv,k1,k2,k3,k4,kr,k5,k6⟩:=um h K4 hk;refine ⟨dq t0 L,?_,A',σ',F',m,v,cs,Fv,k1,k2,k3,k5,k6⟩
   have e:a.tmps.getD i undef=.pointer (some ⟨b,o,none⟩):=s1;grind [ye,ao.one,CZ,asAddr]
  grind [mV]
theorem Zw (hE:ta P E) {ts:List Ty} {mv:Nat->Bool} {fin:St->((bq ts).den->Option R)->Option R}:∀ (rs:List (Ty×Md)) (B6:List ResultVar) (j:Nat) {σ:St} {A:Cells} {X:FP} {F:Nat->FP} {K:(bq (rs.map (·.1)++ts)).den->Option R},
  GW E rs B6=true->Rel P C A X σ a w F->Qm σ ts mv fin rs B6 j K=some x ->
  ∃ (A':Cells) (σ':St) (X':FP) (F':Nat->FP) (C0:List Value) (L:List Hs) (Fi:Nat->FP) (pre:(bq ts).den->(bq (rs.map (·.1)++ts)).den),(∀ b i,A b i->A' b i)/\Rel P C A' X' σ' a w F'/\fin σ' (λy=>K (pre y))=some x/\(∀ y,lm rs (pre y)=(L,y)) /\
   C0.length=L.length/\C0.length=B6.length/\(∀ (k:Nat) (y:ResultVar) (v:Value),B6[k]?=some y->C0[k]?=some v->(CZ a.tmps y).run P w=.ok v w)/\(∀ b i,X b i+bg L.length Fi b i<=X' b i) /\
   ∀ A2:Cells,(∀ b i,A' b i->A2 b i)->(∀ b i,1<=X' b i->X b i=0->bg L.length Fi b i=0->A2 b i)->∀ k y,L[k]?=some y->∃ v cs,C0[k]?=some v/\v=dq y.t cs/\ao P w A2 y.t y.m [] y.v cs (Fi k):=by
 intro rs
 induction rs with
 | nil=>
  intro B6 j σ A X F K WT h hk
  cases B6 with
  | nil=>exact ⟨A,σ,X,F,[],[],λ_ _ _=>0,id,λ_ _ h=>h,h,hk,λy=>rfl,rfl,rfl,(λk y v hy=>by cases hy),(λb i=>by simp[bg]),λA2 _ _ k y hy=>by cases hy⟩
  | cons _ _=>cases WT
 | cons p rs ih=>
  intro B6 j σ A X F K WT h hk;obtain ⟨t,m⟩:=p
  cases B6 with
  | nil=>cases hk
  | cons rv B6=>
   simp only[Qm] at hk
   have Af:∀ b ty,rv=.cell b ty->E.TI ty=some t:=λb ty e=>by
    grind [GW]
   have abx:GW E rs B6=true:=by
    cases rv <;> grind [GW]
   obtain ⟨tv,kO,A1,pM,F1,m1,v1,cs,Fv,k1,k2,k3,k4,k5⟩:=aaB hE h Af hk;split at k1
   ·rename_i hm;obtain ⟨A',σ',X',F',C0,L,Fi,pre,g1,g2,g3,g4,g5,g6,g7,g8,g9⟩:=ih B6 (j+1) abx k3 k1;have wQ:∀ b i,X' b i<=1:=λb i=>by have:=g2.pk b i;omega
    have Aj:∃ G:FP,(∀ b i,G b i<=Fv b i)/\∀ A2:Cells,(∀ b i,A1 b i->A2 b i)->(∀ b i,1<=Fv b i->G b i=0->A2 b i)->ao P w A2 t m [] v1 cs G:=by
     by_cases hmm:m1=m
     ·subst hmm;exact ⟨Fv,λ_ _=>aL _,λA2 hA _=>ao.mono hA (λ_ _ _ _ h=>h) (λ_ _ h=>h) t k5 (λ_ _=>aL _) (λ_ _ _ _ h=>h)⟩
     ·rcases hm with hm | hm
      ·grind
      ·exact ao.fits t hm k5 (λb i=>by grind)
    obtain ⟨G,G1,G2⟩:=Aj
    have qa:∀ b i,bg (L.length+1) (λk=>match k with | 0=>G | k+1=>Fi k) b i=G b i+bg L.length Fi b i:=λb i=>by
     rw[Nat.add_comm,xM];congr 1
     ·simp[bg]
     grind
    refine ⟨A',σ',X',F',tv::C0,⟨t,m,v1⟩::L,λk=>match k with | 0=>G | k+1=>Fi k,λy=>(v1,pre y),λb i ha=>g1 b i (k2 b i ha),g2,g3,λy=>by grind [lm],by simp[g5],by simp[g6],λk y v hy hv=>?_,λb i=>?_,λA2 hA Bm k y hy=>?_⟩
    ·grind
    ·grind
    ·have aby:∀ b i,1<=X' b i->X b i=0->G b i+bg L.length Fi b i=0->A2 b i:=λb i h1 h2 h3=>Bm b i h1 h2 (by grind)
     cases k with
     | zero=>
      grind
     | succ k=>
      refine g9 A2 hA (λb i h1 h2 h3=>aby b i h1 (by omega) (by grind)) k y hy
   ·cases k1
theorem Mp {l:List (Nat×Nat×Bool)} {i j:Nat} {c:Bool} (h:BZ l i j c=true):(i,j,c) ∈ l:=by
 induction l <;> grind [BZ,Nat.beq_eq]
def pE (F:Nat->FP):List Nat->FP
 | []=>λ_ _=>0
 | i::l=>λb k=>F i b k+pE F l b k
theorem C3 (F:Nat->FP) (i:Nat) (G:FP) (b k:Nat):∀ (l:List Nat),i ∉ l->pE (ge F i G) l b k=pE F l b k
 | [],_=>rfl
 | j::l,hj=>by
  simp only[bB,not_or] at hj;simp only[pE,C3 F i G b k l hj.2];rw[show ge F i G j=F j by grind [ge]]
theorem PC:∀ (l:List Nat) {n:Nat} (F:Nat->FP),l.Nodup->(∀ i ∈ l,i < n)->∀ b k,pE F l b k<=bg n F b k
 | [],n,F,_,_,b,k=>bD _
 | i::l,n,F,hn,hl,b,k=>by
  have Y8:=cO.1 hn;have h1:=PC l (ge F i λ_ _=>0) Y8.2 (λj hj=>hl j (bF _ hj)) b k;grind [C3,tO,pE]
theorem Mq {F:Nat->FP} {b k:Nat}:∀ {l:List Nat},1<=pE F l b k->∃ i ∈ l,1<=F i b k
 | [],h=>by simp[pE] at h
 | i::l,h=>by
  simp only[pE] at h;rcases bM (F i b k) with h0 | h0
  ·obtain ⟨j,hj,hp⟩:=Mq (F:=F) (b:=b) (k:=k) (l:=l) (by omega);grind
  grind
def GX:List (PM×Ty)->Bool
 | []=>true
 | _::ps=>GX ps
theorem XV (h:Rel P C A X σ a w F):∀ (j:Nat) (ps:List (PM×Ty)) (es:List Nat) {K:(bq (ll ps)).den->Option R},GX ps=true->es.Nodup->j+ps.length<=C.args.size->wG σ j ps es K=some x ->
  ∃ (vs:(bq (ll ps)).den) (us:List Nat) (Gi:Nat->FP),K vs=some x/\(∀ i ∈ us,i ∈ es)/\us.Nodup/\(∀ i ∈ us,i < σ.n)/\(∀ i b k,i ∈ us->Gi i b k<=F i b k) /\
   ∀ A2:Cells,(∀ b k,A b k->A2 b k)->(∀ i b k,i ∈ us->1<=F i b k->Gi i b k=0->A2 b k)->pi P w A2 ps vs (C.args.toList.drop j) (pE Gi us):=by
 intro j ps
 induction ps generalizing j with
 | nil=>intro es K _ _ _ hk;exact ⟨(),[],λ_ _ _=>0,by cases es <;> exact hk,(λi hi=>by cases hi),gF,(λi hi=>by cases hi),(λi b k hi=>by cases hi),λ_ _ _=>trivial⟩
 | cons p ps ih=>
  intro es K hp vQ hj hk;obtain ⟨pm,t⟩:=p;have zb:j+1+ps.length<=C.args.size:=by grind
  have WU:(C.args.toList.drop j).tail=C.args.toList.drop (j+1):=by rw[List.tail_drop]
  have aaC:(C.args.toList.drop j).head?=some (C.args.getD j undef):=by
   simp only[aW] at hj;rw[List.head?_drop,dP,iB (by omega)];simp[show j < C.args.size by omega]
  have hF1:∀ i,i < σ.n->∀ b k,F i b k<=1:=λi hi b k=>by have:=h.pk b k;grind [dv]
  cases pm with
  | ro=>
   obtain ⟨vs,us,Gi,g1,g2,g3,g4,g5,g6⟩:=ih (j+1) es hp vQ zb hk;exact ⟨vs,us,Gi,g1,g2,g3,g4,g5,λA2 hA Bm=>by grind [pi]⟩
  | fix f=>
   obtain ⟨vs,us,Gi,g1,g2,g3,g4,g5,g6⟩:=ih (j+1) es hp vQ zb hk;exact ⟨vs,us,Gi,g1,g2,g3,g4,g5,λA2 hA Bm=>by grind [pi]⟩
  | sg f=>
   obtain ⟨vs,us,Gi,g1,g2,g3,g4,g5,g6⟩:=ih (j+1) es hp vQ zb hk;exact ⟨vs,us,Gi,g1,g2,g3,g4,g5,λA2 hA Bm=>by grind [pi]⟩
  | p6 f=>
   obtain ⟨vs,us,Gi,g1,g2,g3,g4,g5,g6⟩:=ih (j+1) es hp vQ zb hk;exact ⟨vs,us,Gi,g1,g2,g3,g4,g5,λA2 hA Bm=>by grind [pi]⟩
  | jV m0 m=>
   cases es with
   | nil=>cases hk
   | cons i es=>
    have Mr:=cO.1 vQ;simp only[wG] at hk;split at hk
    ·rename_i t' m' H v hg;split at hk
     ·rename_i hc;simp only[aF,bG,dC,bI] at hc;obtain ⟨⟨hH,hm⟩,CJ⟩:=hc;subst hH;obtain ⟨e,hk⟩:=cy hk;subst e;obtain ⟨vs,us,Gi,g1,g2,g3,g4,g5,g6⟩:=ih (j+1) es hp Mr.2 zb hk
      have hi:i < σ.n:=by
       grind [mf]
      have hs:=h.iW i hi;rw[hg] at hs;obtain ⟨b,o,L,F1,s1,s2,s3,s4,s5,s6⟩:=hs;have acp:=h.oL i j (Mp CJ);have WV:i ∉ us:=λhu=>Mr.1 (g2 i hu)
      have Aj:∃ G:FP,(∀ b k,G b k<=F1 b k)/\∀ A2:Cells,(∀ b i,A b i->A2 b i)->(∀ b i,1<=F1 b i->G b i=0->A2 b i)->ao P w A2 t' m [] v L G:=by
       rcases hm with hm | hm
       ·subst hm;exact ⟨F1,λ_ _=>aL _,λA2 hA _=>ao.mono hA (λ_ _ _ _ h=>h) (λ_ _ h=>h) t' s6 (λ_ _=>aL _) (λ_ _ _ _ h=>h)⟩
       ·exact ao.fits t' hm s6 (λb' k=>by grind)
      obtain ⟨G,G1,G2⟩:=Aj;refine ⟨(v,vs),i::us,ge Gi i λb' k=>ep b o t'.sz b' k+G b' k,g1,λi' pj=>?_,cO.2 ⟨WV,g3⟩,λi' pj=>?_,λi' b' k pj=>?_,λA2 hA Bm=>?_⟩
      ·grind
      ·grind
      ·by_cases WW:i'=i
       ·grind [ge]
       ·simp only[ge,aP WW];grind
      ·refine ⟨λb' k=>ep b o t'.sz b' k+G b' k,pE Gi us,λb' k=>?_,⟨b,o,L,G,by grind,s2,s3,λ_ _=>aL _,G2 A2 hA λb' k hp hz=>?_⟩,?_⟩
       ·grind [pE,C3,ge]
       ·grind [ge]
       ·rw[WU];refine g6 A2 hA λi' b' k pj hp hz=>Bm i' b' k (bF _ pj) hp ?_;have kF:i'≠i:=λe=>by grind
        simp only[ge,aP kF];exact hz
     ·cases hk
    ·cases hk
  | k8 m=>
   cases es with
   | nil=>cases hk
   | cons i es=>
    have Mr:=cO.1 vQ;simp only[wG] at hk
    have main:∀ (t':Ty) (m':Md) (H:List Path) (v:t'.den),(σ.get i=.own t' m' H v\/σ.get i=.box t' m' H v)->(if H.isEmpty&&(decide (m'=m)||fits m' m)&&BZ σ.az i j true then jJ t' t v λv=>wG σ (j+1) ps es λvs=>K (v,vs) else none)=some x ->
      ∃ (vs:(bq (ll ((PM.k8 m,t)::ps))).den) (us:List Nat) (Gi:Nat->FP),K vs=some x/\(∀ i' ∈ us,i' ∈ i::es)/\us.Nodup/\(∀ i ∈ us,i < σ.n)/\(∀ i b k,i ∈ us->Gi i b k<=F i b k) /\
       ∀ A2:Cells,(∀ b k,A b k->A2 b k)->(∀ i b k,i ∈ us->1<=F i b k->Gi i b k=0->A2 b k)->pi P w A2 ((PM.k8 m,t)::ps) vs (C.args.toList.drop j) (pE Gi us):=by
     intro t' m' H v hg hk;split at hk
     ·rename_i hc;simp only[aF,bG,dC,bI] at hc;obtain ⟨⟨hH,hm⟩,CJ⟩:=hc;subst hH;obtain ⟨e,hk⟩:=cy hk;subst e;obtain ⟨vs,us,Gi,g1,g2,g3,g4,g5,g6⟩:=ih (j+1) es hp Mr.2 zb hk
      have hi:i < σ.n:=by
       grind [mf]
      have hs:=h.iW i hi
      have jj:∃ (cs:List Value) (F1:FP),dq t' cs=C.args.getD j undef/\(∀ b k,F1 b k<=F i b k)/\ao P w A t' m' [] v cs F1:=by
       have hl:=h.nD i j (Mp CJ);rcases hg with hg | hg
       ·rw[hg] at hs hl;obtain ⟨cs,h1,h2⟩:=hs;have:=hl _ rfl;grind [lu,ao.length,ao.one]
       ·rw[hg] at hs hl;obtain ⟨b,o,L,F1,s1,s2,s3,s4,s5,s6⟩:=hs;rw[s1] at hl;have:=hl _ rfl;grind [fi]
      obtain ⟨qt,F1,abz,hF,s6⟩:=jj;have WV:i ∉ us:=λhu=>Mr.1 (g2 i hu)
      have Aj:∃ G:FP,(∀ b k,G b k<=F1 b k)/\∀ A2:Cells,(∀ b i,A b i->A2 b i)->(∀ b i,1<=F1 b i->G b i=0->A2 b i)->ao P w A2 t' m [] v qt G:=by
       rcases hm with hm | hm
       ·subst hm;exact ⟨F1,λ_ _=>aL _,λA2 hA _=>ao.mono hA (λ_ _ _ _ h=>h) (λ_ _ h=>h) t' s6 (λ_ _=>aL _) (λ_ _ _ _ h=>h)⟩
       ·exact ao.fits t' hm s6 (λb' k=>by grind)
      obtain ⟨G,G1,G2⟩:=Aj;refine ⟨(v,vs),i::us,ge Gi i G,g1,λi' pj=>?_,cO.2 ⟨WV,g3⟩,λi' pj=>?_,λi' b' k pj=>?_,λA2 hA Bm=>?_⟩
      ·grind
      ·grind
      ·by_cases WW:i'=i
       ·subst WW;simp only[ge,aI];grind
       ·simp only[ge,aP WW];grind
      ·refine ⟨G,pE Gi us,λb' k=>?_,⟨qt,by rw[aaC,abz],G2 A2 hA λb' k hp hz=>?_⟩,?_⟩
       ·simp only[pE,C3 Gi i _ b' k us WV];simp only[ge,aI];exact aL _
       ·refine Bm i b' k cA (by grind) ?_;simp only[ge,aI];exact hz
       ·rw[WU];refine g6 A2 hA λi' b' k pj hp hz=>Bm i' b' k (bF _ pj) hp ?_;have kF:i'≠i:=λe=>by grind
        simp only[ge,aP kF];exact hz
     ·cases hk
    split at hk
    ·rename_i t' m' H v hg;exact main t' m' H v (.inl hg) hk
    ·rename_i t' m' H v hg;exact main t' m' H v (.inr hg) hk
    ·cases hk
end
end OT
namespace OT
open Go
section
variable {P:Program} {w:World} {A:Cells} {R:Type} {x:R} {E:Env}
theorem wg:∀ (ps:List (PM×Ty)) (v:(bq (ps.map (·.2))).den),(i_ ps v).length=ps.length
 | [],_=>rfl
 | (.ro,t)::ps,v=>by cases t <;> simp[i_,wg ps v.2]
 | (.fix f,t)::ps,v=>by cases t <;> simp[i_,wg ps v.2]
 | (.jV m m',t)::ps,v=>by simp[i_,wg ps v.2]
 | (.k8 m,t)::ps,v=>by simp[i_,wg ps v.2]
 | (.sg m,t)::ps,v=>by simp[i_,wg ps v.2]
 | (.p6 m,t)::ps,v=>by simp[i_,wg ps v.2]
theorem GY:∀ (ps:List (PM×Ty)) {v:(bq (ps.map (·.2))).den} {xs:List Value} {G:FP},ph P w A L7 ps v xs G->xs.length=ps.length
 | [],_,_,_,h=>by have h:_=[]:=h;rw[h];rfl
 | (pm,t)::ps,_,_,_,h=>by
  obtain ⟨y,ys,F1,F2,rfl,_,_,h2⟩:=h;simp[GY ps h2]
theorem XW:∀ (ps:List (PM×Ty)) {v:(bq (ps.map (·.2))).den} {xs:List Value} {G:FP},ph P w A L7 ps v xs G->GX ps=true ->
  ∃ Fi:Nat->FP,(∀ b k,bg ps.length Fi b k<=G b k)/\∀ i s,(i_ ps v)[i]?=some s->∃ y,xs[i]?=some y/\(∀ σ a,c8 P A σ a w y s (Fi i))/\(∀ t m H v,s=.box t m H v->(i,i,false) ∈ uM 0 ps) /\
   ((i,i,true) ∈ uM 0 ps->∃ t m H v,s=.own t m H v):=by
 have main:∀ (ps:List (PM×Ty)) (n:Nat) {v:(bq (ps.map (·.2))).den} {xs:List Value} {G:FP},ph P w A L7 ps v xs G->GX ps=true ->
   ∃ Fi:Nat->FP,(∀ b k,bg ps.length Fi b k<=G b k)/\∀ i s,(i_ ps v)[i]?=some s->∃ y,xs[i]?=some y/\(∀ σ a,c8 P A σ a w y s (Fi i))/\(∀ t m H v,s=.box t m H v->(n+i,n+i,false) ∈ uM n ps) /\
    ((n+i,n+i,true) ∈ uM n ps->∃ t m H v,s=.own t m H v):=by
  have ax:∀ (ps:List (PM×Ty)) (n j k:Nat) (c:Bool),(j,k,c) ∈ uM n ps->n<=j/\j=k:=by
   intro ps
   induction ps with
   | nil=>intro n j k c h;cases h
   | cons p ps ih=>
    intro n j k c h;obtain ⟨pm,t⟩:=p
    cases pm with
    | ro=>have:=ih (n+1) j k c h;omega
    | fix f=>have:=ih (n+1) j k c h;omega
    | p6 m=>have:=ih (n+1) j k c h;omega
    | jV m m'=>
     rcases bB.1 h with e | h
     all_goals grind
    | sg m=>
     rcases bB.1 h with e | h
     all_goals grind
    | k8 m=>
     rcases bB.1 h with e | h
     all_goals grind
  intro ps
  induction ps with
  | nil=>intro n v xs G h _;exact ⟨λ_ _ _=>0,λb k=>bD _,λi s hs=>by cases hs⟩
  | cons p ps ih=>
   intro n v xs G h hp;obtain ⟨pm,t⟩:=p;obtain ⟨y,ys,F1,F2,rfl,hs,ha,hr⟩:=h;have hp':GX ps=true:=hp;obtain ⟨Fi,g1,g2⟩:=ih (n+1) hr hp'
   obtain ⟨s0,hs0,U_,YS,jE⟩:∃ s0,i_ ((pm,t)::ps) v=s0::i_ ps v.2/\(∀ σ a,c8 P A σ a w y s0 F1)/\(∀ t' m' H' v',s0=.box t' m' H' v'->∃ m,(∃ m',pm=.jV m m')\/pm=.sg m)/\((∃ m,pm=.k8 m)->∃ t' m H v,s0=.own t' m H v):=by
    cases pm with
    | ro=>
     obtain ⟨cs,h1,h2⟩:=ha
     cases t with
     | ptr e=>
      refine ⟨.cp e v.1,rfl,λσ a=>?_,(λ_ _ _ _ e=>by cases e),λ⟨m,e⟩=>by cases e⟩
      have hl:=Ro.length _ h2
      match cs,hl with
      | [u],_=>
       rw[eo _ _ rfl] at h1;subst h1;exact h2
     | _=>exact ⟨.val _ v.1,rfl,λσ a=>⟨cs,h1,h2⟩,(λ_ _ _ _ e=>by cases e),λ⟨m,e⟩=>by cases e⟩
    | fix f=>
     obtain ⟨⟨cs,h1,h2⟩,h3⟩:=ha
     cases t with
     | fn=>
      refine ⟨.val .fn (f,v.1.2),rfl,λσ a=>⟨cs,h1,?_⟩,(λ_ _ _ _ e=>by cases e),λ⟨m,e⟩=>by cases e⟩
      grind
     | _=>exact ⟨.dead,rfl,λσ a=>trivial,(λ_ _ _ _ e=>by cases e),λ⟨m,e⟩=>by cases e⟩
    | jV m m'=>
     obtain ⟨b,o,L,F3,h1,h2,h3,h4,h5,h6⟩:=ha;exact ⟨.box t m [] v.1,rfl,λσ a=>⟨b,o,L,F3,h1,h2,h3,h4,h5,h6⟩,λ_ _ _ _ _=>⟨m,.inl ⟨m',rfl⟩⟩,λ⟨m,e⟩=>by cases e⟩
    | sg m=>
     obtain ⟨b,o,L,F3,h1,h2,h3,h4,h5,h6⟩:=ha;exact ⟨.box t m [] v.1,rfl,λσ a=>⟨b,o,L,F3,h1,h2,h3,h4,h5,h6⟩,λ_ _ _ _ _=>⟨m,.inr rfl⟩,λ⟨m,e⟩=>by cases e⟩
    | k8 m=>
     obtain ⟨cs,h1,h2⟩:=ha;exact ⟨.own t m [] v.1,rfl,λσ a=>⟨cs,h1,h2⟩,(λ_ _ _ _ e=>by cases e),λ_=>⟨_,_,_,_,rfl⟩⟩
    | p6 m=>
     obtain ⟨H,cs,hH,h1,h2⟩:=ha;obtain rfl:=bG.1 hH;exact ⟨.own t m [] v.1,rfl,λσ a=>⟨cs,h1,h2⟩,(λ_ _ _ _ e=>by cases e),λ_=>⟨_,_,_,_,rfl⟩⟩
   refine ⟨λk=>match k with | 0=>F1 | k+1=>Fi k,λb k=>?_,λi s hi=>?_⟩
   ·have:bg (ps.length+1) (λk=>match k with | 0=>F1 | k+1=>Fi k) b k=F1 b k+bg ps.length Fi b k:=by
     rw[Nat.add_comm,xM];grind [bg]
    grind
   ·rw[hs0] at hi
    cases i with
    | zero=>
     injection hi with hi;subst hi;refine ⟨y,rfl,U_,λt' m' H' v' e=>?_,λhm=>?_⟩
     ·obtain ⟨m,⟨_,rfl⟩ | rfl⟩:=YS t' m' H' v' e
      ·exact cA
      ·exact cA
     ·refine jE ?_
      cases pm with
      | k8 m=>exact ⟨m,rfl⟩
      | ro=>have:=ax ps (n+1) _ _ _ hm;omega
      | fix f=>have:=ax ps (n+1) _ _ _ hm;omega
      | p6 m=>have:=ax ps (n+1) _ _ _ hm;omega
      | jV m m'=>
       rcases bB.1 hm with e | hm
       all_goals grind
      | sg m=>
       rcases bB.1 hm with e | hm
       all_goals grind
    | succ i=>
     obtain ⟨y',q1,q2,q3,q4⟩:=g2 i s hi;have abA:n+1+i=n+(i+1):=by omega
     rw[abA] at q3 q4;refine ⟨y',q1,q2,λt' m' H' v' e=>?_,λhm=>q4 ?_⟩
     ·have:=q3 t' m' H' v' e
      cases pm with
      | ro=>exact this
      | fix f=>exact this
      | p6 m=>exact this
      | jV m m'=>exact bF _ this
      | sg m=>exact bF _ this
      | k8 m=>exact bF _ this
     ·cases pm with
      | ro=>exact hm
      | fix f=>exact hm
      | p6 m=>exact hm
      | jV m m'=>
       rcases bB.1 hm with e | hm
       all_goals grind
      | sg m=>
       rcases bB.1 hm with e | hm
       all_goals grind
      | k8 m=>
       rcases bB.1 hm with e | hm
       all_goals grind
 intro ps v xs G h hp;obtain ⟨Fi,g1,g2⟩:=main ps 0 h hp;exact ⟨Fi,g1,λi s hi=>by grind⟩
theorem Ms:∀ (ps:List (PM×Ty)) (n j k:Nat) (c:Bool),(j,k,c) ∈ uM n ps->n<=j/\j=k/\j < n+ps.length:=by
 intro ps
 induction ps with
 | nil=>intro n j k c h;cases h
 | cons p ps ih=>
  intro n j k c h;obtain ⟨pm,t⟩:=p;simp only[aW]
  cases pm with
  | ro=>have:=ih (n+1) j k c h;omega
  | fix f=>have:=ih (n+1) j k c h;omega
  | p6 m=>have:=ih (n+1) j k c h;omega
  | jV m m'=>
   rcases bB.1 h with e | h
   all_goals grind
  | sg m=>
   rcases bB.1 h with e | h
   all_goals grind
  | k8 m=>
   rcases bB.1 h with e | h
   all_goals grind
theorem Mt:∀ (ss:List Slot) (n i:Nat),nO (zT n ss) i=if n<=i then ss[i - n]? else none
 | [],n,i=>by simp[zT,nO]
 | s::ss,n,i=>by
  simp only[zT,nO,Mt ss (n+1) i];by_cases hi:n=i
  ·simp_all
  grind [Nat.eq_of_beq_eq_true]
theorem Va {g:uL} {v:(bq (g.ps.map (·.2))).den} {xs:List Value} {F0:FP} {n:Nat} (h:ph P w A L7 g.ps v xs F0) (hp:GX g.ps=true) (hn:g.ps.length<=n) (h1:∀ b i,F0 b i<=1) (h2:∀ b i,1<=F0 b i->¬ A b i) (h3:∀ b i,1<=F0 b i\/A b i->b < w.heap.size) (Mu:vZ P w F0) :
  ∃ F,d_ P { w0:=w,A0:=A,F0:=F0,args:=xs.toArray } A (B5 g.ps v n) { tmps:=xs.toArray++Array.replicate (n - xs.toArray.size) undef,defers:=[] } w F:=by
 obtain ⟨Fi,g1,g2⟩:=XW g.ps h hp;have hlen:=GY g.ps h;have Y9:=wg g.ps v
 have wR:∀ i,(B5 g.ps v n).get i=if i < n then (match (i_ g.ps v)[i]? with | some s=>s | none=>.dead) else .dead:=λi=>by
  grind [St.get,B5,Mt,Nat.blt_eq]
 have abB:∀ i (y:Value),xs[i]?=some y->tmp { tmps:=xs.toArray++Array.replicate (n - xs.toArray.size) undef,defers:=[] } i=y:=λi y hy=>by
  have hi:=(aR.1 hy).1;simp_all [tmp,fP]
 have qa:∀ b k,bg n (λi=>if i < g.ps.length then Fi i else λ_ _=>0) b k<=F0 b k:=λb k=>by
  have e:n=g.ps.length+(n - g.ps.length):=by omega
  rw[e,xM];have e1:=congrFun (congrFun (wH (n:=g.ps.length) (f:=λi=>if i < g.ps.length then Fi i else λ_ _=>0) (g:=Fi) (λj hj=>by grind)) b) k;grind [m_]
 refine ⟨λi=>if i < g.ps.length then Fi i else λ_ _=>0,?_,rfl,λi hi=>?_,(λd r p snap hm=>by cases hm),λb k=>?_,λb k hp=>?_,λb k hp=>?_,λi=>rfl,Ext.refl _ _,λb k hp=>?_,λ_ _ h=>h,λ_ _ h=>.inl h,λj k hm=>?_,λr t m H v' hg hl=>?_,λj k hm R hR=>?_,Mu⟩
 ·grind [B5]
 ·rw[wR];have hi:i < n:=hi;rw[aM hi]
  cases hs:(i_ g.ps v)[i]? with
  | none=>trivial
  | some s=>
   grind
 ·have:=qa b k;have:=h1 b k;show 0+bg n _ b k<=1;omega
 ·have hp:1<=0+bg n (λi=>if i < g.ps.length then Fi i else λ_ _=>0) b k:=hp;grind
 ·refine h3 b k (hp.imp (λhp=>?_) id);have hp:1<=0+bg n (λi=>if i < g.ps.length then Fi i else λ_ _=>0) b k:=hp;grind
 ·have hp:1<=0+bg n (λi=>if i < g.ps.length then Fi i else λ_ _=>0) b k:=hp;grind
 ·obtain ⟨_,rfl,hj⟩:=Ms g.ps 0 j k false hm;simp_all
 ·exfalso;rw[wR] at hg;split at hg
  ·cases hs:(i_ g.ps v)[r]? with
   | none=>grind
   | some s=>
    rw[hs] at hg;obtain ⟨y,_,_,q3,_⟩:=g2 r s hs;exact hl r (q3 t m H v' hg)
  ·cases hg
 ·obtain ⟨_,rfl,hj⟩:=Ms g.ps 0 j k true hm;have zb:j < (i_ g.ps v).length:=by omega
  have hs:=aB zb;obtain ⟨y,q1,q2,_,q4⟩:=g2 j _ hs;obtain ⟨t,m,H,v',e⟩:=q4 hm;have hjn:j < n:=by omega
  rw[wR,aM hjn,hs] at hR;simp only[e,d8,aS] at hR;subst hR;rw[abB j y q1];have h2:=q2 (B5 g.ps v n) { tmps:=#[],defers:=[] };rw[e] at h2;obtain ⟨cs,c1,c2⟩:=h2;have:=lu (ao.length _ c2) (ao.one _ c2);simp_all
noncomputable def K_ (P:Program) (E:Env) (fn:Func) (ps:List (PM×Ty)) (rs:List (Ty×Md)) (es:List Nat):Bool:=
 codeOk P E (D7 fn)&&GW E rs fn.results.toList&&GX ps&&Nat.ble ps.length fn.ntmps&&decide es.Nodup
theorem KO (hE:ta P E) {f:FuncId} {fn:Func} (hf:P.funcs[f]?=some fn) (hb:fn.body.isSome=true) {g:uL} (hh:∀ v H,g.FR v H=true->H=[]) {es fr:List Nat} (ba:K_ P E fn g.ps g.rs es=true) (hF:∀ v out,g.F v=some out->∃ k,K3 E k fn g.ps g.rs es fr v=some out):Sound P f g:=by
 intro w A F0 v xs mC h1 h2 h3 Mu out sO;replace mC:=mC.none (hh v);obtain ⟨k,hk⟩:=hF v out sO;simp only[K_,aF,dK,bI] at ba;obtain ⟨⟨⟨⟨WX,WT⟩,wY⟩,Ww⟩,vQ⟩:=ba;obtain ⟨c,hc⟩:=eC.1 hb;have hbo:D7 fn=c:=by simp[D7,hc]
 rw[hbo] at WX;obtain ⟨F,U_⟩:=Va mC wY Ww h1 h2 h3 Mu;unfold K3 at hk;rw[hbo] at hk;have hxl:=GY g.ps mC
 have Vb:∀ (a':Act) (w':World) (σ':St),LA g.ps g.rs es fn.results.toList (Wj fr) σ'=some out->Eh P { w0:=w,A0:=A,F0:=F0,args:=xs.toArray } σ' a' w' ->
   a'.defers=[]/\∃ rv,(results fn a'.tmps).run P w'=.ok rv w'/\(∃ rv',Ending.returned rv=.returned rv'/\Ext w w' F0/\∃ (A':Cells) (G GR GM:FP),(∀ b i,A b i->A' b i)/\(∀ b i,A' b i->A b i\/1<=F0 b i\/w.heap.size<=b) /\
    (∀ b i,1<=G b i->1<=F0 b i\/w.heap.size<=b)/\(∀ b i,G b i<=1)/\(∀ b i,1<=G b i->¬ A' b i)/\(∀ b i,1<=G b i\/A' b i->b < w'.heap.size)/\(∀ b i,GR b i+GM b i<=G b i) /\
    oB P w' A' (lm g.rs out).1 rv' GR/\pi P w' A' g.ps (lm g.rs out).2 xs GM):=by
  intro a' w' σ' ho hr;obtain ⟨A1,F1,hr⟩:=hr;unfold LA at ho;obtain ⟨A2,ml,X2,F2,C0,L,Fi,pre,r1,r2,r3,r4,r5,r6,r7,r8,r9⟩:=Zw hE g.rs fn.results.toList 0 WT hr ho;obtain ⟨vs,us,Gi,m1,m2,m3,m4,m5,m6⟩:=XV r2 0 g.ps es wY vQ (by simp[hxl]) r3;have abC:pre vs=out:=Option.some.inj m1;have pL:lm g.rs out=(L,vs):=by rw[<-abC,r4]
  have hGR:∀ b i,bg L.length Fi b i<=X2 b i:=λb i=>by grind
  have abD:∀ b i,pE Gi us b i<=pE F2 us b i:=λb i=>by
   have:∀ l:List Nat,(∀ j ∈ l,j ∈ us)->pE Gi l b i<=pE F2 l b i:=by
    intro l
    induction l <;> grind [pE]
   grind
  have hGM:∀ b i,pE Gi us b i<=bg ml.n F2 b i:=λb i=>bL (abD b i) (PC us F2 m3 m4 b i);refine ⟨r2.defers,_,Og (by rw[r6]) r7,_,rfl,r2.ext,?_⟩
  obtain ⟨A3,rF⟩:∃ A3:Cells,∀ b i,A3 b i↔(A2 b i\/(1<=X2 b i+bg ml.n F2 b i/\bg L.length Fi b i+pE Gi us b i=0)):=⟨λb i=>A2 b i\/(1<=X2 b i+bg ml.n F2 b i/\bg L.length Fi b i+pE Gi us b i=0),λ_ _=>iH⟩
  have Zx:∀ b i,A2 b i->A3 b i:=λb i h=>(rF b i).2 (.inl h);have wQ:∀ b i,X2 b i+bg ml.n F2 b i<=1:=λb i=>r2.pk b i;refine ⟨A3,λb i=>bg L.length Fi b i+pE Gi us b i,bg L.length Fi,pE Gi us,λb i ha=>Zx b i (r2.a0 b i ha),λb i ha=>?_,λb i hp=>?_,λb i=>?_,λb i hp ha=>?_,λb i hp=>?_,λ_ _=>aL _,?_,?_⟩
  ·rcases (rF b i).1 ha with ha | ⟨hp,_⟩
   ·exact r2.a1 b i ha
   ·exact .inr (r2.own b i hp)
  ·have hp:1<=bg L.length Fi b i+pE Gi us b i:=hp;exact r2.own b i (by grind)
  ·grind
  ·have hp:1<=bg L.length Fi b i+pE Gi us b i:=hp
   rcases (rF b i).1 ha with ha | ⟨_,hz⟩
   ·exact r2.qb b i (by grind) ha
   ·omega
  ·rcases hp with hp | ha
   ·have hp:1<=bg L.length Fi b i+pE Gi us b i:=hp;exact r2.kN b i (.inl (by grind))
   ·rcases (rF b i).1 ha with ha | ⟨hp,_⟩
    ·exact r2.kN b i (.inr ha)
    ·exact r2.kN b i (.inl hp)
  ·rw[pL]
   have QT:=r9 A3 Zx (λb i hx _ hz=>(rF b i).2 (.inr ⟨by omega,by
    grind⟩))
   show oB P w' A3 L _ _
   match L,r5,QT with
   | [],_,_=>trivial
   | [y],hl,QT=>
    match C0,hl with
    | [u],_=>
     obtain ⟨u',cs,e1,e2,e3⟩:=QT 0 y rfl;injection e1 with e1;subst e1;refine ⟨cs,by simpa using e2,e3.le λb i=>by simp[bg]⟩
   | y::z::L,hl,QT=>
    refine ⟨C0.toArray,Fi,?_,λ_ _=>aL _,λj q hq=>?_⟩
    all_goals grind
  grind [dv,Mq,uN]
 refine calls_of_wp hf hc (wp_mono (XU hE c WX U_ hk) λe a' w' hq=>?_)
 cases e with
 | normal=>obtain ⟨σ',h4,h5⟩:=hq;exact Vb a' w' σ' h4 h5
 | ret=>obtain ⟨σ',h4,h5⟩:=hq;exact Vb a' w' σ' h4 h5
 | exit j=>obtain ⟨σ',h4,h5⟩:=hq;cases h4
 | _=>exact hq.elim
end
end OT
namespace OT
open Go
def Mv (w:World):Cells:=λb _=>b < w.heap.size
def BO:Ty->Bool
 | .int _ | .bool | .str | .unit=>true
 | .pair a b=>BO a&&BO b
 | .aa e=>BO e
 | _=>false
def sm:(T:Ty)->T.den->Prop
 | .int k,n=>k.min<=pU k n/\pU k n<=k.max
 | .str,s=>List.length s<=maxLen
 | .pair a b,v=>sm a v.1/\sm b v.2
 | .aa e,v=>List.length v<=maxLen/\∀ x ∈ (v:List e.den),sm e x
 | _,_=>True
def Tn:(ps:List (PM×Ty))->(bq (ps.map (·.2))).den->Prop
 | [],_=>True
 | (_,T)::ps,v=>sm T v.1/\Tn ps v.2
section
variable {P:Program} {w:World} {H:Type} {enc:TypeId×Value->H}
theorem GZ {T:Ty} {i:TypeId} (h:bi P T (.inl i)=true):P.cellsOf i=T.sz:=by
 obtain ⟨inf,h1,h2,_⟩:=lc (nf h);grind [Program.cellsOf]
theorem Vc {a:Addr} {k:Nat} {u:Value} (h:w.cell? (a.add k)=some u) (hk:k=0\/a.spot=none):a.spot=none:=by
 rcases hk with rfl | hk
 ·unfold Addr.add at h;rw[aM rfl] at h;unfold World.cell? at h;split at h
  all_goals simp_all
 ·exact hk
theorem XX:∀ (T:Ty),BO T=true ->
  (∀ i,bi P T (.inl i)=true->∀ fuel cs x,DataW.trod enc P w 0 (λ_=>true) true fuel i cs=some x->∃ v:T.den,sm T v/\Ro P w (Mv w) T v cs) /\
  (∀ fs off,bi P T (.inr (fs,off))=true->∀ n (cs:List Value),cs.length=off+T.sz->(∀ f ∈ fs,∃ x,DataW.trod enc P w 0 (λ_=>true) true n f.type ((cs.drop f.offset).take (P.cellsOf f.type))=some x)->∃ v:T.den,sm T v/\Ro P w (Mv w) T v (cs.drop off)):=by
 intro T
 induction T with
 | int k=>
  intro _;refine ⟨λi hl fuel cs x h=>?_,λfs off hl=>by simp[bi] at hl⟩
  obtain ⟨n,rfl,_,WY⟩:=DataW.trod_int (qq hl) h;simp only[Lit.wf,aF,bI] at WY
  cases k with
  | u8=>
   have h1:pU .u8 (UInt8.ofInt n)=n:=by
    have:=Je .u8 n (λ_=>by
     have h1:(0:Int)<=n:=WY.1;have h2:n<=(255:Int):=WY.2
     omega)
    exact this
   refine ⟨(UInt8.ofInt n:UInt8),?_,?_⟩
   ·show IntKind.u8.min<=pU .u8 (UInt8.ofInt n)/\pU .u8 (UInt8.ofInt n)<=IntKind.u8.max;grind
   ·show [Value.int .u8 n]=[Value.int .u8 (pU .u8 (UInt8.ofInt n))]
    rw[h1]
  | _=>exact ⟨n,WY,rfl⟩
 | bool=>
  intro _;refine ⟨λi hl fuel cs x h=>?_,λfs off hl=>by simp[bi] at hl⟩
  have hu:P.underlying i=some .bool:=by
   grind [bi]
  obtain ⟨b,rfl,_⟩:=DataW.trod_bool hu h;exact ⟨b,trivial,rfl⟩
 | str=>
  intro _;refine ⟨λi hl fuel cs x h=>?_,λfs off hl=>by simp[bi] at hl⟩
  obtain ⟨s,rfl,_,hsm⟩:=DataW.trod_string (mY hl) h;exact ⟨s.data.toList,(by show s.data.toList.length<=maxLen;simp_all),by simp only[Ro]⟩
 | unit=>
  intro _;refine ⟨λi hl fuel cs x h=>?_,λfs off hl n cs hlen _=>⟨(),trivial,?_⟩⟩
  ·simp only[bi,aF] at hl;have h2:=hl.2;split at h2
   ·rename_i fs hu;obtain ⟨xs,n,_,_,hlen,_⟩:=DataW.trod_struct hu h
    have nC:P.cellsOf i=0:=by
     grind [lc,Program.cellsOf,Ty.sz]
    rw[nC] at hlen;exact ⟨(),trivial,by grind [Ro]⟩
   ·cases h2
  grind [Ro,List.drop_of_length_le,Ty.sz]
 | pair a b mX mO=>
  intro ha;simp only[BO,aF] at ha
  have Zy:∀ fs off,bi P (.pair a b) (.inr (fs,off))=true->∀ n (cs:List Value),cs.length=off+(Ty.pair a b).sz->(∀ f ∈ fs,∃ x,DataW.trod enc P w 0 (λ_=>true) true n f.type ((cs.drop f.offset).take (P.cellsOf f.type))=some x)->∃ v:(Ty.pair a b).den,sm (.pair a b) v/\Ro P w (Mv w) (.pair a b) v (cs.drop off):=by
   intro fs off hl n cs hlen hf
   cases fs with
   | nil=>simp[bi] at hl
   | cons f r=>
    simp only[bi,aF,eN,dK] at hl;obtain ⟨⟨⟨ho,_⟩,h1⟩,h2⟩:=hl;simp only[Ty.sz] at hlen;obtain ⟨x,hx⟩:=hf f cA;rw[ho,GZ h1] at hx;obtain ⟨v1,o1,r1⟩:=(mX ha.1).1 _ h1 _ _ _ hx;obtain ⟨v2,o2,r2⟩:=(mO ha.2).2 r (off+a.sz) h2 n cs (by omega) (λf' WZ=>hf f' (bF _ WZ));exact ⟨(v1,v2),⟨o1,o2⟩,r1,by simp_all⟩
  refine ⟨λi hl fuel cs x h=>?_,Zy⟩
  have Y7:=hl;simp only[bi,aF] at hl;have h2:=hl.2;split at h2
  ·rename_i fs hu;split at h2
   ·rename_i f r HJ
    have h3:bi P (.pair a b) (.inr (f::r,0))=true:=by
     grind [bi]
    obtain ⟨xs,n,_,_,hlen,hxl,XY⟩:=DataW.trod_struct hu h;rw[GZ Y7] at hlen
    have:=Zy (f::r) 0 h3 n cs (by omega) (λf' WZ=>by
     rw[<-HJ] at WZ;obtain ⟨j,hj,e⟩:=cV.1 WZ;have zb:j < fs.size:=by simpa using hj
     have:=XY j f' (by grind)
     grind)
    simpa using this
   ·cases h2
  ·cases h2
 | aa e ih=>
  intro ha;simp only[BO] at ha;refine ⟨λi hl fuel cs x h=>?_,λfs off hl=>by simp[bi] at hl⟩
  obtain ⟨el,hu,nC,hle⟩:=uw hl
  rcases DataW.trod_slice hu h with ⟨rfl,_⟩ | ⟨a,len,cap,elems,rest,n,_,rfl,_,_,hlc,hcm,sk,Vd,qu,_⟩
  ·exact ⟨[],⟨bD _,λx hx=>by cases hx⟩,none,0,rfl,aL _,λ_=>rfl,λad e=>by cases e⟩
  ·rw[GZ hle] at Vd qu
   have tR:∀ k y,(w.cells? 0 (a.add (k*e.sz)) e.sz).bind (DataW.trod enc P w 0 (λ_=>true) true n el)=some y->∃ bu,w.cells? 0 (a.add (k*e.sz)) e.sz=some bu/\DataW.trod enc P w 0 (λ_=>true) true n el bu=some y:=λk y hk=>by
    cases hc:w.cells? 0 (a.add (k*e.sz)) e.sz <;> grind
   have W0:0 < cap->a.spot=none:=λGQ=>by
    have L5:∃ bu,w.cells? 0 (a.add (0*e.sz)) e.sz=some bu:=by
     by_cases hlen:0 < len
     ·have h0:=Vd 0 hlen;rw[aB (by omega)] at h0;obtain ⟨bu,h1,_⟩:=tR 0 _ h0;grind
     ·obtain rfl:len=0:=by omega
      obtain ⟨wM,wu⟩:=qu rfl;have h0:=wu 0 (by omega);rw[aB (by omega)] at h0;obtain ⟨bu,h1,_⟩:=tR (0+0) _ h0;grind
    obtain ⟨bu,h1⟩:=L5;obtain ⟨_,xF,h2⟩:=World.cells?_some h1;grind [Addr.add,Vc]
   have each:∀ k:Fin len,∃ v:e.den,sm e v/\∃ L:List Value,L.length=e.sz/\(∀ j u,L[j]?=some u->ce w a.block (a.off+k.val*e.sz+j)=some u/\Mv w a.block (a.off+k.val*e.sz+j))/\Ro P w (Mv w) e v L:=λk=>by
    have h0:=Vd k.val k.isLt;rw[aB (by grind)] at h0;obtain ⟨bu,h1,h2⟩:=tR k.val _ h0;obtain ⟨v,ho,hv⟩:=(ih ha).1 _ hle _ _ _ h2;obtain ⟨_,xF,h3⟩:=World.cells?_some h1;refine ⟨v,ho,bu,xF,λj u hu=>?_,hv⟩
    have hj:=(aR.1 hu).1;have h4:=h3 j (by omega);rw[hu] at h4;have pL:=W0 (by grind);obtain ⟨b,off,sp⟩:=a;simp only at pL;subst pL;rw[qF,qF] at h4;have h5:ce w b (off+k.val*e.sz+j)=some u:=Fx h4 (Ro.one e hv u (cD hu));exact ⟨h5,wX h5⟩
   obtain ⟨f,hf⟩:=gC each;refine ⟨List.ofFn f,⟨by simp;omega,λx hx=>?_⟩,some a,cap,by simp,by simpa using hlc,(λe=>by cases e),λad e=>?_⟩
   ·grind
   injection e with e;subst e;refine ⟨W0,λk y hk=>?_⟩
   rw[List.getElem?_ofFn] at hk;split at hk
   ·rename_i ax;injection hk with hk;subst hk;exact (hf ⟨k,ax⟩).2
   ·cases hk
 | _=>grind [BO]
theorem arg_val {T:Ty} (ha:BO T=true) {i:TypeId} (hl:bi P T (.inl i)=true) {r:Reach} {b0:Nat} {v:Value} (h:Value.okWide P w r b0 i v):v=dq T v.cells.toList:=by
 cases T with
 | int k=>
  have hu:=qq hl;cases v <;> simp[Value.okWide,Cell.okWide,Cell.ok,hu] at h <;> simp[dq,isAgg,Value.cells]
 | bool=>
  have hu:P.underlying i=some .bool:=by
   grind [bi]
  cases v <;> simp[Value.okWide,Cell.okWide,Cell.ok,hu] at h <;> simp[dq,isAgg,Value.cells]
 | str=>
  have hu:=mY hl;cases v <;> simp[Value.okWide,Cell.okWide,Cell.ok,hu] at h <;> simp[dq,isAgg,Value.cells]
 | aa e=>
  obtain ⟨el,hu,_⟩:=uw hl;cases v <;> simp[Value.okWide,Cell.okWide,Cell.ok,hu] at h <;> simp[dq,isAgg,Value.cells]
 | unit=>
  simp only[bi,aF] at hl;have h2:=hl.2;split at h2
  ·rename_i fs hu;simp only[Value.okWide,hu] at h;obtain ⟨cs,rfl,_⟩:=h;simp[dq,isAgg,Value.cells]
  ·cases h2
 | pair a b=>
  simp only[bi,aF] at hl;have h2:=hl.2;split at h2
  ·rename_i fs hu;simp only[Value.okWide,hu] at h;obtain ⟨cs,rfl,_⟩:=h;simp[dq,isAgg,Value.cells]
  ·cases h2
 | _=>simp[BO] at ha
def Bn (P:Program):List (PM×Ty)->List TypeId->Bool
 | [],[]=>true
 | (.ro,T)::ps,t::ts=>BO T&&bi P T (.inl t)&&P.readableRec t&&Nat.blt t P.types.size&&Bn P ps ts
 | _,_=>false
theorem PD:∀ (ps:List (PM×Ty)) (ts:List TypeId) (args:List Value) (ds:List (DataW H)) (p:List MemPlace) {b0:Nat},Bn P ps ts=true->DataW.TrodAll enc P w 0 (λ_=>true) true ts args ds p ->
  (∀ (j:Nat) t v,ts[j]?=some t->args[j]?=some v->Value.okWide P w .any b0 t v)->∃ v,Tn ps v/\ph P w (Mv w) L7 ps v args (λ_ _=>0)
 | [],[],args,ds,p,b0,_,h,_=>by
  cases args with
  | nil=>exact ⟨(),trivial,rfl⟩
  | cons _ _=>simp[DataW.TrodAll] at h
 | (.ro,T)::ps,t::ts,args,ds,p,b0,hl,h,ba=>by
  simp only[Bn,aF] at hl
  cases args with
  | nil=>simp[DataW.TrodAll] at h
  | cons v args=>
   cases ds with
   | nil=>simp[DataW.TrodAll] at h
   | cons d ds=>
    obtain ⟨p1,q1,⟨fuel,h1⟩,h2,_⟩:=h;obtain ⟨x,hox,hx⟩:=(XX T hl.1.1.1.1).1 t hl.1.1.1.2 _ _ _ h1;obtain ⟨xs,abE,hxs⟩:=PD ps ts args ds q1 (b0:=b0) hl.2 h2 (λj t' v' ht hv=>ba (j+1) t' v' ht hv);exact ⟨(x,xs),⟨hox,abE⟩,v,args,λ_ _=>0,λ_ _=>0,rfl,λ_ _=>aL _,⟨_,arg_val hl.1.1.1.1 hl.1.1.1.2 (ba 0 t v rfl rfl),hx⟩,hxs⟩
theorem J8 (vN:laidOutB P=true) {W W':World} (hb:RowKit.Below W.heap.size W W') {sp:Nat->Bool}:∀ (ps:List (PM×Ty)) (ts:List TypeId) (args:List Value) (ds:List (DataW H)) (p:List MemPlace),Bn P ps ts=true->DataW.TrodAll enc P W 0 (λ_=>true) true ts args ds p ->
  (∀ x ∈ p,x.block < W.heap.size)->(∀ x ∈ p,sp x.block=true)->DataW.TrodAll enc P W' 0 sp true ts args ds p
 | [],[],args,ds,p,_,h,_,_=>by
  grind [DataW.TrodAll]
 | (.ro,T)::ps,t::ts,args,ds,p,hl,h,ax,pL=>by
  simp only[Bn,aF] at hl
  cases args with
  | nil=>simp[DataW.TrodAll] at h
  | cons v args=>
   cases ds with
   | nil=>simp[DataW.TrodAll] at h
   | cons d ds=>
    obtain ⟨p1,q1,h1,h2,rfl⟩:=h;have ht:t < P.types.size:=by simp_all
    exact ⟨p1,q1,WideElems.Trod_stays vN hl.1.1.2 ht h1 (λx hx=>hb.same (ax x (List.mem_append_left _ hx))) (λx hx=>pL x (List.mem_append_left _ hx)),
     J8 vN hb ps ts args ds q1 hl.2 h2 (λx hx=>ax x (List.mem_append_right _ hx)) (λx hx=>pL x (List.mem_append_right _ hx)),rfl⟩
theorem To {f:FuncId} {cap:Bool} {ps:List (PM×Ty)} {Fn:(bq (ps.map (·.2))).den->Option (bq ([((Ty.bool,ak .bool):Ty×Md)].map (·.1)++ll ps)).den} (hs:Sound P f { cap:=cap,ps:=ps,rs:=[(.bool,ak .bool)],F:=Fn }) (QU:∀ v,Tn ps v->∃ u,Fn v=some (true,u))
  {ts:List TypeId} (hl:Bn P ps ts=true) {args:List Value} {ds:List (DataW H)} {p:List MemPlace} (hA:DataW.TrodAll enc P w 0 (λ_=>true) true ts args ds p) {b0:Nat} (ba:∀ (j:Nat) t v,ts[j]?=some t->args[j]?=some v->Value.okWide P w .any b0 t v) (ht:vZ P w λ_ _=>0) :
  Calls P f args.toArray w λe W'=>e=.returned (.bool true)/\RowKit.Below w.heap.size w W':=by
 obtain ⟨v,hov,hv⟩:=PD ps ts args ds p hl hA ba;obtain ⟨u,hu⟩:=QU v hov;refine (hs w (Mv w) (λ_ _=>0) v args hv (λ_ _=>bD _) (λb i h=>by omega) (λb i h=>?_) ht _ hu).mono λe W' h=>?_
 ·rcases h with h | h
  ·omega
  ·exact h
 ·obtain ⟨rv,rfl,gf,A',G,GR,GM,_,_,_,_,_,_,_,uC,_⟩:=h;obtain ⟨cs,h1,h2⟩:=uC;simp only[lm] at h1 h2;have h2:cs=[.bool true]:=h2;subst h2;exact ⟨by rw[h1];rfl,gf.os,gf.tape,gf.output,gf.size,λb hb=>gf.obj b hb λ_=>rfl⟩
theorem Ve {C:Checked} {f:Func} {s:ChangeSpec} {W W':World} {args:Array Value} {ds:List (DataW H)} {p:List MemPlace} {apart fresh handsOn:Bool} (vN:laidOutB P=true) {ps:List (PM×Ty)} {ts:List TypeId} (hts:f.params.toList=ts) (hl:Bn P ps ts=true) {tb:TypeId} (hr:f.resultTypes=#[tb]) (hu:P.underlying tb=some .bool)
  (aaD:s.vars=[]) (hW:DataW.Whole enc P f.params.toList s.vars apart W args.toList ds [] p) (hA:DataW.TrodAll enc P W 0 (λ_=>true) true ts args.toList ds p) (W1:s.fn H (ds++[])={ results:=[.lit (.bool true)],args:=ds }) (hb:RowKit.Below W.heap.size W W') :
  s.post enc P f apart fresh handsOn false W args (.bool true) W':=by
 have ax:∀ x ∈ p,x.block < W.heap.size:=λx hx=>by simpa using hW.lt x hx
 refine ⟨ds,[],p,[],p,[],hW,?_,?_,?_,World.keptBut_mono (λx hx=>⟨hx,.inr (.inl hx)⟩) (hb.frame (· ∈ p)),λe=>by cases e⟩
 ·rw[W1,hr];exact ⟨[],[],RowKit.shut_bool hu true,rfl,rfl⟩
 ·grind [J8]
 ·rw[W1,aaD];rfl
end
end OT
namespace OT
open Go
def QV (P:Program) (l:List (Nat×Ty)):Bool:=l.all λp=>bi P p.2 (.inl p.1)
def La (P:Program) (l:List (Nat×Ty)):Bool:=l.all λp=>!(p.2.oh&&isAgg p.2)||(rU P p.2 (.inl p.1)&&(P.eqGuardType P.depth p.1 == false)&&Nat.ble (dep p.2) 10000)
theorem G0 {α:Type}:∀ {l:List (Nat×α)} {i:Nat} {x:α},nO l i=some x->(i,x) ∈ l
 | (k,y)::l,i,x,h=>by
  simp only[nO] at h;split at h
  ·simp_all
  ·exact bF _ (G0 h)
def Ev (P:Program) (l:List (Nat×uL)):Prop:=∀ f g,nO l f=some g->Sound P f g/\ww P f g.cap
theorem aj (P:Program):Ev P []:=λf g h=>by cases h
theorem XZ {P:Program} {f:Nat} {g:uL} {l:List (Nat×uL)} (h1:Sound P f g) (h2:ww P f g.cap) (h3:Ev P l):Ev P ((f,g)::l):=λf' g' h=>by
 simp only[nO] at h;split at h
 ·simp_all
 ·exact h3 f' g' h
theorem Zz {P:Program} {E:Env} {tl:List (Nat×Ty)} {gl:List (Nat×uL)} (h1:E.TI=nO tl) (h2:E.G=nO gl) (h3:QV P tl=true) (h4:La P tl=true) (h5:Ev P gl):ta P E where
 ti i T h:=by rw[h1] at h;exact bK.1 h3 _ (G0 h)
 eq i T h hq ha:=by
  rw[h1] at h;have:=bK.1 h4 _ (G0 h);simp_all
 fn f g h:=by rw[h2] at h;exact h5 f g h
def Ok (P:Program) (f:FuncId) (g:uL):Prop:=Sound P f g/\ww P f g.cap
theorem fc {P:Program} {f:Nat} {g:uL} {l:List (Nat×uL)} (h:Ok P f g) (h3:Ev P l):Ev P ((f,g)::l):=XZ h.1 h.2 h3
def Mw (fn:Func) (cap:Bool):Bool:=!(fn.name == "runtime.NumGoroutine")&&!fn.body.isNone&&Nat.beq fn.nfree (match cap with | true=>1 | false=>0)
noncomputable def okB (P:Program) (E:Env) (fn:Func) (ps:PQ) (rs:RQ) (es:List Nat) (cap:Bool) (tl:TL):Bool:=(QV P tl&&La P tl)&&(Mw fn cap&&K_ P E fn ps rs es)
theorem aaE {P:Program} {E:Env} {f:FuncId} {fn:Func} (hf:P.funcs[f]?=some fn) {g:uL} (hh:∀ v H,g.FR v H=true->H=[]) {es fr:List Nat} {tl:TL} {gl:GL} (h1:E.TI=nO tl) (h2:E.G=nO gl) (ba:okB P E fn g.ps g.rs es g.cap tl=true) (hg:Ev P gl) (hF:∀ v,g.F v=lift λk=>K3 E k fn g.ps g.rs es fr v):Ok P f g:=by
 simp only[okB,Mw,aF,cC,eN] at ba;obtain ⟨⟨a1,a2⟩,⟨⟨b1,b2⟩,b3⟩,c⟩:=ba
 have hb:fn.body.isSome=true:=by
  simp_all
 exact ⟨KO (Zz h1 h2 a1 a2 hg) hf hb hh c λv out h=>Sp (by rw[<-hF];exact h),fn,hf,b1,b2,b3⟩
structure FD where
 fn:Func
 tl:TL
 ps:PQ
 rs:RQ
 gl:GL:=[]
 es:List Nat:=[]
 fr:List Nat:=[]
 cap:Bool:=false
 fz:List (Nat×Nat×Nat):=[]
 lv:List (Nat×List Nat):=[]
 lx:List (Nat×List Nat):=[]
 lf:List (Nat×List (Nat×Md)):=[]
 od:List (Nat×List Nat):=[]
 ar:List (Nat×List Nat):=[]
 bx:List (Nat×List Nat):=[]
 pd:List (Nat×List Nat):=[]
 er:List (Nat×List (Nat×Nat)):=[]
noncomputable def FD.E (D:FD):Env:={ TI:=nO D.tl,G:=nO D.gl,fz:=D.fz,lv:=D.lv,lx:=D.lx,lf:=D.lf,od:=D.od,ar:=D.ar,bx:=D.bx,pd:=D.pd,er:=D.er }
noncomputable def FD.W (D:FD) (k:Nat) (a:(bq (D.ps.map (·.2))).den):Option (bq (D.rs.map (·.1)++ll D.ps)).den:=K3 D.E k D.fn D.ps D.rs D.es D.fr a
noncomputable def FD.F (D:FD) (a:(bq (D.ps.map (·.2))).den):Option (bq (D.rs.map (·.1)++ll D.ps)).den:=lift λk=>D.W k a
noncomputable def FD.sig (D:FD):uL:={ cap:=D.cap,ps:=D.ps,rs:=D.rs,F:=D.F }
noncomputable def FD.fin (D:FD):St->Option (bq (D.rs.map (·.1)++ll D.ps)).den:=LA D.ps D.rs D.es D.fn.results.toList (Wj D.fr)
noncomputable def FD.K0 (D:FD):KT (bq (D.rs.map (·.1)++ll D.ps)).den:=Yy D.fin
noncomputable def FD.N (D:FD) (k:Nat) (p:List Nat):St->KT (bq (D.rs.map (·.1)++ll D.ps)).den->Option (bq (D.rs.map (·.1)++ll D.ps)).den:=uF D.E k D.fin (sub p (D7 D.fn))
noncomputable def FD.L (D:FD) (k:Nat) (p live:List Nat) (A8:List (Nat×Md)) (K:KT (bq (D.rs.map (·.1)++ll D.ps)).den) (σ:St):Option (bq (D.rs.map (·.1)++ll D.ps)).den:=Fu (D.N k p) (fw live A8) K k σ
theorem am {P:Program} {D:FD} {f:FuncId} (hf:P.funcs[f]?=some D.fn) (ht:(QV P D.tl&&La P D.tl)=true) (ba:(Mw D.fn D.cap&&K_ P D.E D.fn D.ps D.rs D.es)=true) (hg:Ev P D.gl):Ok P f D.sig:=
 aaE (hh:=λ_ _ h=>bG.1 h) (es:=D.es) (fr:=D.fr) (tl:=D.tl) (gl:=D.gl) (E:=D.E) hf rfl rfl (by rw[okB,ht,dJ];exact ba) hg λ_=>rfl
end OT
namespace OT
open Go
theorem a7 {n:Int} (h:-9223372036854775808<=n/\n<=9223372036854775807):af n=n:=by
 grind [af,IntKind.wrap_i64]
theorem au:maxLen=9223372036854775807:=by simp[maxLen]
theorem sn {V R:Type} {B:(V->Option R)->V->Option R} (f:V->R) (I:V->Prop) (μ:V->Nat)
  (h:∀ v,I v->∀ self,B self v=some (f v)\/∃ v',B self v=self v'/\f v'=f v/\I v'/\μ v' < μ v):∀ (k:Nat) (v:V),I v->μ v < k->al B k v=some (f v)
 | 0,v,_,hk=>by omega
 | k+1,v,hI,hk=>by
  show B (al B k) v=some (f v)
  rcases h v hI (al B k) with h1 | ⟨v',h1,h2,h3,h4⟩
  ·exact h1
  ·rw[h1,sn f I μ h k v' h3 (by omega),h2]
def Aw {α:Type} (e:α->α->Bool) (xs ys:List α):Bool:=(xs.zip ys).all λp=>e p.1 p.2
theorem Tp {α:Type} (e:α->α->Bool) (xs ys:List α) (i:Nat) (hx:i < xs.length) (hy:i < ys.length):Aw e (xs.drop i) (ys.drop i)=(e xs[i] ys[i]&&Aw e (xs.drop (i+1)) (ys.drop (i+1))):=by
 grind [Aw,List.drop_eq_getElem_cons,List.zip_cons_cons]
theorem G3 {α:Type} {B:(Int->Option (Bool×Unit))->Int->Option (Bool×Unit)} {xs ys:List α} (e:α->α->Bool) (hlen:xs.length=ys.length) (Ew:xs.length<=maxLen)
  (i7:∀ (i:Nat) (hx:i < xs.length) (hy:i < ys.length) self,B self (i:Int)=if e xs[i] ys[i]=true then self (af ((i:Int)+1)) else some (false,()))
  (sO:∀ self,B self (xs.length:Int)=some (true,())):∀ k,xs.length < k->al B k 0=some (Aw e xs ys,()):=by
 intro k hk
 have h:=sn (B:=B) (λv=>(Aw e (xs.drop v.toNat) (ys.drop v.toNat),())) (λv=>0<=v/\v<=(xs.length:Int)) (λv=>xs.length - v.toNat) (λv hv self=>by
  obtain ⟨h0,h1⟩:=hv;obtain ⟨i,rfl⟩:=dU h0;simp only[aC];by_cases hi:i < xs.length
  ·have hy:i < ys.length:=by omega
   rw[Tp e xs ys i hi hy,i7 i hi hy];cases he:e xs[i] ys[i] <;> grind [a7,au]
  ·have pj:i=xs.length:=by omega
   simp_all [Aw]) k 0 ⟨by omega,by omega⟩ (by simpa using hk)
 simpa using h
theorem Tq {α:Type} {B:((List α×Int)->Option (List α×Unit))->(List α×Int)->Option (List α×Unit)} {xs:List α} (Ew:xs.length<=maxLen)
  (i7:∀ (i:Nat) (hx:i < xs.length) (acc:List α) self,acc.length=xs.length->B self (acc,(i:Int))=self (acc.set i xs[i],af ((i:Int)+1)))
  (sO:∀ acc self,B self (acc,(xs.length:Int))=some (acc,())) (z:α):∀ k,xs.length < k->al B k (List.replicate xs.length z,0)=some (xs,()):=by
 intro k hk;refine sn (B:=B) (λ_=>(xs,())) (λv=>0<=v.2/\v.2<=(xs.length:Int)/\v.1.length=xs.length/\∀ j,j < v.2.toNat->v.1[j]?=xs[j]?) (λv=>xs.length - v.2.toNat) (λv hv self=>?_) k _ ⟨by simp,by simp,by simp,by simp⟩ (by simpa using hk);obtain ⟨acc,i⟩:=v;obtain ⟨h0,h1,h2,h3⟩:=hv;simp only at h0 h1 h2 h3;obtain ⟨i,rfl⟩:=dU h0;simp only[aC] at h3 ⊢;by_cases hi:i < xs.length
 ·right;have hw:af ((i:Int)+1)=((i+1:Nat):Int):=by grind [a7,au]
  refine ⟨(acc.set i xs[i],((i+1:Nat):Int)),by grind,trivial,⟨by omega,by grind,by simpa using h2,λj hj=>?_⟩,?_⟩
  all_goals grind
 ·have pj:i=xs.length:=by omega
  subst pj;left;rw[sO]
  have:acc=xs:=eF λj=>by
   grind
  rw[this]
end OT
namespace OT
open Go
theorem Ax {V R:Type} (B:(V->Option R)->V->Option R) (k:Nat) (v:V):al B (k+1) v=B (al B k) v:=rfl
def mm {α:Type} (f:α->Nat):List α->Nat
 | []=>0
 | x::xs=>f x+mm f xs
theorem Mx {α:Type} (f:α->Nat):∀ (xs:List α) (x:α),x ∈ xs->f x<=mm f xs
 | y::xs,x,h=>by
  simp only[mm];rcases bB.1 h with rfl | h
  ·omega
  ·have:=Mx f xs x h;omega
 | [],_,h=>by cases h
theorem yE {α:Type} (f:α->Nat) (h:∀ x,f x=0):∀ (xs:List α),mm f xs=0
 | []=>rfl
 | x::xs=>by simp[mm,h x,yE f h xs]
theorem PE {α:Type} (f:α->Nat):∀ (xs:List α),mm (λx=>32*(f x+1)) xs=32*(xs.length+mm f xs)
 | []=>rfl
 | x::xs=>by simp only[mm,PE f xs,aW];omega
def zz:(t:Ty)->t.den->Nat
 | .str,v=>List.length v
 | .pair a b,v=>zz a v.1+zz b v.2
 | .aa e,v=>List.length v+mm (zz e) v
 | _,_=>0
theorem Ib {e:Ty} {xs:List e.den} {x:e.den} (h:x ∈ xs):zz e x+1<=zz (.aa e) xs:=by
 have:=Mx (zz e) xs x h;have:1<=xs.length:=List.length_pos_of_mem h;show _<=List.length xs+_;omega
theorem uW {e:Ty} (xs:List e.den):xs.length<=zz (.aa e) xs:=Nat.le_add_right _ _
theorem X0 {e:Ty} (x:e.den) (xs:List e.den):zz (.aa e) (x::xs)=zz e x+1+zz (.aa e) xs:=by
 grind [zz,mm]
def iq (n:Int) (z:Nat):Int:=if (z:Int)<=n then n - z else -1
theorem X4 {α:Type} {B:((Int×Int)->Option (Int×Unit))->(Int×Int)->Option (Int×Unit)} {xs:List α} (Ew:xs.length<=maxLen) (z:α->Nat)
  (i7:∀ (i:Nat) (hx:i < xs.length) (n:Int) self,0<=n->n<=1048576->B self (n,(i:Int))=if iq n (z xs[i]) < 0 then some (-1,()) else self (iq n (z xs[i]),af ((i:Int)+1)))
  (sO:∀ n self,B self (n,(xs.length:Int))=some (n,())) (n:Int) (h0:0<=n) (h1:n<=1048576) :
  ∀ k,xs.length < k->al B k (n,0)=some (iq n (mm z xs),()):=by
 have main:∀ (m i:Nat) (n:Int),xs.length - i=m->i<=xs.length->0<=n->n<=1048576->∀ k,m < k->al B k (n,(i:Int))=some (iq n (mm z (xs.drop i)),()):=by
  intro m
  induction m with
  | zero=>
   intro i n hm hi h0 h1 k hk;have pj:i=xs.length:=by omega
   subst pj;cases k <;> grind [al,iq,mm]
  | succ m ih=>
   intro i n hm hi h0 h1 k hk;have ax:i < xs.length:=by omega
   rw[bX ax];simp only[mm]
   cases k with
   | zero=>omega
   | succ k=>
    show B (al B k) _=_;rw[i7 i ax n _ h0 h1];by_cases hz:(z xs[i]:Int)<=n
    ·have e:iq n (z xs[i])=n - (z xs[i]:Int):=aM hz;have abF:¬ (n - (z xs[i]:Int) < 0):=by omega
     have hw:af ((i:Int)+1)=((i+1:Nat):Int):=by grind [a7,au]
     rw[e,aP abF,hw,ih (i+1) _ (by omega) (by omega) (by omega) (by omega) k (by omega)];grind [iq]
    grind [iq]
 intro k hk
 simpa using main xs.length 0 n (by omega) (by omega) h0 h1 k hk
theorem X5 {n:Int} {a b:Nat} (h:(a:Int)<=n):iq (n - a) b=iq n (a+b):=by
 grind [iq]
theorem mn {α:Type} (xs:List α) (i:Nat) (a:α) (h:i < xs.length):(xs.set i a)[i]?=some a:=by simp[h]
def lU:Int:=4611686018427387904
def chain {α:Type} (E:α->Int->α->Int->Prop) (W:α->Nat):List α->Int->List α->Int->Prop
 | [],k,ys,k'=>ys=[]/\k'=k
 | x::xs,k,ys,k'=>∃ y J9 k1,ys=y::J9/\0<=k/\k+W x<=lU/\k<=k1/\k1<=k+W x/\E x k y k1/\chain E W xs k1 J9 k'
theorem Tr {α:Type} {B:((List α×Int×Int)->Option (Int×List α×Unit))->(List α×Int×Int)->Option (Int×List α×Unit)} {xs:List α} (Ew:xs.length<=maxLen) (E:α->Int->α->Int->Prop) (W:α->Nat)
  (hE:∀ x ∈ xs,∀ k:Int,0<=k->k+W x<=lU->∃ y k',k<=k'/\k'<=k+W x/\E x k y k')
  (i7:∀ (i:Nat) (acc:List α) (k:Int) self (x y:α) (k':Int),i < acc.length->acc[i]?=some x->0<=k->k+W x<=lU->k<=k'->k'<=k+W x->E x k y k'->B self (acc,k,(i:Int))=self (acc.set i y,k',af ((i:Int)+1)))
  (sO:∀ (acc:List α) (k:Int) self,B self (acc,k,(acc.length:Int))=some (k,acc,())) (k:Int) (h0:0<=k) (h1:k+mm W xs<=lU) :
  ∃ ys k',k<=k'/\k'<=k+mm W xs/\ys.length=xs.length/\chain E W xs k ys k'/\∀ f,xs.length < f->al B f (xs,k,0)=some (k',ys,()):=by
 have main:∀ (rest pre:List α) (k:Int),(pre++rest).length<=maxLen->(∀ x ∈ rest,x ∈ xs)->0<=k->k+mm W rest<=lU ->
   ∃ ys k',k<=k'/\k'<=k+mm W rest/\ys.length=rest.length/\chain E W rest k ys k'/\∀ f,rest.length < f->al B f (pre++rest,k,(pre.length:Int))=some (k',pre++ys,()):=by
  intro rest
  induction rest with
  | nil=>
   intro pre k hm _ h0 h1;refine ⟨[],k,iE _,by simp[mm],rfl,⟨rfl,rfl⟩,λf hf=>?_⟩
   cases f with
   | zero=>simp at hf
   | succ f=>
    simp only[cI];exact sO pre k _
  | cons x rest ih=>
   intro pre k hm hx h0 h1;simp only[mm] at h1;obtain ⟨y,k1,g1,g2,g3⟩:=hE x (hx x cA) k h0 (by omega);obtain ⟨ys,k',i1,i2,i3,i4,i5⟩:=ih (pre++[y]) k1 (by simpa using hm) (λz hz=>hx z (bF _ hz)) (by omega) (by omega);refine ⟨y::ys,k',by omega,by grind [mm],by simp[i3],⟨y,ys,k1,rfl,h0,by omega,g1,g2,g3,i4⟩,λf hf=>?_⟩
   cases f with
   | zero=>omega
   | succ f=>
    show B (al B f) _=_;have hlen:pre.length < (pre++x::rest).length:=by simp
    rw[i7 pre.length (pre++x::rest) k _ x y k1 hlen (by simp) h0 (by omega) g1 g2 g3];grind [au,a7]
 obtain ⟨ys,k',i1,i2,i3,i4,i5⟩:=main xs [] k (by simpa using Ew) (λx h=>h) h0 h1;grind
theorem Ts {α:Type} {ys:List α} {B:((Int×Int)->Option (Int×Unit))->(Int×Int)->Option (Int×Unit)} {xs:List α} {k k':Int} (Ew:ys.length<=maxLen) {E:α->Int->α->Int->Prop} {W:α->Nat} (hc:chain E W xs k ys k')
  (i7:∀ (i:Nat) (k:Int) self (x y:α) (k':Int),i < ys.length->ys[i]?=some y->0<=k->k+W x<=lU->k<=k'->k'<=k+W x->E x k y k'->B self (k,(i:Int))=self (k',af ((i:Int)+1)))
  (sO:∀ (k:Int) self,B self (k,(ys.length:Int))=some (k,())):∀ f,ys.length < f->al B f (k,0)=some (k',()):=by
 have main:∀ (xs J9 pre:List α) (k:Int),pre++J9=ys->chain E W xs k J9 k'->∀ f,J9.length < f->al B f (k,(pre.length:Int))=some (k',()):=by
  intro xs
  induction xs with
  | nil=>
   intro J9 pre k hp hc f hf;obtain ⟨rfl,rfl⟩:=hc;cases f <;> grind [al]
  | cons x xs ih=>
   intro J9 pre k hp hc f hf;obtain ⟨y,ys2,k1,rfl,c1,c2,c3,c4,c5,c6⟩:=hc
   cases f with
   | zero=>omega
   | succ f=>
    show B (al B f) _=_;have hl:pre.length < ys.length:=by grind
    rw[i7 pre.length k _ x y k1 hl (by grind) c1 c2 c3 c4 c5]
    have hw:af ((pre.length:Int)+1)=(((pre++[y]).length:Nat):Int):=by
     grind [au,a7]
    grind
 intro f hf
 simpa using main xs ys [] k rfl hc f hf
end OT
namespace OT
open Go
theorem PG {e:Ty} {W:List e.den->Nat->Option (List e.den×Unit)} {z:e.den} {f:e.den->Option (e.den×Unit)}
  (hW:∀ x k,W x k=if 0<=(x.length:Int)/\(x.length:Int)<=(x.length:Int)/\(x.length:Int)<=(cg:Int) then (al (λ(self:(List e.den×Int)->Option (List e.den×Unit)) v=>bif decide (v.2 < (x.length:Int)) then (if 0<=v.2 then ((x[v.2.toNat]?).bind λa=>(f a).bind λr=>if 0<=v.2/\v.2 < (v.1.length:Int) then ((v.1[v.2.toNat]?).bind λ_=>self (v.1.set v.2.toNat r.1,af (v.2+(1:Int)))) else none) else none) else some (v.1,())) k (List.replicate (x.length:Int).toNat z,(0:Int))) else none)
  (hf:∀ a,zz e a<=1048576->f a=some (a,())) (x:List e.den) (h:zz (.aa e) x<=1048576):lift (W x)=some (x,()):=by
 have hl:x.length<=1048576:=bL (uW (e:=e) x) h;refine ag (k:=x.length+1) λk hk=>(hW x k).trans ?_;have hc:0<=(x.length:Int)/\(x.length:Int)<=(x.length:Int)/\(x.length:Int)<=(cg:Int):=by grind [cg]
 simp only[hc,bR,aI,aC];refine Tq (xs:=x) (by rw[au];omega) (λi hi acc self ha=>?_) (λacc self=>?_) _ k (by omega)
 ·have ax:(i:Int) < (x.length:Int):=by omega
  have My:(i:Int) < (acc.length:Int):=by omega
  simp only[ax,My,aG,aH,aK,bR,aI,aC,aB hi,aB (show i < acc.length by omega),aA,hf x[i] (by have:=Ib (e:=e) (aU hi);omega)]
 ·simp
theorem PH {e:Ty} {W:List e.den->Nat->Option (Bool×Unit)} {f:e.den->e.den->Option (Bool×Unit)}
  (hW:∀ x k,W x k=bif !decide ((x.length:Int)=(x.length:Int)) then some (false,()) else al (λ(self:Int->Option (Bool×Unit)) v=>bif decide (v < (x.length:Int)) then (if 0<=v then ((x[v.toNat]?).bind λa=>if 0<=v then ((x[v.toNat]?).bind λb=>(f a b).bind λr=>bif !r.1 then some (false,()) else self (af (v+(1:Int)))) else none) else none) else some (true,())) k (0:Int))
  (hf:∀ a,zz e a<=4611686018427387904->f a a=some (true,())) (x:List e.den) (h:zz (.aa e) x<=4611686018427387904):lift (W x)=some (true,()):=by
 have hl:x.length<=4611686018427387904:=bL (uW (e:=e) x) h;refine ag (k:=x.length+1) λk hk=>(hW x k).trans ?_;simp only[aG,aN,aD];have:=λB h1 h2=>G3 (B:=B) (xs:=x) (ys:=x) (λ_ _=>true) rfl (by rw[au];omega) h1 h2 k (by omega);rw[show Aw (λ_ _=>true) x x=true by simp[Aw]] at this;refine this _ (λi hi hj self=>?_) (λself=>?_)
 ·have ax:(i:Int) < (x.length:Int):=by omega
  simp only[ax,aG,aH,aK,aI,aC,aB hi,aA,aN,aD,hf x[i] (by have:=Ib (e:=e) (aU hi);omega)]
 ·simp
theorem ZA {e:Ty} {W:List e.den->Int->Nat->Option (Int×Unit)} {f:e.den->Int->Option (Int×Unit)}
  (hW:∀ x n k,W x n k=bif decide (af (n - (x.length:Int)) < (0:Int)) then some ((-1:Int),()) else al (λ(self:Int×Int->Option (Int×Unit)) v=>bif decide (v.2 < (x.length:Int)) then (if 0<=v.2 then ((x[v.2.toNat]?).bind λa=>(f a v.1).bind λr=>bif decide (r.1 < (0:Int)) then some ((-1:Int),()) else self (r.1,af (v.2+(1:Int)))) else none) else some (v.1,())) k (af (n - (x.length:Int)),(0:Int)))
  (hf:∀ a n,sm e a->0<=n->n<=1048576->f a n=some (iq n (zz e a),())) (x:List e.den) (n:Int) (hx:sm (.aa e) x) (h0:0<=n) (h1:n<=1048576):lift (W x n)=some (iq n (zz (.aa e) x),()):=by
 obtain ⟨hl,sk⟩:=hx;have wy:=hl;rw[au] at wy;have hw:af (n - (List.length x:Int))=n - (List.length x:Int):=a7 (by omega);have hz:zz (.aa e) x=List.length x+mm (zz e) x:=rfl;by_cases hc:n - (List.length x:Int) < 0
 ·rw[show iq n (zz (.aa e) x)=-1 from aP (by omega)];refine ag (k:=0) λk _=>(hW x n k).trans ?_;grind
 ·rw[show iq n (zz (.aa e) x)=iq (n - (List.length x:Int)) (mm (zz e) x) by grind [X5]];refine ag (k:=List.length x+1) λk hk=>(hW x n k).trans ?_;simp only[hw,hc,aE,aD];refine X4 (xs:=x) hl (zz e) (λi hi m self hm0 B7=>?_) (λm self=>?_) _ (by omega) (by omega) k (by omega)
  all_goals grind
theorem Vf {e:Ty} {W:List e.den->Int->Nat->Option (Int×Unit)} (hz:∀ a:e.den,zz e a=0)
  (hW:∀ x n k,W x n k=bif decide (af (n - (x.length:Int)) < (0:Int)) then some ((-1:Int),()) else some (af (n - (x.length:Int)),())) (x:List e.den) (n:Int) (hx:sm (.aa e) x) (h0:0<=n) (h1:n<=1048576):lift (W x n)=some (iq n (zz (.aa e) x),()):=by
 obtain ⟨hl,sk⟩:=hx;have wy:=hl;rw[au] at wy;have hw:af (n - (List.length x:Int))=n - (List.length x:Int):=a7 (by omega);have hz:zz (.aa e) x=List.length x:=by show List.length x+mm _ _=_;grind [yE]
 refine ag (k:=0) λk _=>(hW x n k).trans ?_;grind [iq]
theorem mkC {α:Type} (z:α->Nat) {W:List α->Int->Nat->Option (Int×List α×Unit)} (E:α->Int->α->Int->Prop) {S:(List α×Int×Int->Option (Int×List α×Unit))->List α×Int×Int->Option (Int×List α×Unit)}
  (hW:∀ x k f,W x k f=al (λself v=>bif decide (v.2.2 < (v.1.length:Int)) then S self v else some (v.2.1,v.1,())) f (x,k,(0:Int)))
  (hE:∀ (x:α) (k:Int),0<=k->k+32*(((z x:Nat):Int)+1)<=lU->∃ y k',k<=k'/\k'<=k+32*(((z x:Nat):Int)+1)/\E x k y k')
  (i7:∀ (i:Nat) (acc:List α) (k:Int) self (x y:α) (k':Int),i < acc.length->acc[i]?=some x->0<=k->k+32*(((z x:Nat):Int)+1)<=lU->k<=k'->k'<=k+32*(((z x:Nat):Int)+1)->E x k y k'->(i:Int) < (acc.length:Int)->S self (acc,k,(i:Int))=self (acc.set i y,k',af ((i:Int)+1)))
  (x:List α) (k:Int) (h0:0<=k) (h1:k+32*((x.length+mm z x:Nat):Int)<=lU):∃ (k':Int) (y:List α),lift (W x k)=some (k',y,())/\y.length<=4611686018427387904/\chain E (λx=>32*(z x+1)) x k y k'/\k<=k'/\k'<=k+32*((x.length+mm z x:Nat):Int):=by
 have hB:lU=4611686018427387904:=rfl;have hs:mm (λx:α=>32*(z x+1)) x=32*(x.length+mm z x):=PE z x
 obtain ⟨ys,k',g1,g2,g3,g4,g5⟩:=Tr (B:=λself v=>bif decide (v.2.2 < (v.1.length:Int)) then S self v else some (v.2.1,v.1,())) (xs:=x) (by rw[au];omega) E (λx:α=>32*(z x+1)) (λx hx k h0 h1=>by
   grind) (λi acc k self x y k' hi hx h0 h1 h2 h3 hE=>by
   grind) (λacc k self=>by simp) k h0 (by rw[hs];omega)
 exact ⟨k',ys,ag (k:=x.length+1) λf hf=>(hW x k f).trans (g5 f (by omega)),by omega,g4,g1,by grind⟩
theorem PI {α:Type} (z:α->Nat) {W:List α->Int->Nat->Option (Int×List α×Unit)} (E:α->Int->α->Int->Prop) {S:(List α×Int×Int->Option (Int×List α×Unit))->List α×Int×Int->Option (Int×List α×Unit)}
  (hW:∀ x k f,W x k f=al (λself v=>bif decide (v.2.2 < (v.1.length:Int)) then S self v else some (v.2.1,v.1,())) f (x,k,(0:Int)))
  (hE:∀ (x:α) (k:Int),0<=k->k+32*(((z x:Nat):Int)+1)<=lU->∃ y k',k<=k'/\k'<=k+32*(((z x:Nat):Int)+1)/\E x k y k')
  (i7:∀ (i:Nat) (acc:List α) (k:Int) self (x y:α) (k':Int),i < acc.length->acc[i]?=some x->0<=k->k+32*(((z x:Nat):Int)+1)<=lU->k<=k'->k'<=k+32*(((z x:Nat):Int)+1)->E x k y k'->(i:Int) < (acc.length:Int)->S self (acc,k,(i:Int))=self (acc.set i y,k',af ((i:Int)+1)))
  (x:List α) (k:Int) (h0:0<=k) (h1:k+32*((x.length+mm z x:Nat):Int)<=lU):∃ (k':Int) (y:List α),lift (W x k)=some (k',y,())/\k<=k'/\k'<=k+32*((x.length+mm z x:Nat):Int):=by
 obtain ⟨k',y,a,b,c,d⟩:=mkC z E hW hE i7 x k h0 h1;grind
theorem PJ {α:Type} (z:α->Nat) {W:List α->Int->Nat->Option (Int×List α×Unit)} {W2:List α->Int->Nat->Option (Int×Unit)} (E:α->Int->α->Int->Prop) {S:(List α×Int×Int->Option (Int×List α×Unit))->List α×Int×Int->Option (Int×List α×Unit)} {S2:List α->Int->(Int×Int->Option (Int×Unit))->Int×Int->Option (Int×Unit)}
  (hW:∀ x k f,W x k f=al (λself v=>bif decide (v.2.2 < (v.1.length:Int)) then S self v else some (v.2.1,v.1,())) f (x,k,(0:Int)))
  (hW2:∀ y k f,W2 y k f=al (λself v=>bif decide (v.2 < (y.length:Int)) then S2 y k self v else some (v.1,())) f (k,(0:Int)))
  (hE:∀ (x:α) (k:Int),0<=k->k+32*(((z x:Nat):Int)+1)<=lU->∃ y k',k<=k'/\k'<=k+32*(((z x:Nat):Int)+1)/\E x k y k')
  (i7:∀ (i:Nat) (acc:List α) (k:Int) self (x y:α) (k':Int),i < acc.length->acc[i]?=some x->0<=k->k+32*(((z x:Nat):Int)+1)<=lU->k<=k'->k'<=k+32*(((z x:Nat):Int)+1)->E x k y k'->(i:Int) < (acc.length:Int)->S self (acc,k,(i:Int))=self (acc.set i y,k',af ((i:Int)+1)))
  (US:∀ (k0:Int) (i:Nat) (ys:List α) (k:Int) self (x y:α) (k':Int),i < ys.length->ys[i]?=some y->0<=k->k+32*(((z x:Nat):Int)+1)<=lU->k<=k'->k'<=k+32*(((z x:Nat):Int)+1)->E x k y k'->(i:Int) < (ys.length:Int)->S2 ys k0 self (k,(i:Int))=self (k',af ((i:Int)+1)))
  (x:List α) (k:Int) (h0:0<=k) (h1:k+32*((x.length+mm z x:Nat):Int)<=lU):∃ (k':Int) (y:List α),lift (W x k)=some (k',y,())/\lift (W2 y k)=some (k',())/\k<=k'/\k'<=k+32*((x.length+mm z x:Nat):Int):=by
 obtain ⟨k',y,a,b,c,d⟩:=mkC z E hW hE i7 x k h0 h1;refine ⟨k',y,a,ag (k:=y.length+1) λf hf=>(hW2 y k f).trans ?_,d⟩
 exact Ts (B:=λself v=>bif decide (v.2 < (y.length:Int)) then S2 y k self v else some (v.1,())) (by rw[au];omega) c (λi k self x y' k' hi hx h0 h1 h2 h3 hE=>by
   grind) (λk self=>by simp) f (by omega)
end OT
namespace OT
open Go
def b_ {S O α:Type} (f:Nat->S->α->Sum O S) (fin:S->O):Nat->List α->S->O
 | _,[],s=>fin s
 | i,x::xs,s=>match f i s x with
  | .inl o=>o
  | .inr s'=>b_ f fin (i+1) xs s'
theorem da {V S O α:Type} {B:(V->Option O)->V->Option O} (xs:List α) (enc:S->Int->V) (f:Nat->S->α->Sum O S) (fin:S->O) (I:Nat->S->Prop) (Ew:xs.length<=maxLen)
  (i7:∀ (i:Nat) (hi:i < xs.length) (s:S) self,I i s->B self (enc s (i:Int))=match f i s xs[i] with | .inl o=>some o | .inr s'=>self (enc s' (af ((i:Int)+1))))
  (hI:∀ (i:Nat) (hi:i < xs.length) (s s':S),I i s->f i s xs[i]=.inr s'->I (i+1) s')
  (sO:∀ (s:S) self,I xs.length s->B self (enc s (xs.length:Int))=some (fin s)) (s:S) (h0:I 0 s):∀ k,xs.length < k->al B k (enc s 0)=some (b_ f fin 0 xs s):=by
 have main:∀ (m i:Nat) (s:S),xs.length - i=m->i<=xs.length->I i s->∀ k,m < k->al B k (enc s (i:Int))=some (b_ f fin i (xs.drop i) s):=by
  intro m
  induction m with
  | zero=>
   intro i s hm hi hs k hk;have pj:i=xs.length:=by omega
   subst pj;cases k <;> grind [al,b_]
  | succ m ih=>
   intro i s hm hi hs k hk;have ax:i < xs.length:=by omega
   cases k <;> grind [al,List.drop_eq_getElem_cons,b_,a7,au]
 intro k hk
 simpa using main xs.length 0 s (by omega) (by omega) h0 k hk
theorem so {O α:Type} (p:α->Bool) (bad:O) (fin:Unit->O):∀ (xs:List α) (i:Nat),b_ (λ_ _ x=>if p x then .inr () else .inl bad) fin i xs ()=if xs.all p then fin () else bad
 | [],_=>rfl
 | x::xs,i=>by
  simp only[b_,dI];by_cases h:p x=true
  ·simp[h,so p bad fin xs (i+1)]
  ·simp[h]
def ng {α:Type} (c:α->Int):List α->Int
 | []=>0
 | x::xs=>if c x=0 then ng c xs else c x
theorem zm {O α:Type} (c:α->Int) (bad:Int->O) (fin:Unit->O):∀ (xs:List α) (i:Nat),b_ (λ_ _ x=>if c x=0 then .inr () else .inl (bad (c x))) fin i xs ()=if ng c xs=0 then fin () else bad (ng c xs)
 | [],_=>rfl
 | x::xs,i=>by
  simp only[b_,ng];by_cases h:c x=0
  ·simp[h,zm c bad fin xs (i+1)]
  ·simp[h]
theorem Tt {R:Type} (a:Option R):both a a=a:=by simp[both]
theorem Cf {R α:Type} {v:List α} {a b r:Option R} (h1:v=[]->a=r) (h2:b=r):zP v a b=r:=by
 cases v <;> grind [zP,Tt]
theorem dn {n:Nat} (h:n<=200000000000):n<=cg:=by grind [cg]
end OT
namespace OT
open Go
def xd:Ty->Bool
 | .int _ | .bool | .str | .unit=>true
 | .pair a b=>xd a&&xd b
 | _=>false
def qV:(t:Ty)->t.den->List Value
 | .int k,v=>[.int k (pU k v)]
 | .bool,v=>[.bool v]
 | .str,v=>[.string ⟨List.toArray v⟩]
 | .unit,_=>[]
 | .pair a b,v=>qV a v.1++qV b v.2
 | _,_=>[]
section
variable {P:Program} {w:World} {A:Cells}
theorem vR:∀ (t:Ty),xd t=true->∀ (v:t.den),Ro P w A t v (qV t v):=by
 intro t
 induction t <;> grind [xd,Ro.length,Ro,qV]
theorem ZB:∀ (t:Ty),xd t=true->∀ {v:t.den} {cs:List Value},Ro P w A t v cs->cs=qV t v:=by
 intro t
 induction t with
 | pair a b mX mO=>
  intro h v cs hr;simp only[xd,aF] at h;have h1:=mX h.1 hr.1;have h2:=mO h.2 hr.2;rw[<-dE a.sz cs,h1,h2];rfl
 | int k=>intro _ v cs h;exact h
 | bool=>intro _ v cs h;exact h
 | str=>intro _ v cs h;exact h
 | unit=>intro _ v cs h;exact h
 | _=>grind [xd]
theorem J_:∀ (t:Ty),xd t=true->t.flat=true:=by
 intro t
 induction t <;> grind [xd,Ty.flat]
end
theorem Vg {w:World} {b i:Nat} {u:Value} {c:Array Value} {e:TypeId} {fr:Nat×Nat} (h:w.heap[b]?=some (.cells c e fr)) (hu:ce w b i=some u):c[i]?=some u:=by
 unfold ce at hu;simp only[h,World.cell?] at hu
 cases hc:c[i]? with
 | none=>grind
 | some v=>
  simp only[hc,Option.isSome_none,aJ,aO,aA] at hu;rw[(D8 hu).1]
theorem Oh {w:World} {b i:Nat} {u:Value} {c:Array Value} {e:TypeId} {fr:Nat×Nat} (h:w.heap[b]?=some (.cells c e fr)) (hg:c[i]?=some u) (hu:u.oneCell'=true):ce w b i=some u:=by
 grind [Fx,World.cell?]
end OT
namespace OT
open Go Go.Sort
instance ab7 (e:Ty):Inhabited e.den:=⟨e.zero⟩
noncomputable def zn (e:Ty) (cs:e.den×e.den×Unit->Option (Int×Unit)) (v:List e.den):Option (List e.den):=open Classical in
 if List.length v<=cg then (if h:∃ cf:e.den->e.den->Int,(∀ x y,cs (x,y,())=some (cf x y,()))/\SWO (Go.Proofs.ltOf cf) then some (pdq (Go.Proofs.ltOf h.choose) v.toArray 0 v.toArray.size (Lib.bitLen v.toArray.size) true true).toList else none) else none
theorem Mz {e:Ty} {cs:e.den×e.den×Unit->Option (Int×Unit)} {cf:e.den->e.den->Int} (h1:∀ x y,cs (x,y,())=some (cf x y,())) (h2:SWO (Go.Proofs.ltOf cf)) (v:List e.den) (hl:List.length v<=cg):zn e cs v=some (pdq (Go.Proofs.ltOf cf) v.toArray 0 v.toArray.size (Lib.bitLen v.toArray.size) true true).toList:=by
 have hex:∃ cf:e.den->e.den->Int,(∀ x y,cs (x,y,())=some (cf x y,()))/\SWO (Go.Proofs.ltOf cf):=⟨cf,h1,h2⟩
 have he:hex.choose=cf:=by
  grind
 grind [zn]
theorem QW {e:Ty} {cs:e.den×e.den×Unit->Option (Int×Unit)} {v r:List e.den} (h:zn e cs v=some r):∃ cf:e.den->e.den->Int,(∀ x y,cs (x,y,())=some (cf x y,()))/\SWO (Go.Proofs.ltOf cf)/\List.length v<=cg/\r=(pdq (Go.Proofs.ltOf cf) v.toArray 0 v.toArray.size (Lib.bitLen v.toArray.size) true true).toList:=by
 grind [Mz,zn]
theorem MA {α:Type} [Inhabited α] {lt:α->α->Bool} (h:SWO lt) (v:List α):(pdq lt v.toArray 0 v.toArray.size (Lib.bitLen v.toArray.size) true true).toList.Perm v/\(pdq lt v.toArray 0 v.toArray.size (Lib.bitLen v.toArray.size) true true).toList.Pairwise λx y=>lt y x=false:=by
 have hs:=pdq_sorts lt h v.toArray 0 v.toArray.size (Lib.bitLen v.toArray.size) true true (bD _) (aL _) (Or.inl rfl);generalize pdq lt v.toArray 0 v.toArray.size (Lib.bitLen v.toArray.size) true true=p at hs ⊢;obtain ⟨⟨h1,h2,h3⟩,h4⟩:=hs;refine ⟨?_,?_⟩
 ·grind [Array.extract_size]
 ·rw[dA];intro i j hi hj ui;have zb:j < p.size:=by simpa using hj
  have:=h4 i j (bD _) ui (by omega);grind
section
variable {P:Program}
theorem Vh {w w':World} (h:Ext w w' (λ_ _=>0)):∃ q os,w'=grow (w.drewN q) os:=by
 refine ⟨w'.drawn - w.drawn,w'.heap.extract w.heap.size w'.heap.size,?_⟩
 have hh:w'.heap=w.heap++w'.heap.extract w.heap.size w'.heap.size:=by
  apply Array.ext_getElem?;intro i;by_cases hi:i < w.heap.size
  ·rw[h.obj i hi λ_=>rfl,fP hi]
  grind
 have h1:=h.os;have h2:=h.tape;have h3:=h.output;have h4:=h.drawn
 cases w with
 | mk heap tape drawn os output=>
  cases w' <;> grind [grow,World.drewN,World.mk.injEq]
theorem Vi {α:Type} [Inhabited α] {enc:α->List Value} {k b m:Nat} {dk:Array α} {os:Array Obj} {w:World} {F0:FP} (h:vZ P w F0) (hb:1<=F0 b 0):vZ P (Go.Proofs.sortWorldK enc k w b 0 m dk os) λ_ _=>0:=λe=>by
 obtain ⟨⟨w0,g,hw⟩,hs,hf⟩:=h e;grind [Go.Proofs.sortWorldK,grow,Go.Sort.putRowK,Go.Sort.putRow,Go.Sort.mapBlock,Go.Sort.ahead]
theorem Vj {e:Ty} (hs:xd e=true) (ha:isAgg e=true) {g:Nat} {cF:e.den×e.den×Unit->Option (Int×Unit)} (hg:Sound P g { ps:=[(.ro,e),(.ro,e)],rs:=[(.int .i64,ak (.int .i64))],F:=cF }) {cf:e.den->e.den->Int} (hc:∀ x y,cF (x,y,())=some (cf x y,())) (b size:Nat) (w:World) (ht:∀ m dk os,vZ P (Go.Proofs.sortWorldK (qV e) e.sz w b 0 m dk os) λ_ _=>0):Go.Proofs.CmpLays P g #[] (qV e) e.sz cf b 0 size w:=by
 intro m os dk _ x y
 have mC:ph P (Go.Proofs.sortWorldK (qV e) e.sz w b 0 m dk os) (λ_ _=>False) L7 [(.ro,e),(.ro,e)] (x,y,()) [.agg (qV e x).toArray,.agg (qV e y).toArray] (λ_ _=>0):=
  ⟨_,_,λ_ _=>0,λ_ _=>0,rfl,λ_ _=>aL _,⟨qV e x,by simp[dq,ha],vR e hs x⟩,_,_,λ_ _=>0,λ_ _=>0,rfl,λ_ _=>aL _,⟨qV e y,by simp[dq,ha],vR e hs y⟩,rfl⟩
 refine (hg _ (λ_ _=>False) (λ_ _=>0) (x,y,()) _ mC (λ_ _=>bD _) (λ_ _ h=>by omega) (λ_ _ h=>by grind) (ht _ _ _) (cf x y,()) (hc x y)).mono ?_;rintro ex w' ⟨rv,rfl,gf,A',G,GR,GM,_,_,_,_,_,_,_,uC,_⟩;obtain ⟨cs,h1,h2⟩:=uC;refine ⟨?_,Vh gf⟩
 have h2:cs=[.int .i64 (cf x y)]:=h2;rw[h1,h2];rfl
theorem X6 {ρ:Go.Shelf.Ren} (L:Go.Proofs.SlLaysF0.n6 P ρ) {e:Ty} (hs:xd e=true) (ha:isAgg e=true) (hl:bi P e (.inl (ρ.t 24))=true) (h1:1<=e.sz) {g:Nat} {cF:e.den×e.den×Unit->Option (Int×Unit)}
  (hg:Ok P g { ps:=[(.ro,e),(.ro,e)],rs:=[(.int .i64,ak (.int .i64))],F:=cF }) (he:ww P (ρ.f 6) false) :
  Ok P (ρ.f 6) { ps:=[(.k8 (ai (.aa e)),.aa e),(.fix g,.fn)],rs:=[],F:=λv=>(zn e cF v.1).map λr=>(r,()) }:=by
 refine ⟨?_,he⟩
 intro w A F0 v xs mC hle CF abG Mu out sO;obtain ⟨vs,⟨fg,fv⟩,⟨⟩⟩:=v;obtain ⟨x,SX,F1,F2,rfl,hF,⟨cs,rfl,jj⟩,x2,abH,F3,F4,rfl,hF2,⟨⟨d6,rfl,W1⟩,abI⟩,Jf⟩:=mC;have Jf:abH=[]:=Jf;subst Jf;have hfg:fg=g:=abI rfl;subst hfg;obtain ⟨yO,rfl,fn,acq,acr⟩:=W1
 have aaF:yO=#[]:=by
  obtain ⟨fn',k1,_,_,k4⟩:=hg.2;grind
 subst aaF;have Tc:dq .fn [.func (.func fg) #[] #[]]=.func (.func fg) #[] #[]:=rfl;have sO:(zn e cF vs).map (λr=>(r,()))=some out:=sO
 cases W3:zn e cF vs with
 | none=>grind
 | some r=>
 rw[W3] at sO;injection sO with sO;subst sO;obtain ⟨cf,hc,hO,qU,hr⟩:=QW W3;have QX:=MA hO vs;rw[<-hr] at QX;have Wt:=jj;simp only[ao,hole,bV,aJ,aO,ai,uK,Md.own,aI] at jj;obtain ⟨xa,cap,rfl,g2,g3,g4,g5⟩:=jj;have HM:dq (.aa e) [.slice xa (List.length vs) cap]=.slice xa (List.length vs) cap:=rfl;rw[Tc,HM]
 have MB:∀ (w':World) (W4:FP),Ext w w' F0->(∀ b i,W4 b i<=F1 b i)->ao P w' A (.aa e) (ai (.aa e)) [] r [.slice xa (List.length vs) cap] W4 ->
   ∃ rv,Ending.returned (.tuple #[])=.returned rv/\Ext w w' F0/\∃ (A':Cells) (G GR GM:FP),(∀ b i,A b i->A' b i)/\(∀ b i,A' b i->A b i\/1<=F0 b i\/w.heap.size<=b)/\(∀ b i,1<=G b i->1<=F0 b i\/w.heap.size<=b)/\(∀ b i,G b i<=1)/\(∀ b i,1<=G b i->¬ A' b i)/\(∀ b i,1<=G b i\/A' b i->b < w'.heap.size)/\(∀ b i,GR b i+GM b i<=G b i) /\
   oB P w' A' [] rv GR/\pi P w' A' [(.k8 (ai (.aa e)),.aa e),(.fix fg,.fn)] (r,()) [.slice xa (List.length vs) cap,.func (.func fg) #[] #[]] GM:=λw' W4 gf hF1 ZC=>
  ⟨_,rfl,gf,A,F0,λ_ _=>0,F0,λ_ _ h=>h,λ_ _ h=>.inl h,λ_ _ h=>.inl h,hle,CF,λb i h=>dB (abG b i h) gf.size,λb i=>by grind,trivial,W4,F2,λb i=>by grind,⟨_,rfl,ZC⟩,trivial⟩
 by_cases h0:List.length vs=0
 ·have hvs:vs=[]:=bS h0
  have hrn:r=[]:=by
   have:=QX.1.length_eq;grind
  rw[h0];refine (Go.Proofs.AnyF.slices_SortFunc_none L xa cap (.func (.func fg) #[] #[]) w).mono ?_;rintro ex w' ⟨rfl,hw⟩;rw[hw];rw[h0] at MB;refine MB w F1 (Ext.refl _ _) (λ_ _=>aL _) ?_;grind
 ·cases xa with
  | none=>grind
  | some ad=>
   obtain ⟨q1,q2,q3,Fi,q4,q5⟩:=g5 ad rfl;obtain ⟨b,off,sp⟩:=ad;simp only at q1 q2 q3 q4 q5;subst q1;subst q2;obtain ⟨c,el,fr,c1,c2,c3,c4⟩:=q3;have hb:=(cE.1 c1).1;have nC:vs.toArray.size=List.length vs:=by simp
   have hbl:List.length vs*e.sz<=cap*e.sz:=bH _ g2;have GQ:1<=List.length vs*e.sz:=Nat.mul_le_mul (show 1<=List.length vs by omega) h1
   have tR:∀ (i:Nat) (y:e.den),vs[i]?=some y->Has w b (i*e.sz) (qV e y):=λi y hy=>by
    obtain ⟨L0,l1,l2,l3⟩:=q5 i y hy;have:=ZB e hs (ao.flat e (J_ e hs) l3);grind
   have hH:Go.Sort.HoldsK (qV e) e.sz w b 0 vs.toArray:=by
    intro j hj;rw[Go.Sort.size_flatK,nC] at hj;rw[cB,Go.Sort.get_flatK _ _ _ _ (by grind)];have hi:j / e.sz < List.length vs:=by rw[fH h1];exact hj
    have hy:=aB hi;have hm:=Nat.mod_lt j h1
    have sk:(qV e (vs[j / e.sz]))[j % e.sz]?=some ((qV e (vs[j / e.sz]))[j % e.sz]!):=by
     have hlen:=Ro.length e (vR (P:=P) (w:=w) (A:=A) e hs (vs[j / e.sz]));grind
    have hce:=tR _ _ hy _ _ sk;have hdm:j / e.sz*e.sz+j % e.sz=j:=by grind [Nat.div_add_mod]
    rw[hdm] at hce;have qT:=Ro.one e (vR (P:=P) (w:=w) (A:=A) e hs (vs[j / e.sz])) _ (cD sk);have Ey:=vm hce qT;refine ⟨?_,?_⟩
    ·grind
    ·simp only[World.frozen?,c1];have:=c3 j (by omega);grind
   have JR:1<=F0 b 0:=by
    grind [ep]
   have ZD:=Go.Proofs.AnyQ.slices_SortFunc_eq L e.sz (λw=>by rw[Ei hl,ha]) (λw=>run_sizeOf hl) (qV e) (λy=>Ro.length e (vR (P:=P) (w:=w) (A:=A) e hs y)) (λy u hu=>Ro.one e (vR (P:=P) (w:=w) (A:=A) e hs y) u hu) cf hO fg #[] b 0 cap vs.toArray w
    (λargs w=>Er hg.2 args) (Vj hs ha hg.1 hc b _ w λm dk os=>Vi Mu JR) hH hb (by grind [cg])
   rw[nC] at ZD;refine ZD.mono ?_;rintro ex w' ⟨rfl,n,os,rfl⟩;rw[nC] at hr;have Bl:(pdq (Go.Proofs.ltOf cf) vs.toArray 0 (List.length vs) (Lib.bitLen (List.length vs)) true true)=r.toArray:=by rw[hr]
   rw[Bl];have yy:r.length=List.length vs:=QX.1.length_eq
   have hold:∀ b',b' < w.heap.size->b'≠b->(Go.Proofs.sortWorldK (qV e) e.sz w b 0 n r.toArray os).heap[b']?=w.heap[b']?:=λb' Ak kF=>by
    grind [Go.Proofs.sortWorldK,grow,Go.Sort.putRowK,Go.Sort.putRow,Go.Sort.mapBlock,Go.Sort.ahead]
   have BJ:(Go.Proofs.sortWorldK (qV e) e.sz w b 0 n r.toArray os).heap[b]?=some (.cells (Go.Sort.putCells id 0 (Go.Sort.flatK (qV e) e.sz r.toArray) c) el fr):=by
    simp only[Go.Proofs.sortWorldK,grow,Go.Sort.putRowK,Go.Sort.putRow,Go.Sort.mapBlock,Go.Sort.ahead];rw[fP (by simpa using hb),gI,aM rfl,c1];rfl
   have uG:(Go.Sort.putCells id 0 (Go.Sort.flatK (qV e) e.sz r.toArray) c).size=c.size:=by simp[Go.Sort.putCells]
   have gf:Ext w (Go.Proofs.sortWorldK (qV e) e.sz w b 0 n r.toArray os) F0:=by
    have jE:∀ i,i < cap*e.sz->1<=F0 b i:=λi hi=>by
     grind [ep]
    refine ⟨?_,λb' i Ak hz u hu=>?_,λb' m hm=>?_,λb' i Ak=>?_,rfl,rfl,rfl,λb' Ak hz=>?_,Nat.le_add_right _ _⟩
    ·grind
    ·by_cases JU:b'=b
     ·subst JU;have hi:¬ i < cap*e.sz:=λhi=>by grind
      exfalso;have:=Vg c1 hu;grind
     grind [zU]
    ·by_cases JU:b'=b
     ·subst JU;obtain ⟨c',e',f',m1,m2,m3⟩:=hm;rw[c1] at m1;injection m1 with m1;injection m1 with m1 m4 m5;subst m1;subst m4;subst m5;exact ⟨_,_,_,BJ,by grind,m3⟩
     ·have Ak:b' < w.heap.size:=hm.lt;grind [w7]
    ·by_cases JU:b'=b
     ·grind [World.frozen?]
     grind [yf]
    grind
   refine MB _ F1 gf (λ_ _=>aL _) ?_;simp only[ao,hole,bV,aJ,aO,ai,uK,Md.own,aI];refine ⟨some ⟨b,0,none⟩,cap,by rw[yy],by grind,g3,(λe=>by cases e),λad e2=>?_⟩
   injection e2 with e2;subst e2;refine ⟨rfl,rfl,⟨_,_,_,BJ,by grind,c3,c4⟩,λ_ _ _=>0,λb' i=>?_,λi y hy=>?_⟩
   ·have h3:=q4 b' i
    have h4:bg (List.length r) (λ_ _ _=>0) b' i=0:=by
     generalize List.length r=nn
     induction nn <;> grind [bg]
    grind
   ·refine ⟨qV e y,Ro.length e (vR (P:=P) (w:=w) (A:=A) e hs y),λj u hu=>?_,?_⟩
    ·have hj:=(aR.1 hu).1;have hlen:=Ro.length e (vR (P:=P) (w:=w) (A:=A) e hs y);have hi:=(aR.1 hy).1
     have ui:i*e.sz+j < r.length*e.sz:=by
      have:=bH e.sz (show i+1<=r.length from hi);grind
     have hdiv:(i*e.sz+j) / e.sz=i:=(Go.Sort.blk_iff e.sz i _ h1).1 ⟨by omega,by omega⟩;have acs:(i*e.sz+j) % e.sz=j:=by grind [Nat.mod_eq_sub_div_mul]
     have wR:(Go.Sort.putCells id 0 (Go.Sort.flatK (qV e) e.sz r.toArray) c)[i*e.sz+j]?=some u:=by
      have ax:i*e.sz+j < c.size:=by grind
      grind [Go.Sort.putCells,Go.Sort.size_flatK,Go.Sort.get_flatK]
     have qT:=Ro.one e (vR (P:=P) (w:=w) (A:=A) e hs y) _ (cD hu);grind [Oh]
    grind [Ro.flat,J_,vR]
end
end OT
