/- Maps: made, asked, turned. -/
import Derived.Test.YtkimdiobckckiaaOUc
import Derived.MapKept
import Derived.WideMake
set_option linter.unusedVariables false
set_option linter.unusedSimpArgs false
namespace OT
open Go

section
variable {P : Program} {w : World} {A : Cells}

/-! Keys. -/
def simpleV : Value → Bool
  | .int _ _ | .bool _ | .string _ => true
  | _ => false
theorem Ro.simple : ∀ (t : Ty) {v : t.den} {cs : List Value}, t.eqOk = true → Ro P w A t v cs → ∀ x ∈ cs, simpleV x = true := by
  intro t
  induction t with
  | int k => intro v cs _ h x hx; simp only [Ro] at h; subst h; simp at hx; subst hx; rfl
  | bool => intro v cs _ h x hx; simp only [Ro] at h; subst h; simp at hx; subst hx; rfl
  | str => intro v cs _ h x hx; simp only [Ro] at h; subst h; simp at hx; subst hx; rfl
  | unit => intro v cs _ h x hx; simp only [Ro] at h; subst h; cases hx
  | pair a b iha ihb =>
    intro v cs he h x hx
    simp only [Ty.eqOk, Bool.and_eq_true] at he
    rw [← List.take_append_drop a.sz cs] at hx
    rcases List.mem_append.1 hx with hx | hx
    · exact iha he.1 h.1 x hx
    · exact ihb he.2 h.2 x hx
  | _ => intro v cs he; simp [Ty.eqOk] at he
theorem bits_simple {x : Value} (h : simpleV x = true) (n : Nat) : Instr.sameBits n x x = true := by
  cases x <;> simp [simpleV] at h <;> cases n <;> simp [Instr.sameBits, MapKept.bytes_beq]
theorem bits_self {t : Ty} {v : t.den} {cs : List Value} (ha : isAgg t = true) (he : t.eqOk = true) (h : Ro P w A t v cs) : Instr.sameBits 10000 (mkV t cs) (mkV t cs) = true := by
  have hs := Ro.simple t he h
  simp only [mkV, ha, if_true, Instr.sameBits, beq_self_eq_true, Bool.true_and, List.all_eq_true]
  rintro ⟨x, y⟩ hxy
  have hz : (x, y) ∈ cs.zip cs := by simpa using hxy
  have hxe : x = y ∧ x ∈ cs := by
    clear h hs hxy
    induction cs with
    | nil => simp at hz
    | cons c cs ih =>
      simp only [List.zip_cons_cons, List.mem_cons, Prod.mk.injEq] at hz
      rcases hz with ⟨rfl, rfl⟩ | hz
      · exact ⟨rfl, by simp⟩
      · have := ih hz; exact ⟨this.1, by simp [this.2]⟩
  rw [← hxe.1]
  exact bits_simple (hs x hxe.2) _

theorem check_ok : ∀ (t : Ty), (∀ (i : TypeId) (d : Nat) (e : Bool) (v : t.den) (cs : List Value), layB P t (.inl i) = true → eqB P t (.inl i) = true → dep t ≤ d → Ro P w A t v cs → (Instr.checkKey e d i (mkV t cs)).run P w = .ok () w) ∧
    (∀ (fs : List Field) (off d : Nat) (e : Bool) (v : t.den) (xs : Array Value), layB P t (.inr (fs, off)) = true → eqB P t (.inr fs) = true → dep t ≤ d + 1 → Ro P w A t v (xs.toList.drop off) →
      (forIn fs PUnit.unit fun f _ => (if f.name ≠ "_" then do
          let x ← part f.type xs f.offset
          Instr.checkKey e d f.type x
          pure (ForInStep.yield PUnit.unit)
        else pure (ForInStep.yield PUnit.unit) : Sem (ForInStep PUnit))).run P w = .ok () w) := by
  intro t
  induction t with
  | int k =>
    refine ⟨fun i d e v cs hl he hd h => ?_, fun fs off d e v xs hl => by simp [layB] at hl⟩
    simp only [Ro] at h
    subst h
    cases d with
    | zero => simp [dep] at hd
    | succ d => rw [mkV_one _ _ rfl]; simp [Instr.checkKey, run_underlying (lay_int hl)]
  | bool =>
    refine ⟨fun i d e v cs hl he hd h => ?_, fun fs off d e v xs hl => by simp [layB] at hl⟩
    simp only [Ro] at h
    subst h
    have hu : P.underlying i = some .bool := by
      simp only [layB, Bool.and_eq_true] at hl
      have h2 := hl.2
      split at h2
      · assumption
      · cases h2
    cases d with
    | zero => simp [dep] at hd
    | succ d => rw [mkV_one _ _ rfl]; simp [Instr.checkKey, run_underlying hu]
  | str =>
    refine ⟨fun i d e v cs hl he hd h => ?_, fun fs off d e v xs hl => by simp [layB] at hl⟩
    simp only [Ro] at h
    subst h
    cases d with
    | zero => simp [dep] at hd
    | succ d => rw [mkV_one _ _ rfl]; simp [Instr.checkKey, run_underlying (lay_str hl)]
  | unit =>
    refine ⟨fun i d e v cs hl he hd h => ?_, fun fs off d e v xs hl he hd h => ?_⟩
    · simp only [Ro] at h
      subst h
      simp only [layB, Bool.and_eq_true] at hl
      have h3 := hl.2
      split at h3
      · rename_i fs hu
        have hnil : fs.toList = [] := List.isEmpty_iff.1 h3
        cases d with
        | zero => simp [dep] at hd
        | succ d =>
          show (Instr.checkKey e (d + 1) i (.agg #[])).run P w = _
          rw [Instr.checkKey]
          simp only [Sem.run_bind, run_underlying hu, Result.andThen_ok]
          rw [← Array.forIn_toList, hnil]
          simp
      · cases h3
    · simp only [layB, List.isEmpty_iff] at hl
      subst hl
      simp
  | pair a b iha ihb =>
    have second : ∀ (fs : List Field) (off d : Nat) (e : Bool) (v : (Ty.pair a b).den) (xs : Array Value), layB P (.pair a b) (.inr (fs, off)) = true → eqB P (.pair a b) (.inr fs) = true → dep (.pair a b) ≤ d + 1 → Ro P w A (.pair a b) v (xs.toList.drop off) →
        (forIn fs PUnit.unit fun f _ => (if f.name ≠ "_" then do
            let x ← part f.type xs f.offset
            Instr.checkKey e d f.type x
            pure (ForInStep.yield PUnit.unit)
          else pure (ForInStep.yield PUnit.unit) : Sem (ForInStep PUnit))).run P w = .ok () w := by
      intro fs off d e v xs hl he hd h1
      cases fs with
      | nil => simp [layB] at hl
      | cons f r =>
        simp only [layB, Bool.and_eq_true, Nat.beq_eq, Nat.ble_eq] at hl
        simp only [eqB, Bool.and_eq_true, bne_iff_ne, ne_eq] at he
        simp only [dep] at hd
        obtain ⟨h1a, h1b⟩ := h1
        have p1 := run_part (P := P) (w := w) hl.1.2 (cs := xs) (off := off) (Ro.length _ h1a)
        have e1 := iha.1 f.type d e v.1 _ hl.1.2 he.1.2 (by omega) h1a
        rw [List.drop_drop] at h1b
        have e2 := ihb.2 r (off + a.sz) d e v.2 xs hl.2 he.2 (by omega) h1b
        simp only [List.forIn_cons, Sem.run_bind, ne_eq, he.1.1, not_false_eq_true, if_true, hl.1.1.1, p1, e1, Result.andThen_ok, Sem.run_pure]
        exact e2
    refine ⟨fun i d e v cs hl he hd h => ?_, second⟩
    simp only [layB, Bool.and_eq_true] at hl
    simp only [eqB, Bool.and_eq_true, Bool.not_eq_true'] at he
    have h3 := hl.2
    have h4 := he.2
    split at h3
    · rename_i fs hu
      rw [hu] at h4
      simp only at h4
      split at h3
      · rename_i f r hfs
        rw [hfs] at h4
        simp only at h4
        cases d with
        | zero => have : 1 ≤ dep (.pair a b) := by simp only [dep]; omega
                  omega
        | succ d =>
          show (Instr.checkKey e (d + 1) i (.agg cs.toArray)).run P w = _
          rw [Instr.checkKey]
          simp only [Sem.run_bind, run_underlying hu, Result.andThen_ok]
          rw [← Array.forIn_toList, hfs]
          have := second (f :: r) 0 d e v cs.toArray (by simp only [layB, Nat.zero_add]; exact h3) (by simp only [eqB]; exact h4) hd (by simpa using h)
          rw [this]
          rfl
      · cases h3
    · cases h3
  | _ => exact ⟨fun i d e v cs hl he => by simp [eqB] at he, fun fs off d e v xs hl he => by simp [eqB] at he⟩

/-- The entries of a map are these data. -/
def EntOk (P : Program) (w : World) (A : Cells) (k v : Ty) (es : List (Value × Value)) (m : List (k.den × v.den)) : Prop :=
  es.length = m.length ∧ ∀ (i : Nat) (y : k.den × v.den), m[i]? = some y → ∃ (kc vc : List Value), es[i]? = some (mkV k kc, mkV v vc) ∧ Ro P w A k y.1 kc ∧ Ro P w A v y.2 vc

structure KeyOk (P : Program) (k : Ty) (i : TypeId) : Prop where
  lay : layB P k (.inl i) = true
  agg : isAgg k = true
  eqOk : k.eqOk = true
  flat : k.flat = true
  eqB : eqB P k (.inl i) = true
  dep : dep k ≤ 9000

theorem lay_map {k v : Ty} {i : TypeId} (h : layB P (.map k v) (.inl i) = true) : ∃ ki vi, P.underlying i = some (.map ki vi) ∧ KeyOk P k ki ∧ layB P v (.inl vi) = true ∧ zvB P v vi = true := by
  simp only [layB, Bool.and_eq_true] at h
  have h2 := h.2
  split at h2
  · rename_i ki vi hu
    simp only [Bool.and_eq_true, keyB, Nat.ble_eq] at h2
    obtain ⟨⟨⟨h3, h4⟩, ⟨⟨⟨⟨h5, h6⟩, h7⟩, h8⟩, h9⟩⟩, h10⟩ := h2
    exact ⟨ki, vi, hu, ⟨h3, h5, h6, h7, h8, h9⟩, h4, h10⟩
  · cases h2

theorem find_asks {k v : Ty} {ki : TypeId} (K : KeyOk P k ki) {x : k.den} {xc : List Value} (hx : Ro P w A k x xc) : ∀ (es : List MapEntry) (m : List (k.den × v.den)) (i : Nat), EntOk P w A k v (es.map fun e => (e.key, e.val)) m →
    (Instr.findAsking ki (mkV k xc) es i).run P w = .ok ((m.findIdx? fun y => k.eq x y.1).bind fun j => (es[j]?).map fun e => (i + j, e.val)) w := by
  intro es
  induction es with
  | nil =>
    intro m i h
    have : m = [] := List.eq_nil_of_length_eq_zero (by have := h.1; simpa using this.symm)
    subst this
    simp [Instr.findAsking]
  | cons e es ih =>
    intro m i h
    cases m with
    | nil => have := h.1; simp at this
    | cons y m =>
      obtain ⟨kc, vc, h1, h2, h3⟩ := h.2 0 y rfl
      simp only [List.map_cons, List.getElem?_cons_zero, Option.some.injEq, Prod.mk.injEq] at h1
      have heq : (Op.equal ki (mkV k xc) (mkV k kc)).run P w = .ok (k.eq x y.1) w := (eq_ok (P := P) (w := w) (A := A) k).1 ki Op.maxDepth x y.1 xc kc K.lay K.eqB (by have := K.dep; simp only [Op.maxDepth]; omega) hx h2
      have hrest : EntOk P w A k v (es.map fun e => (e.key, e.val)) m := ⟨by have := h.1; simpa using this, fun j z hz => by
        have := h.2 (j + 1) z (by simpa using hz)
        simpa using this⟩
      simp only [Instr.findAsking, Sem.run_bind, h1.1, heq, Result.andThen_ok, List.findIdx?_cons]
      cases hq : k.eq x y.1 with
      | true => simp
      | false =>
        simp only [Bool.false_eq_true, if_false, ih m (i + 1) hrest, Option.bind_map]
        congr 2
        funext j
        simp [Nat.add_assoc, Nat.add_comm 1 j]

theorem agg_under {k : Ty} {ki : TypeId} (K : KeyOk P k ki) : ∃ fs, P.underlying ki = some (.struct fs) := by
  have hl := K.lay
  have ha := K.agg
  have he := K.eqOk
  cases k with
  | pair a b =>
    simp only [layB, Bool.and_eq_true] at hl
    have h3 := hl.2
    split at h3
    · rename_i fs hu; exact ⟨fs, hu⟩
    · cases h3
  | unit =>
    simp only [layB, Bool.and_eq_true] at hl
    have h3 := hl.2
    split at h3
    · rename_i fs hu; exact ⟨fs, hu⟩
    · cases h3
  | arr n e => simp [Ty.eqOk] at he
  | _ => simp [isAgg] at ha

theorem find_ok {k v : Ty} {ki : TypeId} (K : KeyOk P k ki) {x : k.den} {xc : List Value} (hx : Ro P w A k x xc) {es : List MapEntry} {m : List (k.den × v.den)} (h : EntOk P w A k v (es.map fun e => (e.key, e.val)) m) :
    (Instr.findKey ki (mkV k xc) es).run P w = .ok ((m.findIdx? fun y => k.eq x y.1).bind fun j => (es[j]?).map fun e => (j, e.val)) w := by
  obtain ⟨fs, hu⟩ := agg_under K
  have ha := find_asks (v := v) K hx es m 0 h
  simp only [Nat.zero_add] at ha
  unfold Instr.findKey
  simp only [Sem.run_bind, run_underlying hu, Result.andThen_ok]
  cases es with
  | nil =>
    have : m = [] := List.eq_nil_of_length_eq_zero (by have := h.1; simpa using this.symm)
    subst this
    simp [Instr.findNow]
  | cons e es =>
    simp only [Instr.findNow, Instr.sameNow]
    exact ha

/-- A map in memory. -/
theorem map_block {k v : Ty} {m : Md} {y : List (k.den × v.den)} {cs : List Value} {F : FP} (h : Rep P w A (.map k v) m [] y cs F) :
    k.flat = true ∧ v.flat = true ∧ ∃ (r : Nat) (es : Array MapEntry) (clock : Nat), cs = [.map (some r)] ∧ w.heap[r]? = some (.map es clock) ∧ EntOk P w A k v (es.toList.map fun e => (e.key, e.val)) y ∧ (m.own = true → 1 ≤ F r 0) := by
  simp only [Rep, hole, List.any_nil, Bool.false_eq_true, if_false] at h
  split at h
  · rename_i hm
    obtain ⟨h1, h2, r, kvs, h3, h4, h5, h6, h7⟩ := h
    obtain ⟨es, clock, q1, q2⟩ := ce_map h4
    refine ⟨h1, h2, r, es, clock, h3, q1, ?_, fun _ => h5⟩
    have q2 : (es.toList.map fun e => (e.key, e.val)) = kvs := q2
    rw [q2]
    exact ⟨h6, h7⟩
  · rename_i hm
    obtain ⟨_, _, h1, h2, r, kvs, h3, h4, h5, h6, h7⟩ := h
    obtain ⟨es, clock, q1, q2⟩ := ce_map h4
    refine ⟨h1, h2, r, es, clock, h3, q1, ?_, fun e => absurd e hm⟩
    have q2 : (es.toList.map fun e => (e.key, e.val)) = kvs := q2
    rw [q2]
    exact ⟨h6, h7⟩

theorem mapGet_eq {α : Type} {k : Ty} (m : List (k.den × α)) (x : k.den) : mapGet k m x = (m.findIdx? fun e => k.eq x e.1).bind fun j => (m[j]?).map (·.2) := by
  unfold mapGet
  induction m with
  | nil => rfl
  | cons y m ih =>
    simp only [List.find?_cons, List.findIdx?_cons]
    cases hq : k.eq x y.1 with
    | true => simp
    | false =>
      simp only [Bool.false_eq_true, if_false]
      rw [ih]
      cases m.findIdx? (fun e => k.eq x e.1) <;> simp

theorem zero_mkV {v : Ty} {i : TypeId} (hz : zvB P v i = true) (hv : layB P v (.inl i) = true) {z : Value} {L : List Value} (h1 : (zeroValue i).run P w = .ok z w) (h2 : z.cells.toList = L) (hl : L.length = v.sz) : z = mkV v L := by
  obtain ⟨inf, i1, i2, i3, i4⟩ := infoOk_some (layB_info hv)
  unfold zvB at hz
  rw [i1] at hz
  simp only at hz
  cases hzz : inf.zero with
  | none => rw [hzz] at hz; cases hz
  | some z0 =>
    have : z = z0 := by
      simp [zeroValue, typeInfo, i1, hzz] at h1
      exact h1.symm
    subst this
    rw [hzz] at hz
    unfold mkV
    cases ha : isAgg v with
    | true =>
      rw [ha] at hz
      cases z <;> simp at hz
      simp only [Value.cells] at h2
      subst h2
      simp
    | false =>
      rw [ha] at hz
      have hs := isAgg_sz ha
      simp only [Bool.false_eq_true, if_false]
      cases z <;> simp at hz <;> (simp only [Value.cells] at h2; subst h2; rfl)

/-- What is found equal is the same value. -/
theorem eqOk_inj : ∀ (t : Ty), t.eqOk = true → ∀ {v1 v2 : t.den} {cs1 cs2 : List Value}, Ro P w A t v1 cs1 → Ro P w A t v2 cs2 → t.eq v1 v2 = true → cs2 = cs1 := by
  intro t
  induction t with
  | int k =>
    intro _ v1 v2 cs1 cs2 h1 h2 he
    simp only [Ro] at h1 h2
    subst h1; subst h2
    have : v1 = v2 := by cases k <;> simpa [Ty.eq] using he
    rw [this]
  | bool =>
    intro _ v1 v2 cs1 cs2 h1 h2 he
    simp only [Ro] at h1 h2
    subst h1; subst h2
    have : v1 = v2 := by simpa [Ty.eq] using he
    rw [this]
  | str =>
    intro _ v1 v2 cs1 cs2 h1 h2 he
    simp only [Ro] at h1 h2
    subst h1; subst h2
    have : v1 = v2 := by simpa [Ty.eq] using he
    rw [this]
  | unit =>
    intro _ v1 v2 cs1 cs2 h1 h2 he
    simp only [Ro] at h1 h2
    rw [h1, h2]
  | pair a b iha ihb =>
    intro hq v1 v2 cs1 cs2 h1 h2 he
    simp only [Ty.eqOk, Bool.and_eq_true] at hq
    simp only [Ty.eq, Bool.and_eq_true] at he
    have e1 := iha hq.1 h1.1 h2.1 he.1
    have e2 := ihb hq.2 h1.2 h2.2 he.2
    rw [← List.take_append_drop a.sz cs2, e1, e2, List.take_append_drop]
  | _ => intro hq; simp [Ty.eqOk] at hq

theorem run_lookup {k v : Ty} {t : TypeId} (hl : layB P (.map k v) (.inl t) = true) (hz : v.zok = true) {x : k.den} {xc : List Value} (hx : Ro P w A k x xc) {r : Nat} {es : Array MapEntry} {clock : Nat} (hb : w.heap[r]? = some (.map es clock)) {y : List (k.den × v.den)}
    (he : EntOk P w A k v (es.toList.map fun e => (e.key, e.val)) y) (ok : Bool) :
    ∃ vc, Ro P w A v (orZ (mapGet k y x) v.zero) vc ∧ (Instr.lookup t (.map (some r)) (mkV k xc) ok).run P w = .ok (if ok then .tuple #[mkV v vc, .bool (mapGet k y x).isSome] else mkV v vc) w := by
  obtain ⟨ki, vi, hu, K, hv, hzv0⟩ := lay_map hl
  have hc := (check_ok (P := P) (w := w) (A := A) k).1 ki 10000 es.isEmpty x xc K.lay K.eqB (by have := K.dep; omega) hx
  have hf := find_ok (v := v) K hx he
  obtain ⟨L, hL⟩ := zok_some v hz
  obtain ⟨z, hz1, hz2⟩ := run_zeroValue (P := P) (w := w) hv hL
  obtain ⟨r1, r2, r3⟩ := zc_ok (P := P) (w := w) (A := A) v hL hv
  rw [mapGet_eq]
  cases hfi : y.findIdx? (fun e => k.eq x e.1) with
  | none =>
    rw [hfi] at hf
    simp only [Option.bind_none] at hf ⊢
    refine ⟨L, r2, ?_⟩
    have hzv : z = mkV v L := zero_mkV hzv0 hv hz1 hz2 r3
    cases ok <;> simp [Instr.lookup, run_underlying hu, MapKept.run_getObj_map hb, hc, hf, hz1, hzv]
  | some j =>
    rw [hfi] at hf
    have hj : j < y.length := (List.findIdx?_eq_some_iff_findIdx_eq.1 hfi).1
    obtain ⟨kc, vc, g1, g2, g3⟩ := he.2 j y[j] (List.getElem?_eq_getElem hj)
    rw [List.getElem?_map] at g1
    cases hej : es.toList[j]? with
    | none => rw [hej] at g1; cases g1
    | some e =>
      rw [hej] at g1
      simp only [Option.map_some, Option.some.injEq, Prod.mk.injEq] at g1
      simp only [hej, Option.bind_some, Option.map_some, List.getElem?_eq_getElem hj] at hf ⊢
      refine ⟨vc, g3, ?_⟩
      cases ok <;> simp [Instr.lookup, run_underlying hu, MapKept.run_getObj_map hb, hc, hf, g1.2]
end

section
variable {P : Program} {C : Ctx} {A : Cells} {X : FP} {σ : St} {a : Act} {w : World} {F : Nat → FP} {R : Type} {x : R} {Q : Exit → Act → World → Prop} {o : Oper} {E : Env}

theorem new_makeMap (h : Rel0 P C A σ a w F) (hti : ∀ i T, E.TI i = some T → layB P T (.inl i) = true) {t : Nat} (ho : o.op = .makeMap t none) {K : St → Option R}
    (hk : (tiK E t fun t => match t with
    | .map k v => if k.flat && v.flat then K (σ.putD o.dst (.own (.map k v) (ownMd (.map k v)) [] [])) else none
    | _ => none) = some x) : o.wp P a w (fun a' w' => Nx P C K x a' w' ∧ Ext w w' (fun _ _ => 0)) Q := by
  obtain ⟨T, hT, hk⟩ := tiK_some hk
  split at hk
  · rename_i k v
    split at hk
    · rename_i hc
      simp only [Bool.and_eq_true] at hc
      have hrun : (execOp a.eval o).run P w = .ok (.value (.map (some w.heap.size))) (w.alloc (.map #[] 0)) := by
        simp [execOp, ho, run_makeMap_plain]
      have hext := ext_alloc w (.map #[] 0)
      have h1 : Rel P C A (fun b i => 0 + rng w.heap.size 0 1 b i) σ a (w.alloc (.map #[] 0)) F := by
        refine h.grow hext (fun _ _ h => h) (fun _ _ h => .inl h) (fun b i => ?_)
        by_cases hb : b = w.heap.size
        · subst hb
          right
          exact ⟨Nat.le_refl _, by simp, by simp only [rng]; split <;> omega⟩
        · left
          simp [rng, hb]
      have hnew : (w.alloc (.map #[] 0)).heap[w.heap.size]? = some (.map #[] 0) := heap_alloc_new w _
      refine wp_val hrun ⟨fin_val h1 hk (Fd := rng w.heap.size 0 1) ⟨_, (mkV_one (.map k v) _ rfl).symm, ?_⟩ (fun b i => by simp) (fun _ _ _ _ e => by cases e), hext⟩
      simp only [Rep, hole, List.any_nil, Bool.false_eq_true, if_false, ownMd, mdOf, Md.own, if_true]
      refine ⟨hc.1, hc.2, w.heap.size, [], rfl, ?_, by simp [rng], rfl, fun i y hy => by cases hy⟩
      exact map_ce hnew
    · cases hk
  · cases hk

theorem step_lookup (h : Rel0 P C A σ a w F) (hti : ∀ i T, E.TI i = some T → layB P T (.inl i) = true) {t : Nat} {y z : Operand} {ok : Bool} (ho : o.op = .lookup t y z ok) (hok : opdOk P y = true ∧ opdOk P z = true) {K : St → Option R}
    (hk : lookupK E σ t (opd σ y) (opd σ z) ok o.dst K = some x) : o.wp P a w (fun a' w' => Nx P C K x a' w' ∧ Ext w w' (fun _ _ => 0)) Q := by
  unfold lookupK at hk
  obtain ⟨T, hT, hk⟩ := tiK_some hk
  have hlay := hti _ _ hT
  split at hk
  · rename_i k v
    split at hk
    · rename_i hz
      rcases opd_ok h hok.1 with hs | ⟨xs, e⟩
      rotate_left
      · rw [e] at hk; cases hk
      rcases opd_ok h hok.2 with hs2 | ⟨xs, e2⟩
      rotate_left
      · exfalso
        rw [e2] at hk
        split at hk
        · split at hk
          · obtain ⟨_, _, _, _, _, _, _, _, h1, _⟩ := at_ok h hk
            split at h1
            · obtain ⟨_, h1⟩ := castK_some h1; cases h1
            · cases h1
          · cases hk
        · cases hk
      split at hk
      · rename_i r p snap hv
        rw [hv] at hs
        split at hk
        · rename_i hsn
          obtain ⟨hr, t', m', H', v', cs', ad', F', h1, hat, h3, h4, h5, h6⟩ := at_ok h hk
          split at h1
          · rename_i hH
            have hH := List.isEmpty_iff.1 hH
            subst hH
            obtain ⟨e1, h1⟩ := castK_some h1
            subst e1
            obtain ⟨pl, g1, g2, g3⟩ := hs.2 hsn
            rw [h3] at g1
            injection g1 with g1
            subst g1
            obtain ⟨f1, f2, b, es, clock, q1, q2, q3, q4⟩ := map_block h4
            simp only at g2
            subst q1
            rw [mkV_one (.map k v) _ rfl] at g2
            split at h1
            · rename_i t2 ix hix
              rw [hix] at hs2
              obtain ⟨e2, h1⟩ := castK_some h1
              subst e2
              obtain ⟨kc, hk1, hk2⟩ := hs2
              obtain ⟨vc, r1, r2⟩ := run_lookup (P := P) hlay hz hk2 q2 q3 ok
              have hrun : (execOp a.eval o).run P w = .ok (.value (if ok then .tuple #[mkV v vc, .bool (mapGet t2 v' ix).isSome] else mkV v vc)) w := by
                simp [execOp, ho, g2, hk1, r2]
              cases ok with
              | true =>
                simp only at h1
                refine wp_val hrun ⟨fin_flat h h1 ⟨#[mkV v vc, .bool (mapGet t2 v' ix).isSome], fun _ _ _ => 0, rfl, fun b i => by rw [sumF_zero]; exact Nat.le_refl _, fun j y hy => ?_⟩ (fun _ _ _ _ e => by cases e), Ext.refl _ _⟩
                match j with
                | 0 => simp at hy; subst hy; exact ⟨_, rfl, .inr ⟨vc, rfl, Ro.rep v _ (roMd_noOwn v) r1⟩⟩
                | 1 => simp at hy; subst hy; exact ⟨_, rfl, .inr ⟨[.bool _], rfl, rfl⟩⟩
                | n + 2 => simp at hy
              | false =>
                simp only at h1
                exact wp_val hrun ⟨fin_flat h h1 ⟨vc, rfl, r1⟩ (fun _ _ _ _ e => by cases e), Ext.refl _ _⟩
            · cases h1
          · cases h1
        · cases hk
      · cases hk
    · cases hk
  · cases hk

theorem ext_setMap {r : Nat} {es es' : Array MapEntry} {clock clock' : Nat} (hb : w.heap[r]? = some (.map es clock)) : Ext w { w with heap := w.heap.setIfInBounds r (.map es' clock') } (rng r 0 1) := by
  have hother : ∀ b, b ≠ r → (w.heap.setIfInBounds r (.map es' clock'))[b]? = w.heap[b]? := fun b hne => by rw [Array.getElem?_setIfInBounds_ne (fun e => hne e.symm)]
  refine ⟨by simp, fun b i hbs hz u hu => ?_, fun b n hn => ?_, fun b i hbs => ?_, rfl, rfl, rfl, fun b hbs hz => ?_⟩
  · by_cases hbr : b = r
    · subst hbr
      by_cases hi : i = 0
      · subst hi; simp [rng] at hz
      · simp [ce, hb, hi] at hu
    · rw [ce_block (hother b hbr)]; exact hu
  · obtain ⟨c, e, fr, h1, h2, h3⟩ := hn
    have hbr : b ≠ r := fun e => by subst e; rw [hb] at h1; cases h1
    exact ⟨c, e, fr, by rw [← h1]; exact hother b hbr, h2, h3⟩
  · by_cases hbr : b = r
    · subst hbr
      have hlt := (Array.getElem?_eq_some_iff.1 hb).1
      have he := (Array.getElem?_eq_some_iff.1 hb).2
      simp [World.frozen?, hlt, he]
    · have := hother b hbr
      simp only [World.frozen?] at *
      rw [this]
  · have hbr : b ≠ r := fun e => by subst e; have := hz 0; simp [rng] at this
    exact hother b hbr

theorem run_update {k v : Ty} {t : TypeId} (hl : layB P (.map k v) (.inl t) = true) {x : k.den} {xc : List Value} (hx : Ro P w A k x xc) {z : v.den} {zc' : List Value} (hzr : Ro P w A v z zc') {r : Nat} {es : Array MapEntry} {clock : Nat} (hb : w.heap[r]? = some (.map es clock)) {y : List (k.den × v.den)}
    (he : EntOk P w A k v (es.toList.map fun e => (e.key, e.val)) y) :
    ∃ (es' : Array MapEntry) (clock' : Nat), (Instr.mapUpdate t (.map (some r)) (mkV k xc) (mkV v zc')).run P w = .ok () { w with heap := w.heap.setIfInBounds r (.map es' clock') } ∧ EntOk P w A k v (es'.toList.map fun e => (e.key, e.val)) (mapPut k y x z) := by
  obtain ⟨ki, vi, hu, K, hv, _⟩ := lay_map hl
  have hc := (check_ok (P := P) (w := w) (A := A) k).1 ki 10000 false x xc K.lay K.eqB (by have := K.dep; omega) hx
  have hf := find_ok (v := v) K hx he
  unfold mapPut
  cases hfi : y.findIdx? (fun e => k.eq x e.1) with
  | none =>
    rw [hfi] at hf
    simp only [Option.bind_none] at hf ⊢
    refine ⟨es.push { key := mkV k xc, val := mkV v zc', born := clock }, clock + 1, ?_, ?_, fun i q hq => ?_⟩
    · simp [Instr.mapUpdate, run_underlying hu, MapKept.run_getObj_map hb, hc, hf, MapKept.run_setObj_map _ hb, Result.andThen]
    · have := he.1; simp at this ⊢; omega
    · have hlen : (es.toList.map fun e => (e.key, e.val)).length = y.length := he.1
      rw [Array.toList_push, List.map_append]
      by_cases hi : i < y.length
      · rw [List.getElem?_append_left hi] at hq
        rw [List.getElem?_append_left (by rw [hlen]; exact hi)]
        exact he.2 i q hq
      · have hi' : i = y.length := by
          have := (List.getElem?_eq_some_iff.1 hq).1
          simp at this; omega
        subst hi'
        rw [List.getElem?_append_right (Nat.le_refl _), Nat.sub_self] at hq
        rw [List.getElem?_append_right (by rw [hlen]; exact Nat.le_refl _), hlen, Nat.sub_self]
        simp at hq
        subst hq
        exact ⟨xc, zc', rfl, hx, hzr⟩
  | some j =>
    rw [hfi] at hf
    have hfj := List.findIdx?_eq_some_iff_findIdx_eq.1 hfi
    have hj : j < y.length := hfj.1
    obtain ⟨kc, vc, g1, g2, g3⟩ := he.2 j y[j] (List.getElem?_eq_getElem hj)
    rw [List.getElem?_map] at g1
    have hlen : es.size = y.length := by have := he.1; simpa using this
    have hes : es.toList[j]? = some es[j] := by simp [hlen, hj]
    rw [hes] at g1
    simp only [Option.map_some, Option.some.injEq, Prod.mk.injEq] at g1
    simp only [Option.bind_some] at hf ⊢
    rw [hes] at hf
    simp only [Option.map_some] at hf
    have hkeq : k.eq x (y[j]).1 = true := by
      have h1 := hfj.2
      have h2 : y.findIdx (fun e => k.eq x e.1) < y.length := by rw [h1]; exact hj
      have := List.findIdx_getElem (xs := y) (p := fun e => k.eq x e.1) (w := h2)
      simp only [h1] at this
      exact this
    have hbits : mkV k kc = mkV k xc := by
      have := eqOk_inj k K.eqOk hx g2 hkeq
      rw [this]
    have hkeep : (Instr.keyThatStays (mkV k xc) (mkV k xc)).run P w = .ok (mkV k xc) w := by
      simp [Instr.keyThatStays, bits_self K.agg K.eqOk hx]
    have hget : (es[j]?).map (·.key) = some (mkV k xc) := by
      have : es[j]? = some es[j] := by rw [Array.getElem?_eq_getElem (by omega)]
      rw [this, Option.map_some, g1.1, hbits]
    refine ⟨es.modify j fun e => { e with key := mkV k xc, val := mkV v zc' }, clock, ?_, ?_, fun i q hq => ?_⟩
    · simp [Instr.mapUpdate, run_underlying hu, MapKept.run_getObj_map hb, hc, hf, hget, hkeep, MapKept.run_setObj_map _ hb, Result.andThen]
    · simp [hlen]
    · rw [List.getElem?_set] at hq
      rw [List.getElem?_map, Array.getElem?_toList, Array.getElem?_modify]
      by_cases hij : j = i
      · subst hij
        rw [if_pos rfl, if_pos hj] at hq
        injection hq with hq
        subst hq
        rw [if_pos rfl, Array.getElem?_eq_getElem (by omega)]
        exact ⟨xc, zc', rfl, hx, hzr⟩
      · rw [if_neg hij] at hq ⊢
        have := he.2 i q hq
        rw [List.getElem?_map, Array.getElem?_toList] at this
        exact this

theorem step_mapUpdate (h : Rel0 P C A σ a w F) (hti : ∀ i T, E.TI i = some T → layB P T (.inl i) = true) {t : Nat} {y z u : Operand} (ho : o.op = .mapUpdate t y z u) (hd : o.dst = none) (hok : opdOk P y = true ∧ opdOk P z = true ∧ opdOk P u = true) {K : St → Option R}
    (hk : mapUpdK E σ t (opd σ y) (opd σ z) (opd σ u) K = some x) : o.wp P a w (Nx P C K x) Q := by
  unfold mapUpdK at hk
  obtain ⟨T, hT, hk⟩ := tiK_some hk
  have hlay := hti _ _ hT
  split at hk
  · rename_i k v
    rcases opd_ok h hok.1 with hs | ⟨xs, e⟩
    rotate_left
    · rw [e] at hk; cases hk
    split at hk
    · rename_i r p snap hv
      rw [hv] at hs
      split at hk
      · rename_i hsn
        obtain ⟨hr, t', m', H', v', cs', ad', F', h1, hat, h3, h4, h5, h6⟩ := at_ok h hk
        split at h1
        · rename_i hH
          simp only [Bool.and_eq_true, List.isEmpty_iff] at hH
          obtain ⟨hown, hH⟩ := hH
          subst hH
          obtain ⟨e1, h1⟩ := castK_some h1
          subst e1
          obtain ⟨pl, g1, g2, g3⟩ := hs.2 hsn
          rw [h3] at g1
          injection g1 with g1
          subst g1
          split at h1
          · rename_i t2 ix t3 uv hix huv
            have hs2 : SlotRel P A σ a w (a.eval z) (.val t2 ix) (fun _ _ => 0) := by
              rcases opd_ok h hok.2.1 with hs2 | ⟨xs, e2⟩
              · rw [hix] at hs2; exact hs2
              · rw [hix] at e2; cases e2
            have hs3 : SlotRel P A σ a w (a.eval u) (.val t3 uv) (fun _ _ => 0) := by
              rcases opd_ok h hok.2.2 with hs2 | ⟨xs, e2⟩
              · rw [huv] at hs2; exact hs2
              · rw [huv] at e2; cases e2
            obtain ⟨e2, h1⟩ := castK_some h1
            subst e2
            obtain ⟨e3, h1⟩ := castK_some h1
            subst e3
            obtain ⟨kc, hk1, hk2⟩ := hs2
            obtain ⟨uc, hu1, hu2⟩ := hs3
            obtain ⟨hr, m2, H2, v2, cs2, ad2, F2, q1, q2, q3, q4, q5, q6⟩ := set_ok h h1
            obtain ⟨_, e2, e3, e4⟩ := At.inj ⟨hat⟩ q1
            subst e2; subst e3
            have e4 := eq_of_heq e4
            subst e4
            rw [h3] at q2
            injection q2 with q2
            injection q2 with q21 q22 q23 q24
            subst q23; subst q24
            have hrep := q3
            obtain ⟨f1, f2, b, es, clock, b1, b2, b3, b4⟩ := map_block q3
            have b4 := b4 hown
            simp only at g2
            subst b1
            rw [mkV_one (.map t2 t3) _ rfl] at g2
            obtain ⟨es', clock', r1, r2⟩ := run_update (P := P) hlay hk2 hu2 b2 b3
            generalize hw2 : ({ w with heap := w.heap.setIfInBounds b (.map es' clock') } : World) = w2 at r1
            have hext : Ext w w2 (rng b 0 1) := by rw [← hw2]; exact ext_setMap b2
            have hFr : ∀ b i, F r b i ≤ 1 := fun b i => by have := h.tot b i; have := le_sumF F hr b i; omega
            have hrun : (execOp a.eval o).run P w = .ok .skip w2 := by
              simp [execOp, ho, g2, hk1, hu1, r1]
            refine wp_skip' hrun hd ?_
            have hA : ∀ b' i, A b' i → ∀ u, ce w b' i = some u → ce w2 b' i = some u := fun b' i ha u hu => by
              refine hext.cell b' i (h.bnd b' i (.inr ha)) ?_ u hu
              rcases Nat.eq_zero_or_pos (rng b 0 1 b' i) with h0 | h0
              · exact h0
              · have : b' = b ∧ i = 0 := by
                  simp only [rng] at h0
                  split at h0
                  · omega
                  · omega
                obtain ⟨rfl, rfl⟩ := this
                exact absurd ha (h.dis b' 0 (by have := q4 b' 0; have := le_sumF F hr b' 0; omega))
            have hnew : ce w2 b 0 = some (mapV (entriesOf es')) := by
              rw [← hw2]
              exact map_ce (clock := clock') (by simp [(Array.getElem?_eq_some_iff.1 b2).1])
            have hrep2 : Rep P w2 A (.map t2 t3) m' [] (mapPut t2 v' ix uv) [.map (some b)] F2 := by
              simp only [Rep, hole, List.any_nil, Bool.false_eq_true, if_false, hown, if_true]
              refine ⟨f1, f2, b, entriesOf es', rfl, hnew, b4, r2.1, fun i q hq => ?_⟩
              obtain ⟨kc', vc', j1, j2, j3⟩ := r2.2 i q hq
              exact ⟨kc', vc', j1, Ro.mono hA (fun _ _ h => h) t2 j2, Ro.mono hA (fun _ _ h => h) t3 j3⟩
            have hF2 : ∀ b' i, rng b 0 1 b' i ≤ F2 b' i := fun b' i => by
              simp only [rng]
              split
              · rename_i hc
                obtain ⟨rfl, hc1, hc2⟩ := hc
                have : i = 0 := by omega
                subst this; exact b4
              · exact Nat.zero_le _
            have hhas : ∀ b' o', ad' = some (b', o') → Has w2 b' o' [.map (some b)] := fun b' o' ea j u hu => by
              have hh1 := (q5 b' o' ea).1 j u hu
              have hj := (List.getElem?_eq_some_iff.1 hu).1
              have hj0 : j = 0 := by simpa using hj
              subst hj0
              have h2 := q4 b' (o' + 0); have h4 := hF2 b' (o' + 0); have h5 := hFr b' (o' + 0); have h7 := le_sumF F hr b' (o' + 0)
              have h6 : rngO ad' (Ty.map t2 t3).sz b' (o' + 0) = 1 := by
                subst ea
                simp [rngO, rng, Ty.sz]
              exact hext.cell _ _ (h.bnd b' (o' + 0) (.inl (by show 1 ≤ 0 + _; omega))) (by omega) u hh1
            obtain ⟨A3, σ3, Fr, n1, n2, n3, n4, n5⟩ := q6 w2 A [.map (some b)] F2 (fun _ _ => 0) (hext.mono fun b' i hz => by
                have hz : 0 + (F2 b' i + rngO ad' (Ty.map t2 t3).sz b' i) = 0 := hz
                have h2 := hF2 b' i; omega) (fun _ _ h => h) (fun _ _ h => .inl h) (fun b i => by omega) hhas (fun _ => rfl) hrep2
            refine ⟨_, n1, A3, _, n5 bumpW (below_bumpW (h.vlen r)) (len_bumpW (h.vlen r)) rfl fun p' snap hb hok hlen => ?_⟩
            have h5 := ok_bumpW (h.vlen r) hb hok
            refine ⟨nidx p' + 1, False, by omega, fun _ => .inl (by omega), fun _ => by omega, ?_⟩
            intro q pl hq hp
            cases q with
            | nil =>
              simp only [plc, Option.some.injEq] at hp
              subst hp
              exact ⟨_, _, rfl, fun _ => rfl⟩
            | cons s q => cases s <;> simp [plc] at hp
          · cases h1
        · cases h1
      · cases hk
    · cases hk
  · cases hk

theorem step_mapLen (h : Rel0 P C A σ a w F) (hti : ∀ i T, E.TI i = some T → layB P T (.inl i) = true) {t : Nat} {y : Operand} (ho : o.op = .call { callee := .builtin .len, args := #[y], argTypes := #[t] }) (hok : opdOk P y = true) {K : St → Option R}
    (hk : mapLenK E σ t (opd σ y) (fun n => K (σ.putD o.dst (.val (.int .i64) (n : Int)))) = some x) : o.wp P a w (Nx P C K x) Q := by
  unfold mapLenK at hk
  obtain ⟨T, hT, hk⟩ := tiK_some hk
  have hlay := hti _ _ hT
  split at hk
  · rename_i k v
    rcases opd_ok h hok with hs | ⟨xs, e⟩
    rotate_left
    · rw [e] at hk; cases hk
    split at hk
    · rename_i r p snap hv
      rw [hv] at hs
      split at hk
      · rename_i hsn
        obtain ⟨hr, t', m', H', v', cs', ad', F', h1, hat, h3, h4, h5, h6⟩ := at_ok h hk
        split at h1
        · rename_i hH
          have hH := List.isEmpty_iff.1 hH
          subst hH
          obtain ⟨e1, h1⟩ := castK_some h1
          subst e1
          obtain ⟨pl, g1, g2, g3⟩ := hs.2 hsn
          rw [h3] at g1
          injection g1 with g1
          subst g1
          obtain ⟨f1, f2, b, es, clock, q1, q2, q3, q4⟩ := map_block h4
          simp only at g2
          subst q1
          rw [mkV_one (.map k v) _ rfl] at g2
          obtain ⟨ki, vi, hu, _, _, _⟩ := lay_map hlay
          have hlen : es.size = List.length v' := by have := q3.1; simpa using this
          have hrun : (execOp a.eval o).run P w = .ok (.value (.int .i64 ((List.length v' : Nat) : Int))) w := by
            rw [run_len_call ho]
            simp [Builtin.len_, g2, run_underlying hu, MapKept.run_getObj_map q2, goInt, hlen]
          exact wp_val hrun (fin_flat h h1 ⟨[.int .i64 _], rfl, rfl⟩ (fun _ _ _ _ e => by cases e))
        · cases h1
      · cases hk
    · cases hk
  · cases hk
end
end OT
