/- Operations, tenth part: structs, arrays and slices that are built. -/
import Derived.Test.YtkimdiobckckiaaOTw
import Derived.Laws.Tables
import Derived.Great.BuildSlice
set_option linter.unusedVariables false
set_option linter.unusedSimpArgs false
namespace OT
open Go

section
variable {P : Program} {C : Ctx} {A : Cells} {X : FP} {σ : St} {a : Act} {w : World} {F : Nat → FP} {R : Type} {x : R} {Q : Exit → Act → World → Prop} {o : Oper} {E : Env}

/-- What floats is nobody's from now on. -/
theorem Rel.giveUp (h : Rel P C A X σ a w F) {A1 : Cells} {X1 : FP} (hA : ∀ b i, A b i → A1 b i) (hA1 : ∀ b i, A1 b i → A b i ∨ (1 ≤ X b i ∧ X1 b i = 0)) (hX : ∀ b i, X1 b i ≤ X b i) : Rel P C A1 X1 σ a w F := by
  have hpres : Pres σ a w σ a w := fun r p snap hb => ⟨hb, fun hok => ⟨hok, fun hl pl hpl => ⟨pl.H, pl.cs, hpl, fun _ => rfl⟩⟩⟩
  refine ⟨h.size, h.defers, fun i hi => SlotRel.pres hpres hA (fun _ _ _ _ h => h) (fun _ _ h => h) (fun _ _ _ => ⟨fun _ h => h, rfl⟩) (h.slots i hi), h.gh, fun b i => by have := h.tot b i; have := hX b i; omega,
    fun b i hp ha => ?_, fun b i hp => ?_, h.vlen, h.ext, fun b i hp => h.own b i (by have := hX b i; omega), fun b i ha => hA b i (h.a0 b i ha), fun b i ha => ?_, h.lentP, h.whole, h.lentS⟩
  · rcases hA1 b i ha with ha | ha
    · exact h.dis b i (by have := hX b i; omega) ha
    · have := h.tot b i; omega
  · rcases hp with hp | ha
    · exact h.bnd b i (.inl (by have := hX b i; omega))
    · rcases hA1 b i ha with ha | ha
      · exact h.bnd b i (.inr ha)
      · exact h.bnd b i (.inl (by omega))
  · rcases hA1 b i ha with ha | ha
    · exact h.a1 b i ha
    · exact .inr (h.own b i (by omega))

theorem giveUp_ok {t : Ty} {m : Md} {v : t.den} {cs : List Value} {Fv X1 : FP} (h : Rel P C A X σ a w F) (hr : Rep P w A t m [] v cs Fv) (hX : ∀ b i, X1 b i + Fv b i ≤ X b i) :
    ∃ A1 : Cells, (∀ b i, A b i → A1 b i) ∧ Rel P C A1 X1 σ a w F ∧ Ro P w A1 t v cs := by
  refine ⟨fun b i => A b i ∨ 1 ≤ Fv b i, fun _ _ h => .inl h, h.giveUp (fun _ _ h => .inl h) (fun b i ha => ha.imp id fun hp => ?_) (fun b i => by have := hX b i; omega), Rep.toRo (fun _ _ h => .inl h) t hr (fun _ _ hp => .inr hp)⟩
  have := hX b i; have := h.tot b i; omega

/-- Cells laid into cells. -/
theorem fill_list {off : Nat} {l cs : List Value} (h : off + l.length ≤ cs.length) :
    ((l.toArray.zipIdx).foldl (fun cs (x : Value × Nat) => cs.setIfInBounds (off + x.2) x.1) cs.toArray) = (cs.take off ++ l ++ cs.drop (off + l.length)).toArray := by
  obtain ⟨h1, h2⟩ := Great.foldl_set off l 0 cs.toArray
  have e : (l.toArray.zipIdx).foldl (fun cs (x : Value × Nat) => cs.setIfInBounds (off + x.2) x.1) cs.toArray = (l.zipIdx 0).foldl (fun cs (x : Value × Nat) => cs.setIfInBounds (off + x.2) x.1) cs.toArray := by simp
  rw [e]
  apply Array.ext_getElem?
  intro k
  rw [h2 k]
  simp only [Nat.add_zero, List.size_toArray, List.getElem?_toArray]
  by_cases hk : k < off
  · rw [if_neg (by omega), List.append_assoc, List.getElem?_append_left (by simp; omega), List.getElem?_take_of_lt hk]
  · by_cases hk2 : k < off + l.length
    · rw [if_pos (by omega), List.append_assoc, List.getElem?_append_right (by simp; omega)]
      have : (cs.take off).length = off := by simp; omega
      rw [this, List.getElem?_append_left (by omega)]
    · rw [if_neg (by omega), List.getElem?_append_right (by simp; omega)]
      have : (cs.take off ++ l).length = off + l.length := by simp; omega
      rw [this, List.getElem?_drop]
      congr 1; omega

theorem fill_step {pl : Nat → Option (Nat × Nat)} {j off sz : Nat} (hp : pl j = some (off, sz)) {t : Ty} {l cs : List Value} (hl : l.length = sz) (h1 : (mkV t l).cells.toList = l) (h : off + sz ≤ cs.length) (rest : List (Nat × Value)) :
    Instr.fill pl cs.toArray ((j, mkV t l) :: rest) = Instr.fill pl (cs.take off ++ l ++ cs.drop (off + sz)).toArray rest := by
  have hc : (mkV t l).cells = l.toArray := Array.ext' (by simpa using h1)
  rw [Instr.fill, hp]
  simp only [hc, List.size_toArray, hl, ne_eq, not_true_eq_false, decide_false, Bool.false_or]
  rw [if_neg (by simp; omega)]
  have := fill_list (off := off) (l := l) (cs := cs) (by omega)
  rw [hl] at this
  rw [← this]

theorem putFld_ok : ∀ (n : Nat) (t : Ty) {t' : Ty} {m m' : Md} {v : t.den} {y : t'.den} {cs ys : List Value} {G H : FP} {K : Md → t.den → Option R}, Rep P w A t m [] v cs G → Rep P w A t' m' [] y ys H →
    putFld n t m v t' m' y K = some x → ∃ m2 v2, K m2 v2 = some x ∧ Rep P w A t m2 [] v2 (cs.take (offOf n t) ++ ys ++ cs.drop (offOf n t + t'.sz)) (fun b i => G b i + H b i) ∧ offOf n t + t'.sz ≤ cs.length := by
  intro n
  induction n with
  | zero =>
    intro t t' m m' v y cs ys G H K hr hy hk
    cases t with
    | pair a b =>
      simp only [putFld] at hk
      obtain ⟨e, hk⟩ := castK_some hk; subst e
      have hl := Rep.length _ hr
      have hly := Rep.length _ hy
      obtain ⟨h0, F1, F2, hs, h1, h2⟩ := hr
      refine ⟨_, _, hk, ⟨rfl, H, F2, fun b i => by have := hs b i; show H b i + F2 b i ≤ G b i + H b i; omega, ?_, ?_⟩, ?_⟩
      · simp only [offOf, List.take_zero, List.nil_append, Nat.zero_add, List.filterMap_nil, Md.l]
        rw [List.take_left' hly]; exact hy
      · simp only [offOf, List.take_zero, List.nil_append, Nat.zero_add, List.filterMap_nil, Md.r]
        rw [List.drop_left' hly]; exact h2
      · simp only [offOf, Ty.sz] at hl ⊢; omega
    | _ => cases hk
  | succ n ih =>
    intro t t' m m' v y cs ys G H K hr hy hk
    cases t with
    | pair a b =>
      simp only [putFld] at hk
      have hl := Rep.length _ hr
      obtain ⟨h0, F1, F2, hs, h1, h2⟩ := hr
      obtain ⟨m2, v2, k1, k2, k3⟩ := ih b h2 hy hk
      simp only [List.length_drop] at k3
      simp only [Ty.sz] at hl
      refine ⟨_, _, k1, ⟨rfl, F1, fun b i => F2 b i + H b i, fun b i => by have := hs b i; show F1 b i + (F2 b i + H b i) ≤ G b i + H b i; omega, ?_, ?_⟩, ?_⟩
      · simp only [offOf, List.filterMap_nil, Md.l]
        have : (cs.take (a.sz + offOf n b) ++ ys ++ cs.drop (a.sz + offOf n b + t'.sz)).take a.sz = cs.take a.sz := by
          rw [List.append_assoc, List.take_append_of_le_length (by simp; omega), List.take_take, Nat.min_eq_left (by omega)]
        rw [this]; exact h1
      · simp only [offOf, List.filterMap_nil, Md.r]
        have : (cs.take (a.sz + offOf n b) ++ ys ++ cs.drop (a.sz + offOf n b + t'.sz)).drop a.sz = (cs.drop a.sz).take (offOf n b) ++ ys ++ (cs.drop a.sz).drop (offOf n b + t'.sz) := by
          rw [List.append_assoc, List.drop_append_of_le_length (by simp; omega), List.drop_take, List.drop_drop, List.append_assoc]
          rw [show a.sz + offOf n b - a.sz = offOf n b by omega, show a.sz + (offOf n b + t'.sz) = a.sz + offOf n b + t'.sz by omega]
        rw [this]; exact k2
      · simp only [offOf]; omega
    | _ => cases hk

theorem mapM_get {α β : Type} (g : α → Option β) : ∀ (l : List α) (ps : List β), l.mapM g = some ps → ∀ (j : Nat) (f : α), l[j]? = some f → ps[j]? = g f
  | [], ps, h, j, f, hf => by cases hf
  | y :: l, ps, h, j, f, hf => by
    simp only [List.mapM_cons, Option.bind_eq_bind, Option.pure_def] at h
    cases hy : g y with
    | none => simp [hy] at h
    | some z =>
      cases hr : l.mapM g with
      | none => simp [hy, hr] at h
      | some r =>
        simp only [hy, hr, Option.bind_some, Option.some.injEq] at h
        subst h
        cases j with
        | zero => injection hf with hf; subst hf; exact hy.symm
        | succ j => exact mapM_get g l r hr j f hf

theorem lay_places : ∀ (t : Ty) {fs : List Field} {off : Nat}, layB P t (.inr (fs, off)) = true → ∃ ps, fs.mapM (fun f => (P.info? f.type).map fun i => (f.offset, i.size)) = some ps := by
  intro t
  induction t with
  | unit =>
    intro fs off h
    simp only [layB, List.isEmpty_iff] at h
    subst h
    exact ⟨[], rfl⟩
  | pair a b iha ihb =>
    intro fs off h
    cases fs with
    | nil => simp [layB] at h
    | cons f r =>
      simp only [layB, Bool.and_eq_true] at h
      obtain ⟨ps, hps⟩ := ihb h.2
      obtain ⟨inf, hi, _⟩ := infoOk_some (layB_info h.1.2)
      exact ⟨(f.offset, inf.size) :: ps, by simp [hi, hps]⟩
  | _ => intro fs off h; simp [layB] at h

/-- A struct's places by the program's tables. -/
theorem struct_places {T : Ty} {i : TypeId} (hl : layB P T (.inl i) = true) {j : Nat} {t' : Ty} (hj : fldTy j T = some t') :
    ∃ fs ps, P.underlying i = some (.struct fs) ∧ fs.toList.mapM (fun f => (P.info? f.type).map fun i => (f.offset, i.size)) = some ps ∧ ∀ j t', fldTy j T = some t' → ps.toArray[j]? = some (offOf j T, t'.sz) := by
  cases T with
  | pair a b =>
    have hl0 := hl
    simp only [layB, Bool.and_eq_true] at hl
    have h2 := hl.2
    split at h2
    · rename_i fs hu
      split at h2
      · rename_i f r hfs
        have h3 : layB P (.pair a b) (.inr (f :: r, 0)) = true := by
          simp only [layB, Nat.zero_add]; exact h2
        obtain ⟨ps, hps⟩ := lay_places _ h3
        refine ⟨fs, ps, hu, by rw [hfs]; exact hps, fun j t' hj => ?_⟩
        obtain ⟨f', q1, q2, q3, q4⟩ := fld_lay j (.pair a b) h3 hj
        have := mapM_get _ _ _ hps j f' q1
        obtain ⟨inf, hi, hs, _⟩ := infoOk_some (layB_info q3)
        simp only [List.getElem?_toArray, this, hi, Option.map_some, hs, q2, Nat.zero_add]
      · cases h2
    · cases h2
  | _ => cases j <;> cases hj

/-- The parts of a struct, one by one. -/
theorem buildK_ok {T : Ty} {fz : Nat → Bool} {pl : Nat → Option (Nat × Nat)} (hpl : ∀ j t', fldTy j T = some t' → pl j = some (offOf j T, t'.sz)) {K : Md → T.den → St → Option R} :
    ∀ (ps : List (Nat × Operand)) {n : Nat} {σ : St} {A : Cells} {X : FP} {F : Nat → FP} {m : Md} {v : T.den} {cs : List Value}, ps.all (fun p => opdOk P p.2) = true → Rel P C A X σ a w F → Rep P w A T m [] v cs X →
      buildK E σ T fz ps n m v K = some x → ∃ A' σ' F' m' v' cs' X', K m' v' σ' = some x ∧ Rel P C A' X' σ' a w F' ∧ Rep P w A' T m' [] v' cs' X' ∧ Instr.fill pl cs.toArray (ps.map fun p => (p.1, a.eval p.2)) = some cs'.toArray := by
  intro ps
  induction ps with
  | nil => intro n σ A X F m v cs hok h hr hk; exact ⟨A, σ, F, m, v, cs, X, hk, h, hr, rfl⟩
  | cons p ps ih =>
    intro n σ A X F m v cs hok h hr hk
    obtain ⟨j, y⟩ := p
    simp only [List.all_cons, Bool.and_eq_true] at hok
    simp only [buildK] at hk
    split at hk
    · rename_i t' ht'
      rcases opd_ok h hok.1 with hs | ⟨xs, e⟩
      rotate_left
      · rw [e] at hk; simp [useK] at hk
      obtain ⟨A1, σ1, F1, m1, v1, cs1, Fv, k1, k2, k3, k4, kr, k5, k6⟩ := use_ok h hs hk
      have hr1 := Rep.mono (P := P) (A' := A1) k2 (fun _ _ _ _ h => h) (fun _ _ h => h) T hr (fun _ _ => Nat.le_refl _) (fun _ _ _ _ h => h)
      obtain ⟨m2, v2, q1, q2, q3⟩ := putFld_ok j T hr1 k6 k1
      obtain ⟨A', σ', F', m', v', cs', X', g1, g2, g3, g4⟩ := ih hok.2 k3 q2 q1
      refine ⟨A', σ', F', m', v', cs', X', g1, g2, g3, ?_⟩
      rw [List.map_cons, k5, fill_step (hpl j t' ht') (Rep.length _ k6) (mkV_cells (Rep.length _ k6) (Rep.one _ k6)) q3]
      exact g4
    · cases hk

theorem fldTy_agg {T t' : Ty} {j : Nat} (h : fldTy j T = some t') (cs : List Value) : mkV T cs = .agg cs.toArray := by
  cases T <;> first | rfl | (cases j <;> cases h)

/-- An array's cells. -/
theorem arr_put {n j : Nat} {e : Ty} {v : List e.den} {y : e.den} {cs ys : List Value} (h : Ro P w A (.arr n e) v cs) (hy : Ro P w A e y ys) (hj : j < v.length) :
    Ro P w A (.arr n e) (v.set j y) (cs.take (j * e.sz) ++ ys ++ cs.drop (j * e.sz + e.sz)) ∧ j * e.sz + e.sz ≤ cs.length := by
  obtain ⟨h1, h2, h3, h4⟩ := h
  have hly := Ro.length _ hy
  have hle : j * e.sz + e.sz ≤ cs.length := by
    rw [h3, ← Nat.succ_mul]; exact Nat.mul_le_mul_right _ (by omega)
  refine ⟨⟨h1, by simpa using h2, by simp only [List.length_append, List.length_take, List.length_drop, hly]; omega, fun i z hz => ?_⟩, hle⟩
  rw [List.getElem?_set] at hz
  split at hz
  · rename_i e1
    subst e1
    first
      | rw [if_pos hj] at hz
      | skip
    injection hz with hz; subst hz
    rw [List.append_assoc, List.drop_left' (by simp; omega), List.take_left' hly]; exact hy
  · rename_i hne
    have h5 := h4 i z hz
    have : ((cs.take (j * e.sz) ++ ys ++ cs.drop (j * e.sz + e.sz)).drop (i * e.sz)).take e.sz = (cs.drop (i * e.sz)).take e.sz := by
      rcases Nat.lt_or_ge i j with hij | hij
      · have h6 : i * e.sz + e.sz ≤ j * e.sz := by rw [← Nat.succ_mul]; exact Nat.mul_le_mul_right _ (by omega)
        rw [List.append_assoc, List.drop_append_of_le_length (by simp; omega), List.take_append_of_le_length (by simp; omega), List.drop_take, List.take_take, Nat.min_eq_left (by omega)]
      · have h6 : j * e.sz + e.sz ≤ i * e.sz := by rw [← Nat.succ_mul]; exact Nat.mul_le_mul_right _ (by omega)
        have h7 : (cs.take (j * e.sz) ++ ys).length = j * e.sz + e.sz := by simp [hly]; omega
        rw [List.drop_append, h7, List.drop_of_length_le (by omega), List.nil_append, List.drop_drop]
        congr 2; omega
    rw [this]; exact h5

theorem arrK_ok {n0 : Nat} {e : Ty} {fz : Nat → Bool} (hf : e.flat = true) {K : List e.den → St → Option R} :
    ∀ (ps : List (Nat × Operand)) {n : Nat} {σ : St} {A : Cells} {F : Nat → FP} {v : List e.den} {cs : List Value}, ps.all (fun p => opdOk P p.2) = true → Rel0 P C A σ a w F → Ro P w A (.arr n0 e) v cs →
      arrK σ e fz ps n v K = some x → ∃ A' σ' F' v' cs', K v' σ' = some x ∧ Rel0 P C A' σ' a w F' ∧ Ro P w A' (.arr n0 e) v' cs' ∧ Instr.fill (fun i => some (i * e.sz, e.sz)) cs.toArray (ps.map fun p => (p.1, a.eval p.2)) = some cs'.toArray := by
  intro ps
  induction ps with
  | nil => intro n σ A F v cs hok h hr hk; exact ⟨A, σ, F, v, cs, hk, h, hr, rfl⟩
  | cons p ps ih =>
    intro n σ A F v cs hok h hr hk
    obtain ⟨j, y⟩ := p
    simp only [List.all_cons, Bool.and_eq_true] at hok
    simp only [arrK] at hk
    rcases opd_ok h hok.1 with hs | ⟨xs, e⟩
    rotate_left
    · rw [e] at hk; simp [useK] at hk
    obtain ⟨A1, σ1, F1, m1, v1, cs1, Fv, k1, k2, k3, k4, kr, k5, k6⟩ := use_ok h hs hk
    split at k1
    · rename_i hj
      have hr1 : Ro P w A1 (.arr n0 e) v cs := Ro.mono (fun _ _ _ _ h => h) k2 _ hr
      obtain ⟨q1, q2⟩ := arr_put hr1 (Rep.flat _ hf k6) hj
      obtain ⟨A', σ', F', v', cs', g1, g2, g3, g4⟩ := ih hok.2 (k3.less (X' := fun _ _ => 0) fun _ _ => Nat.zero_le _) q1 k1
      refine ⟨A', σ', F', v', cs', g1, g2, g3, ?_⟩
      rw [List.map_cons, k5, fill_step (pl := fun i => some (i * e.sz, e.sz)) rfl (Rep.length _ k6) (mkV_cells (Rep.length _ k6) (Rep.one _ k6)) q2]
      exact g4
    · cases k1

theorem mkV_toArray (cs : List Value) : (Value.agg cs.toArray) = .agg cs.toArray := rfl

theorem take_build (h : Rel0 P C A σ a w F) (hti : ∀ i T, E.TI i = some T → layB P T (.inl i) = true) {t : Nat} {ps : Array (Nat × Operand)} {fz : Nat → Bool} (ho : o.op = .build t ps) (hok : ps.toList.all (fun p => opdOk P p.2) = true) {K : St → Option R}
    (hk : (tiK E t fun t => match t with
    | .arr n e => if e.zok then arrK σ e fz ps.toList 0 (Ty.arr n e).zero fun v σ => K (σ.putD o.dst (laid (.arr n e) (ownMd (.arr n e)) v)) else none
    | .pair t1 t2 => if (Ty.pair t1 t2).zok then buildK E σ (.pair t1 t2) fz ps.toList 0 (ownMd (.pair t1 t2)) (Ty.pair t1 t2).zero fun m v σ => K (σ.putD o.dst (laid (.pair t1 t2) m v)) else none
    | _ => none) = some x) : Tk P o a w (Nx P C K x) := by
  obtain ⟨T, hT, hk⟩ := tiK_some hk
  have hlay := hti _ _ hT
  have run : ∀ (cells : Array Value), P.built t (ps.map fun (i, x) => (i, a.eval x)).toList = some cells → ∀ w', Same o w w' → (execOp a.eval o).run P w' = .ok (.value (.agg cells)) w' := fun cells hc w' _ => by
    simp [execOp, ho, run_build w' t _ cells hc]
  have hps : (ps.map fun (i, x) => (i, a.eval x)).toList = ps.toList.map fun p => (p.1, a.eval p.2) := by simp
  rw [hps] at run
  split at hk
  · rename_i n e
    split at hk
    · rename_i hz
      have hflat : e.flat = true := by
        have hl := hlay; simp only [layB, Bool.and_eq_true] at hl; exact hl.1.2
      obtain ⟨L, hL⟩ := zok_some (.arr n e) (by simpa [Ty.zok] using hz)
      obtain ⟨r1, r2, r3⟩ := zc_ok (P := P) (w := w) (A := A) _ hL hlay
      obtain ⟨inf, i1, i2, i3, i4⟩ := infoOk_some (layB_info hlay)
      obtain ⟨z, z1, z2⟩ := i4 L hL
      obtain ⟨A', σ', F', v', cs', g1, g2, g3, g4⟩ := arrK_ok hflat ps.toList hok h r2 hk
      have hu : ∃ el ie, P.underlying t = some (.array n el) ∧ P.info? el = some ie ∧ ie.size = e.sz := by
        have hl := hlay
        simp only [layB, Bool.and_eq_true] at hl
        have h2 := hl.2
        split at h2
        · rename_i n' el hu
          simp only [Bool.and_eq_true, Nat.beq_eq] at h2
          obtain ⟨ie, j1, j2, _⟩ := infoOk_some (layB_info h2.2)
          exact ⟨el, ie, by rw [hu, h2.1.1], j1, j2⟩
        · cases h2
      obtain ⟨el, ie, u1, u2, u3⟩ := hu
      have hz' : z.cells = L.toArray := Array.ext' (by simpa using z2)
      have e1 : mkV (.arr n e) cs' = .agg cs'.toArray := rfl
      refine tk_val (v := mkV (.arr n e) cs') (run _ ?_) ?_
      · unfold Program.built
        simp only [i1, u1, z1, u2, u3, hz']
        exact g4
      · exact fin_laid g2 g1 (Ro.flat _ (fun _ _ => 0) (by simpa [Ty.flat] using hflat) g3) (fun _ _ => Nat.le_refl _)
    · cases hk
  · rename_i t1 t2
    split at hk
    · rename_i hz
      obtain ⟨L, hL⟩ := zok_some (.pair t1 t2) hz
      obtain ⟨r1, r2, r3⟩ := zc_ok (P := P) (w := w) (A := A) _ hL hlay
      obtain ⟨inf, i1, i2, i3, i4⟩ := infoOk_some (layB_info hlay)
      obtain ⟨z, z1, z2⟩ := i4 L hL
      have hz' : z.cells = L.toArray := Array.ext' (by simpa using z2)
      obtain ⟨fs, pls, u1, u2, u3⟩ := struct_places hlay (j := 0) rfl
      obtain ⟨A', σ', F', m', v', cs', X', g1, g2, g3, g4⟩ := buildK_ok (pl := fun j => pls.toArray[j]?) u3 ps.toList hok h r1 hk
      refine tk_val (v := mkV (.pair t1 t2) cs') (run _ ?_) (fin_laid g2 g1 g3 (fun _ _ => Nat.le_refl _))
      unfold Program.built
      simp only [i1, u1, z1, u2, hz']
      exact g4
    · cases hk
  · cases hk

/-- A slice's elements, one by one. 'Z': the zeros that are left. -/
theorem seqK_ok {e : Ty} {fz : Nat → Bool} (hsz : 1 ≤ e.sz) {K : Md → List e.den → St → Option R} :
    ∀ (ps : List (Nat × Operand)) {n : Nat} {σ : St} {A : Cells} {X : FP} {F : Nat → FP} {m : Md} {v : List e.den} {L Z : List Value} {Fi : Nat → FP}, ps.all (fun p => opdOk P p.2) = true → Rel P C A X σ a w F →
      List.length v = n → L.length = n * e.sz → Z.length = ps.length * e.sz → (∀ b i, sumF n Fi b i ≤ X b i) → (∀ (i : Nat) (y : e.den), v[i]? = some y → Rep P w A e m [] y ((L.drop (i * e.sz)).take e.sz) (Fi i)) →
      seqK σ e fz ps n m v K = some x → ∃ (A' : Cells) (σ' : St) (F' : Nat → FP) (m' : Md) (v' : List e.den) (L' : List Value) (X' : FP) (Fi' : Nat → FP), K m' v' σ' = some x ∧ Rel P C A' X' σ' a w F' ∧ List.length v' = n + ps.length ∧ L'.length = (n + ps.length) * e.sz ∧ (∀ b i, sumF (n + ps.length) Fi' b i ≤ X' b i) ∧
        (∀ (i : Nat) (y : e.den), v'[i]? = some y → Rep P w A' e m' [] y ((L'.drop (i * e.sz)).take e.sz) (Fi' i)) ∧ Instr.fill (fun i => some (i * e.sz, e.sz)) (L ++ Z).toArray (ps.map fun p => (p.1, a.eval p.2)) = some L'.toArray := by
  intro ps
  induction ps with
  | nil =>
    intro n σ A X F m v L Z Fi hok h hv hL hZ hX hr hk
    have : Z = [] := by simpa using hZ
    subst this
    exact ⟨A, σ, F, m, v, L, X, Fi, hk, h, hv, hL, hX, hr, by simp [Instr.fill]⟩
  | cons p ps ih =>
    intro n σ A X F m v L Z Fi hok h hv hL hZ hX hr hk
    obtain ⟨j, y⟩ := p
    simp only [List.all_cons, Bool.and_eq_true] at hok
    simp only [seqK] at hk
    split at hk
    · rename_i hj
      have hj : j = n := by simpa using hj
      subst hj
      rcases opd_ok h hok.1 with hs | ⟨xs, e⟩
      rotate_left
      · rw [e] at hk; simp [useK] at hk
      obtain ⟨A1, σ1, F1, m1, v1, cs1, Fv, k1, k2, k3, k4, kr, k5, k6⟩ := use_ok h hs hk
      have hl1 := Rep.length _ k6
      have hZ1 : Z.length = e.sz + ps.length * e.sz := by rw [hZ, List.length_cons, Nat.add_mul]; omega
      have hgo : ∀ {A2 : Cells} {X2 : FP} {m2 : Md} {Fi2 : Nat → FP}, Rel P C A2 X2 σ1 a w F1 → (∀ b i, sumF (j + 1) Fi2 b i ≤ X2 b i) → (∀ (i : Nat) (y : e.den), v[i]? = some y → Rep P w A2 e m2 [] y ((L.drop (i * e.sz)).take e.sz) (Fi2 i)) →
          Rep P w A2 e m2 [] v1 cs1 (Fi2 j) → seqK σ1 e fz ps (j + 1) m2 (v ++ [v1]) K = some x →
          ∃ (A' : Cells) (σ' : St) (F' : Nat → FP) (m' : Md) (v' : List e.den) (L' : List Value) (X' : FP) (Fi' : Nat → FP), K m' v' σ' = some x ∧ Rel P C A' X' σ' a w F' ∧ List.length v' = j + (ps.length + 1) ∧ L'.length = (j + (ps.length + 1)) * e.sz ∧ (∀ b i, sumF (j + (ps.length + 1)) Fi' b i ≤ X' b i) ∧
            (∀ (i : Nat) (y : e.den), v'[i]? = some y → Rep P w A' e m' [] y ((L'.drop (i * e.sz)).take e.sz) (Fi' i)) ∧ Instr.fill (fun i => some (i * e.sz, e.sz)) (L ++ Z).toArray ((j, a.eval y) :: ps.map fun p => (p.1, a.eval p.2)) = some L'.toArray := by
        intro A2 X2 m2 Fi2 h2 hX2 hr2 hn2 hk2
        obtain ⟨A', σ', F', m', v', L', X', Fi', g1, g2, g3, g4, g5, g6, g7⟩ := ih (L := L ++ cs1) (Z := Z.drop e.sz) (Fi := Fi2) hok.2 h2 (by simp [hv]) (by simp [hL, hl1, Nat.add_mul]) (by simp [hZ1]) hX2 (fun i z hz => by
          by_cases hi : i = j
          · subst hi
            rw [List.getElem?_append_right (by omega)] at hz
            simp only [hv, Nat.sub_self, List.getElem?_cons_zero, Option.some.injEq] at hz
            subst hz
            rw [List.drop_left' hL, List.take_of_length_le (by omega)]; exact hn2
          · have hlt : i < j := by
              have := (List.getElem?_eq_some_iff.1 hz).1
              simp only [List.length_append, List.length_singleton, hv] at this; omega
            rw [List.getElem?_append_left (by omega)] at hz
            have h6 : i * e.sz + e.sz ≤ j * e.sz := by rw [← Nat.succ_mul]; exact Nat.mul_le_mul_right _ (by omega)
            rw [List.drop_append_of_le_length (by omega), List.take_append_of_le_length (by simp; omega)]
            exact hr2 i z hz) hk2
        refine ⟨A', σ', F', m', v', L', X', Fi', g1, g2, by omega, by rw [g4]; congr 1; omega, fun b i => by have := g5 b i; rw [show j + (ps.length + 1) = j + 1 + ps.length by omega]; exact this, g6, ?_⟩
        rw [k5, fill_step (pl := fun i => some (i * e.sz, e.sz)) rfl hl1 (mkV_cells hl1 (Rep.one _ k6)) (by simp [hL, hZ1])]
        rw [List.take_left' hL, show j * e.sz + e.sz = L.length + e.sz by omega, List.drop_append, List.drop_of_length_le (by omega), List.nil_append, Nat.add_sub_cancel_left]
        exact g7
      have hr1 : ∀ (i : Nat) (y : e.den), v[i]? = some y → Rep P w A1 e m [] y ((L.drop (i * e.sz)).take e.sz) (Fi i) := fun i y hy => Rep.mono (P := P) (A' := A1) k2 (fun _ _ _ _ h => h) (fun _ _ h => h) e (hr i y hy) (fun _ _ => Nat.le_refl _) (fun _ _ _ _ h => h)
      split at k1
      · rename_i hm
        subst hm
        refine hgo (Fi2 := updF Fi j Fv) k3 (fun b i => ?_) (fun i y hy => ?_) (by simp only [updF, if_true]; exact k6) k1
        · have h1 := sumF_add j 1 (updF Fi j Fv) b i
          have h2 : sumF j (updF Fi j Fv) b i = sumF j Fi b i := by rw [sumF_upd_out Fi (Nat.le_refl j)]
          have h3 : sumF 1 (fun k => updF Fi j Fv (j + k)) b i = Fv b i := by simp [sumF, updF]
          have := hX b i
          omega
        · have : i ≠ j := by have := (List.getElem?_eq_some_iff.1 hy).1; omega
          simp only [updF]; rw [if_neg this]; exact hr1 i y hy
      · -- all of it is given up
        have hro : ∃ A2 : Cells, (∀ b i, A1 b i → A2 b i) ∧ Rel P C A2 (fun _ _ => 0) σ1 a w F1 ∧ Ro P w A2 e v1 cs1 ∧ ∀ (i : Nat) (y : e.den), v[i]? = some y → Ro P w A2 e y ((L.drop (i * e.sz)).take e.sz) := by
          refine ⟨fun b i => A1 b i ∨ 1 ≤ X b i + Fv b i, fun _ _ h => .inl h, k3.giveUp (fun _ _ h => .inl h) (fun b i ha => ha.imp id fun hp => ⟨hp, rfl⟩) (fun _ _ => Nat.zero_le _), Rep.toRo (fun _ _ h => .inl h) e k6 (fun b i hp => .inr (by omega)), fun i y hy => ?_⟩
          have hi := (List.getElem?_eq_some_iff.1 hy).1
          exact Rep.toRo (fun _ _ h => .inl h) e (hr1 i y hy) (fun b k hp => .inr (by have := le_sumF Fi (show i < j by omega) b k; have := hX b k; omega))
        obtain ⟨A2, a1, a2, a3, a4⟩ := hro
        exact hgo (Fi2 := fun _ _ _ => 0) a2 (fun b i => by rw [sumF_zero]; exact Nat.zero_le _) (fun i y hy => Ro.rep _ _ (roMd_noOwn _) (a4 i y hy)) (Ro.rep _ _ (roMd_noOwn _) a3) k1
    · cases hk

theorem new_buildSlice (h : Rel0 P C A σ a w F) (hti : ∀ i T, E.TI i = some T → layB P T (.inl i) = true) {t n : Nat} {ps : Array (Nat × Operand)} {fz : Nat → Bool} (ho : o.op = .buildSlice t n ps) (hok : ps.toList.all (fun p => opdOk P p.2) = true) {K : St → Option R}
    (hk : (tiK E t fun t => match t with
    | .slc e => if Nat.beq n ps.size && e.zok && Nat.ble (n * e.sz) 16777216 then seqK σ e fz ps.toList 0 (ownMd e) [] fun m v σ => K (σ.putD o.dst (.own (.slc e) (.slc true m) [] v)) else none
    | _ => none) = some x) : o.wp P a w (fun a' w' => Nx P C K x a' w' ∧ Ext w w' (fun _ _ => 0)) Q := by
  obtain ⟨T, hT, hk⟩ := tiK_some hk
  have hlay := hti _ _ hT
  split at hk
  · rename_i e
    split at hk
    · rename_i hc
      simp only [Bool.and_eq_true, Nat.beq_eq, Nat.ble_eq] at hc
      obtain ⟨⟨hn, hz⟩, hcap⟩ := hc
      have hl := hlay
      simp only [layB, Bool.and_eq_true] at hl
      have h2 := hl.2
      split at h2
      · rename_i el hu
        simp only [Bool.and_eq_true, Nat.ble_eq] at h2
        obtain ⟨hsz, hel⟩ := h2
        obtain ⟨Lz, hLz⟩ := zok_some e hz
        obtain ⟨r1, r2, r3⟩ := zc_ok (P := P) (w := w) (A := A) _ hLz hel
        obtain ⟨inf, i1, i2, i3, i4⟩ := infoOk_some (layB_info hel)
        obtain ⟨z, z1, z2⟩ := i4 Lz hLz
        -- the zeros
        have hzl : z.cells.size = e.sz := by rw [← r3, ← z2]; simp
        obtain ⟨A', σ', F', m', v', L', X', Fi', g1, g2, g3, g4, g5, g6, g7⟩ := seqK_ok (P := P) hsz ps.toList (n := 0) (L := []) (Z := ((Array.range (n * e.sz)).map (z.cells[· % z.cells.size]!)).toList) (Fi := fun _ _ _ => 0) (m := ownMd e) hok h rfl (by simp) (by simp [hn]) (fun b i => by rw [sumF_zero]; exact Nat.zero_le _) (fun i y hy => by cases hy) hk
        simp only [List.nil_append, Array.toArray_toList] at g7
        simp only [Nat.zero_add] at g3 g4 g5
        have hnl : ps.toList.length = n := by simpa using hn.symm
        rw [hnl] at g3 g4 g5
        have hrun : (execOp a.eval o).run P w = .ok (.value (.slice (some ⟨w.heap.size, 0, none⟩) n n)) (w.alloc (.cells L'.toArray el)) := by
          by_cases hn0 : n * e.sz = 0
          · have : n = 0 := by rcases Nat.mul_eq_zero.1 hn0 with h | h <;> omega
            subst this
            have hps : ps = #[] := by apply Array.eq_empty_of_size_eq_zero; omega
            subst hps
            have hL' : L' = [] := by simpa using g4
            subst hL'
            simp [execOp, ho, Instr.buildSlice, run_underlying hu, Go.sizeOf, typeInfo, i1, Instr.fill, newRow, show Array.range 0 = #[] from rfl]
          · have := run_buildSlice (P := P) w t el n (ps.map fun (i, x) => (i, a.eval x)) L'.toArray inf z hu i1 z1 (by rw [i2]; simp; omega) (by rw [i2]; exact hn0) (by rw [i2]; simpa using g7)
            simp only [execOp, ho, this, Sem.run_bind, Result.andThen_ok, Sem.run_pure]
        refine wp_val (w' := w.alloc (.cells L'.toArray el)) hrun ?_
        have hsn := slc_new g2 (K := K) (x := x) (d := o.dst) (e := e) (m := m') (v := v') (c := L'.toArray) (cap := n) (el := el) (fr := (0, 0)) (Fi := Fi') (.inr (Nat.le_refl _)) g1 (by simp [g4]) (by simp only [maxLen]; have := Nat.le_mul_of_pos_right n hsz; omega) (by omega)
          (fun b i => by rw [g3]; exact g5 b i) (fun i y hy => ⟨(L'.drop (i * e.sz)).take e.sz, Rep.length _ (g6 i y hy), (fun j u hu => by
            rw [List.getElem?_take] at hu
            split at hu
            · rw [List.getElem?_drop] at hu; simpa using hu
            · cases hu), g6 i y hy⟩)
        rw [g3] at hsn
        exact ⟨hsn, ext_alloc w _⟩
      · cases h2
    · cases hk
  · cases hk
end
end OT
