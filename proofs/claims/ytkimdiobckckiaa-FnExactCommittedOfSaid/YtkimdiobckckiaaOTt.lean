/- Operations, sixth part: equality of structs; binary operations. -/
import Derived.Test.YtkimdiobckckiaaOTs
import Derived.Laws.Cover3
set_option linter.unusedVariables false
set_option linter.unusedSimpArgs false
namespace OT
open Go

section
variable {P : Program} {w : World} {A : Cells}

theorem eq_ok : ∀ (t : Ty), (∀ (i : TypeId) (d : Nat) (v1 v2 : t.den) (cs1 cs2 : List Value), layB P t (.inl i) = true → eqB P t (.inl i) = true → dep t ≤ d → Ro P w A t v1 cs1 → Ro P w A t v2 cs2 → (Op.equalIn d i (mkV t cs1) (mkV t cs2)).run P w = .ok (t.eq v1 v2) w) ∧
    (∀ (fs : List Field) (off d : Nat) (v1 v2 : t.den) (xs ys : Array Value), layB P t (.inr (fs, off)) = true → eqB P t (.inr fs) = true → dep t ≤ d + 1 → Ro P w A t v1 (xs.toList.drop off) → Ro P w A t v2 (ys.toList.drop off) → (Op.eqFields d xs ys fs).run P w = .ok (t.eq v1 v2) w) := by
  intro t
  induction t with
  | int k =>
    refine ⟨fun i d v1 v2 cs1 cs2 hl he hd h1 h2 => ?_, fun fs off d v1 v2 xs ys hl => by simp [layB] at hl⟩
    simp only [Ro] at h1 h2
    subst h1; subst h2
    cases d with
    | zero => simp [dep] at hd
    | succ d =>
      rw [mkV_one _ _ rfl, mkV_one _ _ rfl, run_equalIn_int w d i k k _ _ (lay_int hl)]
      congr 1
      cases k with
      | u8 => exact Bool.eq_iff_iff.2 (by simp only [toI, Ty.eq, beq_iff_eq]; constructor; (intro h; exact UInt8.toNat_inj.1 (by omega)); (intro h; rw [h]))
      | _ => exact Bool.eq_iff_iff.2 (by simp [toI, Ty.eq])
  | bool =>
    refine ⟨fun i d v1 v2 cs1 cs2 hl he hd h1 h2 => ?_, fun fs off d v1 v2 xs ys hl => by simp [layB] at hl⟩
    simp only [Ro] at h1 h2
    subst h1; subst h2
    have hu : P.underlying i = some .bool := by
      simp only [layB, Bool.and_eq_true] at hl
      have h2 := hl.2
      split at h2
      · assumption
      · cases h2
    cases d with
    | zero => simp [dep] at hd
    | succ d => rw [mkV_one _ _ rfl, mkV_one _ _ rfl, run_equalIn_bool' w d i _ _ hu]; rfl
  | str =>
    refine ⟨fun i d v1 v2 cs1 cs2 hl he hd h1 h2 => ?_, fun fs off d v1 v2 xs ys hl => by simp [layB] at hl⟩
    simp only [Ro] at h1 h2
    subst h1; subst h2
    cases d with
    | zero => simp [dep] at hd
    | succ d =>
      rw [mkV_one _ _ rfl, mkV_one _ _ rfl, run_equalIn_string w d i _ _ (lay_str hl), ByteArray.toList_mk, ByteArray.toList_mk]
      congr 1
      exact Bool.eq_iff_iff.2 (by simp [Ty.eq])
  | unit =>
    refine ⟨fun i d v1 v2 cs1 cs2 hl he hd h1 h2 => ?_, fun fs off d v1 v2 xs ys hl he hd h1 h2 => ?_⟩
    · simp only [Ro] at h1 h2
      subst h1; subst h2
      simp only [layB, Bool.and_eq_true] at hl
      have h3 := hl.2
      split at h3
      · rename_i fs hu
        have hf : P.fieldsOf i = fs := by simp [Program.fieldsOf, hu]
        cases d with
        | zero => simp [dep] at hd
        | succ d =>
          have hnil : fs.toList = [] := List.isEmpty_iff.1 h3
          simp only [eqB, Bool.not_eq_true'] at he
          show (Op.equalIn (d + 1) i (.agg #[]) (.agg #[])).run P w = _
          rw [run_equalIn_struct w d i _ _ (by rw [hf]; exact hu) he, hf, hnil]
          rfl
      · cases h3
    · simp only [layB, List.isEmpty_iff] at hl
      subst hl
      rfl
  | pair a b iha ihb =>
    have second : ∀ (fs : List Field) (off d : Nat) (v1 v2 : (Ty.pair a b).den) (xs ys : Array Value), layB P (.pair a b) (.inr (fs, off)) = true → eqB P (.pair a b) (.inr fs) = true → dep (.pair a b) ≤ d + 1 → Ro P w A (.pair a b) v1 (xs.toList.drop off) → Ro P w A (.pair a b) v2 (ys.toList.drop off) → (Op.eqFields d xs ys fs).run P w = .ok ((Ty.pair a b).eq v1 v2) w := by
      intro fs off d v1 v2 xs ys hl he hd h1 h2
      cases fs with
      | nil => simp [layB] at hl
      | cons f r =>
        simp only [layB, Bool.and_eq_true, Nat.beq_eq, Nat.ble_eq] at hl
        simp only [eqB, Bool.and_eq_true, bne_iff_ne, ne_eq] at he
        simp only [dep] at hd
        obtain ⟨h1a, h1b⟩ := h1
        obtain ⟨h2a, h2b⟩ := h2
        have p1 := run_part (P := P) (w := w) hl.1.2 (cs := xs) (off := off) (Ro.length _ h1a)
        have p2 := run_part (P := P) (w := w) hl.1.2 (cs := ys) (off := off) (Ro.length _ h2a)
        have e1 := iha.1 f.type d v1.1 v2.1 _ _ hl.1.2 he.1.2 (by omega) h1a h2a
        rw [List.drop_drop] at h1b h2b
        have e2 := ihb.2 r (off + a.sz) d v1.2 v2.2 xs ys hl.2 he.2 (by omega) h1b h2b
        simp only [Op.eqFields, ne_eq, he.1.1, not_false_eq_true, if_true, Sem.run_bind, hl.1.1.1, p1, p2, e1, Result.andThen_ok]
        cases hq : a.eq v1.1 v2.1 with
        | true => simp [e2, Ty.eq, hq]
        | false => simp [Ty.eq, hq]
    refine ⟨fun i d v1 v2 cs1 cs2 hl he hd h1 h2 => ?_, second⟩
    simp only [layB, Bool.and_eq_true] at hl
    simp only [eqB, Bool.and_eq_true, Bool.not_eq_true'] at he
    have h3 := hl.2
    have h4 := he.2
    split at h3
    · rename_i fs hu
      rw [hu] at h4
      simp only at h4
      have hf : P.fieldsOf i = fs := by simp [Program.fieldsOf, hu]
      split at h3
      · rename_i f r hfs
        rw [hfs] at h4
        simp only at h4
        cases d with
        | zero => have : 1 ≤ dep (.pair a b) := by simp only [dep]; omega
                  omega
        | succ d =>
          show (Op.equalIn (d + 1) i (.agg cs1.toArray) (.agg cs2.toArray)).run P w = _
          rw [run_equalIn_struct w d i _ _ (by rw [hf]; exact hu) he.1, hf, hfs]
          refine second (f :: r) 0 d v1 v2 _ _ ?_ ?_ hd (by simpa using h1) (by simpa using h2)
          · simp only [layB, Nat.zero_add]; exact h3
          · simp only [eqB]; exact h4
      · cases h3
    · cases h3
  | _ => exact ⟨fun i d v1 v2 cs1 cs2 hl he => by simp [eqB] at he, fun fs off d v1 v2 xs ys hl he => by simp [eqB] at he⟩
end

section
variable {P : Program} {C : Ctx} {A : Cells} {X : FP} {σ : St} {a : Act} {w : World} {F : Nat → FP} {R : Type} {x : R} {Q : Exit → Act → World → Prop} {o : Oper} {E : Env}

/-- What the program's tables have to say of comparable structs. -/
def eqTab (P : Program) (E : Env) : Prop := ∀ i T, E.TI i = some T → T.eqOk = true → isAgg T = true → eqB P T (.inl i) = true ∧ P.eqGuardType P.depth i = false ∧ dep T ≤ 10000

theorem eq_guard {op : BinOp} {t : TypeId} {y z : Operand} {u v : Value} (h : ¬ (∃ p q, u = .agg p ∧ v = .agg q)) (h2 : u ≠ .nilIface) : (eqGuard op t y z u v).run P w = .ok () w := by
  cases op <;> first | rfl | skip
  all_goals
    unfold eqGuard
    cases u <;> cases v <;> first | rfl | (exact absurd rfl h2) | (exact absurd ⟨_, _, rfl, rfl⟩ h)

/-- Data that may be compared do not lead to memory. -/
theorem Ro.eqOk {w' : World} {A' : Cells} : ∀ (t : Ty) {v : t.den} {cs : List Value}, t.eqOk = true → Ro P w A t v cs → Ro P w' A' t v cs := by
  intro t
  induction t with
  | pair a b iha ihb =>
    intro v cs hq h
    simp only [Ty.eqOk, Bool.and_eq_true] at hq
    exact ⟨iha hq.1 h.1, ihb hq.2 h.2⟩
  | arr n e ih => intro v cs hq; simp [Ty.eqOk] at hq
  | slc e ih => intro v cs hq; simp [Ty.eqOk] at hq
  | ptr e ih => intro v cs hq; simp [Ty.eqOk] at hq
  | fn => intro v cs hq; simp [Ty.eqOk] at hq
  | map k v => intro v cs hq; simp [Ty.eqOk] at hq
  | _ => intro v cs hq h; exact h

theorem take_binOp (h : Rel0 P C A σ a w F) (hti : ∀ i T, E.TI i = some T → layB P T (.inl i) = true) (heq : eqTab P E) {op : BinOp} {t t2 : Nat} {y z : Operand} (ho : o.op = .binOp op t y z t2) (hok : opdOk P y = true ∧ opdOk P z = true) {K : St → Option R}
    (hk : binK E t op (opd σ y) (opd σ z) (fun t v => K (σ.putD o.dst (.val t v))) = some x) : Tk P o a w (Nx P C K x) := by
  rcases opd_ok h hok.1 with hy | ⟨xs, e⟩
  rotate_left
  · rw [e] at hk; simp [binK] at hk
  rcases opd_ok h hok.2 with hz | ⟨xs, e⟩
  rotate_left
  · rw [e] at hk; unfold binK at hk; split at hk <;> simp_all
  have fin : ∀ (ty : Ty) (v : ty.den) (tv : Value), K (σ.putD o.dst (.val ty v)) = some x → Ro P w A ty v [tv] → isAgg ty = false → (∀ w', Same o w w' → (eqGuard op t y z (a.eval y) (a.eval z)).run P w' = .ok () w') → (∀ w', Same o w w' → (binOp op t (a.eval y) (a.eval z)).run P w' = .ok tv w') → Tk P o a w (Nx P C K x) := fun ty v tv hk hr ha hg hb => by
    refine tk_val (v := tv) (fun w' hw' => ?_) (fin_flat h hk ⟨[tv], (mkV_one ty tv ha).symm, hr⟩ (fun _ _ _ _ e => by cases e))
    unfold execOp
    simp only [ho, Sem.run_bind, hg w' hw', hb w' hw', Result.andThen_ok, Sem.run_pure]
  unfold binK at hk
  split at hk
  · rename_i k n1 k' n2 hv1 hv2
    rw [hv1] at hy
    rw [hv2] at hz
    have e1 := val_int hy
    have e2 := val_int hz
    have hg : ∀ w', Same o w w' → (eqGuard op t y z (a.eval y) (a.eval z)).run P w' = .ok () w' := fun w' _ => by rw [e1, e2]; exact eq_guard (by rintro ⟨p, q, h, _⟩; cases h) (by intro h; cases h)
    have hkk : (k = k' ∨ op = .shl ∨ op = .shr) ∧ binI op k (toI k n1) (toI k' n2) (fun t v => K (σ.putD o.dst (.val t v))) = some x := by
      split at hk
      · exact ⟨.inr (.inl rfl), hk⟩
      · exact ⟨.inr (.inr rfl), hk⟩
      · split at hk
        · rename_i e; exact ⟨.inl e, hk⟩
        · cases hk
    obtain ⟨ty, v, tv, q1, q2, q3, q4⟩ := binI_ok (P := P) (A := A) (w := w) hkk.2 hkk.1 (fun e => by subst e; exact toI_u8 n1) (fun e => by subst e; exact toI_u8 n2) t
    exact fin ty v tv q1 q2 q3 hg (fun w' _ => by rw [e1, e2]; exact q4 w')
  · rename_i s1 s2 hv1 hv2
    rw [hv1] at hy
    rw [hv2] at hz
    have e1 := val_str hy
    have e2 := val_str hz
    have hg : ∀ w', Same o w w' → (eqGuard op t y z (a.eval y) (a.eval z)).run P w' = .ok () w' := fun w' _ => by rw [e1, e2]; exact eq_guard (by rintro ⟨p, q, h, _⟩; cases h) (by intro h; cases h)
    obtain ⟨ty, v, tv, q1, q2, q3, q4⟩ := binS_ok (P := P) (A := A) (w := w) hk t
    exact fin ty v tv q1 q2 q3 hg (fun w' _ => by rw [e1, e2]; exact q4 w')
  · rename_i ty v1 ty' v2 hni hns hv1 hv2
    rw [hv1] at hy
    rw [hv2] at hz
    -- equality by the tables
    have main : ∀ (e : ty = ty') (hq : ty.eqOk = true) (hT : E.TI t = some ty) (w' : World), Same o w w' → (eqGuard op t y z (a.eval y) (a.eval z)).run P w' = .ok () w' ∧ (∀ b, b = ty.eq v1 (e ▸ v2) → (op = .eql → (binOp op t (a.eval y) (a.eval z)).run P w' = .ok (.bool b) w') ∧ (op = .neq → (binOp op t (a.eval y) (a.eval z)).run P w' = .ok (.bool (!b)) w')) := fun e hq hT w' hw' => by
      subst e
      obtain ⟨cs1, e1, r1⟩ := hy
      obtain ⟨cs2, e2, r2⟩ := hz
      have r1 := Ro.eqOk (w' := w') (A' := A) _ hq r1
      have r2 := Ro.eqOk (w' := w') (A' := A) _ hq r2
      have hlay := hti _ _ hT
      cases hag : isAgg ty with
      | true =>
        obtain ⟨q1, q2, q3⟩ := heq _ _ hT hq hag
        have heq' := (eq_ok (P := P) (w := w') (A := A) ty).1 t 10000 v1 v2 cs1 cs2 hlay q1 q3 r1 r2
        have m1 : mkV ty cs1 = .agg cs1.toArray := by simp [mkV, hag]
        have m2 : mkV ty cs2 = .agg cs2.toArray := by simp [mkV, hag]
        rw [m1, m2] at heq'
        rw [e1, e2, m1, m2]
        refine ⟨run_eqGuard_agg w' op t y z _ _ q2, fun b hb => ⟨fun h => ?_, fun h => ?_⟩⟩
        · subst h; subst hb; rw [run_eql_struct, heq']; rfl
        · subst h; subst hb; rw [run_neq_struct, heq']; rfl
      | false =>
        cases ty with
        | int k => exact (hni k v1 k v2 rfl HEq.rfl rfl HEq.rfl).elim
        | str => exact (hns v1 v2 rfl HEq.rfl rfl HEq.rfl).elim
        | bool =>
          simp only [Ro] at r1 r2
          subst r1; subst r2
          rw [mkV_one _ _ rfl] at e1 e2
          have hu : P.underlying t = some .bool := by
            simp only [layB, Bool.and_eq_true] at hlay
            have h2 := hlay.2
            split at h2
            · assumption
            · cases h2
          rw [e1, e2]
          refine ⟨eq_guard (by rintro ⟨p, q, h, _⟩; cases h) (by intro h; cases h), fun b hb => ⟨fun h => ?_, fun h => ?_⟩⟩
          · subst h; subst hb
            have := run_equalIn_bool' (P := P) w' 9999 t v1 v2 hu
            simp only [Go.binOp, Op.equal, Op.maxDepth, Sem.run_bind, this, Result.andThen_ok, Sem.run_pure]; rfl
          · subst h; subst hb
            have := run_equalIn_bool' (P := P) w' 9999 t v1 v2 hu
            simp only [Go.binOp, Op.equal, Op.maxDepth, Sem.run_bind, this, Result.andThen_ok, Sem.run_pure]; rfl
        | _ => first | (simp [Ty.eqOk] at hq; done) | (simp [isAgg] at hag; done)
    split at hk
    · split at hk
      · rename_i hq
        obtain ⟨T, hT, hk⟩ := tiK_some hk
        split at hk
        · rename_i e; subst e
          obtain ⟨e, hk⟩ := castK_some hk
          have m := main e.symm hq hT
          subst e
          exact fin .bool _ _ hk rfl rfl (fun w' hw' => (m w' hw').1) (fun w' hw' => ((m w' hw').2 _ rfl).1 rfl)
        · cases hk
      · cases hk
    · split at hk
      · rename_i hq
        obtain ⟨T, hT, hk⟩ := tiK_some hk
        split at hk
        · rename_i e; subst e
          obtain ⟨e, hk⟩ := castK_some hk
          have m := main e.symm hq hT
          subst e
          exact fin .bool _ _ hk rfl rfl (fun w' hw' => (m w' hw').1) (fun w' hw' => ((m w' hw').2 _ rfl).2 rfl)
        · cases hk
      · cases hk
    · cases hk
  · rename_i e v hv1 hv2
    rw [hv1] at hy
    rw [hv2] at hz
    obtain ⟨T, hT, hk⟩ := tiK_some hk
    split at hk
    · rename_i eT
      subst eT
      obtain ⟨te, hu⟩ : ∃ te, P.underlying t = some (.slice te) := by
        have hlay := hti _ _ hT
        simp only [layB, Bool.and_eq_true] at hlay
        have h2 := hlay.2
        split at h2
        · rename_i el hel; exact ⟨el, hel⟩
        · cases h2
      obtain ⟨cs, h1, a0, cap, h2, h3, h4, h5⟩ := hy
      subst h2
      rw [mkV_one _ _ rfl] at h1
      have hz' : a.eval z = .slice none 0 0 := hz
      have hg : ∀ w', Same o w w' → (eqGuard op t y z (a.eval y) (a.eval z)).run P w' = .ok () w' := fun w' _ => by rw [h1, hz']; exact eq_guard (by rintro ⟨p, q, h, _⟩; cases h) (by intro h; cases h)
      have key : ∀ (b : Bool), nilB v (K (σ.putD o.dst (.val .bool b))) (K (σ.putD o.dst (.val .bool !b))) = some x → K (σ.putD o.dst (.val .bool (if a0.isNone then b else !b))) = some x := fun b hb => by
        cases v with
        | nil =>
          simp only [nilB, both] at hb
          split at hb
          · rename_i e
            split
            · exact hb
            · rw [← e]; exact hb
          · cases hb
        | cons y v =>
          have : a0.isNone = false := by
            cases a0 with
            | none => have := h4 rfl; simp at this
            | some _ => rfl
          rw [this]
          exact hb
      unfold nilK at hk
      split at hk
      · refine fin .bool _ (.bool a0.isNone) (key true hk) ?_ rfl hg fun w' _ => ?_
        · cases a0 <;> rfl
        · rw [h1, hz']
          have := run_equal_slice_nil (P := P) w' t te a0 (List.length v) cap hu
          simp only [Go.binOp, Sem.run_bind, this, Result.andThen_ok, Sem.run_pure]
      · refine fin .bool _ (.bool !a0.isNone) (key false hk) ?_ rfl hg fun w' _ => ?_
        · cases a0 <;> rfl
        · rw [h1, hz']
          exact run_neq_slice_nil (P := P) w' t te a0 (List.length v) cap hu
      · cases hk
    · cases hk
  · cases hk
end
end OT
