/- Regions. -/
import Derived.Test.YtkimdiobckckiaaOVa
set_option linter.unusedVariables false
set_option linter.unusedSimpArgs false
namespace OT
open Go

section
variable {P : Program} {C : Ctx} {A : Cells} {X : FP} {σ : St} {a : Act} {w : World} {F : Nat → FP} {R : Type} {x : R} {Q : Exit → Act → World → Prop} {o : Oper} {E : Env}

/-- States that say the same. -/
theorem Rel.congr (h : Rel P C A X σ a w F) {σ' : St} (hn : σ'.n = σ.n) (hg : ∀ i, σ'.get i = σ.get i) (hv : ∀ i, σ'.ver i = σ.ver i) (hl : ∀ e, e ∈ σ'.lent ↔ e ∈ σ.lent) (hgh : ∀ e, e ∈ σ'.gh → e ∈ σ.gh) : Rel P C A X σ' a w F := by
  have hpres : Pres σ a w σ' a w := fun r p snap hb => ⟨by rw [hv]; exact hb, fun hok => by
    unfold St.ok at hok ⊢
    rw [hv] at hok
    exact ⟨hok, fun _ pl hpl => ⟨pl.H, pl.cs, by unfold place at hpl ⊢; rw [hg]; exact hpl, fun _ => rfl⟩⟩⟩
  refine ⟨by rw [hn]; exact h.size, h.defers, fun i hi => ?_, fun d r p snap hm => RefRel.pres hpres (h.gh d r p snap (hgh _ hm)), fun b i => by rw [hn]; exact h.tot b i, fun b i hp => by rw [hn] at hp; exact h.dis b i hp, fun b i hp => by rw [hn] at hp; exact h.bnd b i hp,
    fun i => by rw [hv]; exact h.vlen i, h.ext, fun b i hp => by rw [hn] at hp; exact h.own b i hp, h.a0, h.a1, fun j k hm => h.lentP j k ((hl _).1 hm), fun r t m H v hr hk => ?_, fun j k hm R hR => ?_⟩
  · rw [hg]
    exact SlotRel.pres hpres (fun _ _ h => h) (fun _ _ _ _ h => h) (fun _ _ h => h) (fun _ _ _ => ⟨fun _ h => h, rfl⟩) (h.slots i (by rw [← hn]; exact hi))
  · rw [hg] at hr
    exact h.whole r t m H v hr fun k hm => hk k ((hl _).2 hm)
  · rw [hg] at hR
    exact h.lentS j k ((hl _).1 hm) R hR

/-- A slot that is known to hold this. -/
theorem Rel.same (h : Rel P C A X σ a w F) {t : Nat} {s : Slot} (hs : σ.get t = s) : Rel P C A X (σ.upd t s) a w F :=
  h.congr rfl (fun i => by
    rw [get_upd]
    split
    · rename_i hc; rw [← hs, hc.1]
    · rfl) (fun i => rfl) (fun e => Iff.rfl) (fun e he => he)

/-- A guard: is the operation wanted? -/
theorem guard_ok (h : Rel P C A X σ a w F) {ops : Array Oper} {o : Oper} {K : Bool → St → Option R} (hk : guardK ops.toList σ o.guard K = some x) : ∃ (b : Bool) (σ' : St), K b σ' = some x ∧ Rel P C A X σ' a w F ∧ Region.wanted o (yielded ops a.tmps) = b := by
  unfold guardK at hk
  split at hk
  · rename_i hg; exact ⟨true, σ, hk, h, by simp [Region.wanted, hg]⟩
  · rename_i j want hg
    split at hk
    · cases hk
    · rename_i t ht
      rw [Array.getElem?_toList] at ht
      have hy : ∀ v, tmp a t = v → t < σ.n → yielded ops a.tmps j = match v with | .bool b => some b | _ => none := fun v hv ht' => by
        have hlt : t < a.tmps.size := by rw [h.size]; exact ht'
        unfold yielded
        rw [ht]
        have : a.tmps[t]? = some v := by rw [Array.getElem?_eq_getElem hlt, ← hv]; simp [tmp, hlt]
        simp only [Option.bind_some, this]
        cases v <;> rfl
      have hlt : ∀ s, σ.get t = s → s ≠ .dead → t < σ.n := fun s hs hne => by
        rcases Nat.lt_or_ge t σ.n with hi | hi
        · exact hi
        · rw [get_out (Nat.not_lt.2 hi)] at hs; exact absurd hs.symm hne
      split at hk
      · rename_i b hgt
        have ht' := hlt _ hgt (by intro e; cases e)
        have hs := h.slots t ht'
        rw [hgt] at hs
        have hv := val_bool hs
        have hyy := hy _ hv ht'
        simp only at hyy
        cases b with
        | true => exact ⟨_, _, hk, Rel.same h hgt, by simp only [Region.wanted, hg, hyy]; cases want <;> rfl⟩
        | false => exact ⟨_, _, hk, Rel.same h hgt, by simp only [Region.wanted, hg, hyy]; cases want <;> rfl⟩
      · rename_i hgt
        have ht' := hlt _ hgt (by intro e; cases e)
        have hs := h.slots t ht'
        rw [hgt] at hs
        obtain ⟨vs, Fi, h1, _⟩ := hs
        have hyy := hy _ h1 ht'
        simp only at hyy
        exact ⟨false, σ, hk, h, by simp only [Region.wanted, hg, hyy]; cases want <;> rfl⟩
      · cases hk

/-- An operation that is not wanted. -/
theorem skip_ok (h : Rel P C A X σ a w F) (o : Oper) : ∃ F', Rel P C A X (σ.putD o.dst (.tup [])) (a.put o.dst undef) w F' :=
  h.putD o.dst (s := .tup []) (v := undef) (Fd := fun _ _ => 0) (X' := X) ⟨#[], fun _ _ _ => 0, rfl, fun b i => by simp [sumF], fun j y hy => by cases hy⟩ (fun b i => Nat.le_refl _) (fun _ _ _ _ e => by cases e)

theorem ops_ok (hE : EnvOk P E) {rid : Nat} {ops : Array Oper} (hst : ∀ o ∈ ops.toList, opOk P o.op = true) {K : St → Option R} (hQ : ∀ a w, Nx P C K x a w → Q .normal a w) :
    ∀ (rest : List Oper) (i : Nat) {σ : St} {A : Cells} {a : Act} {w : World} {F : Nat → FP}, ops.toList.drop i = rest → Rel0 P C A σ a w F → opsK E rid ops.toList rest i σ K = some x → wpOps P ops Q (List.range' i rest.length) a w := by
  intro rest
  induction rest with
  | nil => intro i σ A a w F hd h hk; exact hQ a w ⟨σ, hk, A, F, h⟩
  | cons o rest ih =>
    intro i σ A a w F hd h hk
    have hi : ops[i]? = some o := by
      have : (ops.toList.drop i)[0]? = some o := by rw [hd]; rfl
      rw [List.getElem?_drop] at this
      simpa using this
    have hd' : ops.toList.drop (i + 1) = rest := by rw [← List.drop_drop, hd]; rfl
    have hmem : o ∈ ops.toList := List.mem_of_getElem? (i := i) (by simpa using hi)
    simp only [opsK] at hk
    obtain ⟨b, σ1, hk, h1, hw⟩ := guard_ok h hk
    show wpOps P ops Q (i :: List.range' (i + 1) rest.length) a w
    simp only [wpOps, hi, hw]
    cases b with
    | true =>
      simp only [if_true]
      refine .inl (Oper.wp_mono (fun a' w' hn => ?_) (step_ok hE h1 (hst o hmem) hk))
      obtain ⟨σ2, hk2, A2, F2, h2⟩ := hn
      exact ih (i + 1) hd' h2 hk2
    | false =>
      simp only [Bool.false_eq_true, if_false]
      obtain ⟨F2, h2⟩ := skip_ok h1 o
      exact ih (i + 1) hd' h2 hk

theorem region_ok (hE : EnvOk P E) {rid id : Nat} {ops : Array Oper} (hst : ∀ o ∈ ops.toList, opOk P o.op = true) (h : Rel0 P C A σ a w F) {K : St → Option R} (hk : opsK E rid ops.toList ops.toList 0 σ K = some x) (hQ : ∀ a w, Nx P C K x a w → Q .normal a w) :
    (Code.region id ops false).wp P Q a w := by
  refine wp_region ?_
  have := ops_ok hE hst hQ ops.toList 0 (by simp) h hk
  simpa [List.range_eq_range'] using this

/-! Whatever order is picked: with a condition on the world that hangs on what was run. -/

def wpAnyL (P : Program) (md : Region.Mode) (ops : Array Oper) (Q : Exit → Act → World → Prop) (S : Array Bool → World → Prop) : Nat → Array Bool → Act → World → Prop
  | 0, listed, a, w => Region.ready md ops listed = [] ∧ Q .normal a w
  | fuel + 1, listed, a, w =>
    (Region.ready md ops listed = [] → Q .normal a w) ∧
    ∀ i ∈ Region.ready md ops listed, wpOp P ops Q i (fun a' w' => S (listed.setIfInBounds i true) w' ∧ wpAnyL P md ops Q S fuel (listed.setIfInBounds i true) a' w') a w

theorem wpAny_of_L {md : Region.Mode} {ops : Array Oper} {S : Array Bool → World → Prop} : ∀ (fuel : Nat) (listed : Array Bool) (a : Act) (w : World), wpAnyL P md ops Q S fuel listed a w → wpAny P md ops Q fuel listed a w
  | 0, _, _, _, h => h
  | fuel + 1, _, _, _, h => ⟨h.1, fun i hi => wpOp_mono (fun a' w' h' => wpAny_of_L fuel _ a' w' h'.2) (h.2 i hi)⟩

/-- What has to come first has come. -/
def Closed (md : Region.Mode) (ops : Array Oper) (l : Array Bool) : Prop := ∀ j o, ops[j]? = some o → l.getD j false = true → ∀ e ∈ o.after, Region.binds md e = true → l.getD e.on false = true

theorem closed_set {md : Region.Mode} {ops : Array Oper} {l : Array Bool} (h : Closed md ops l) {j : Nat} (hj : j ∈ Region.ready md ops l) : Closed md ops (l.setIfInBounds j true) := by
  obtain ⟨_, oj, hoj, hall⟩ := mem_ready.1 hj
  intro k o hk hl e he hb
  by_cases hkj : j = k
  · subst hkj
    rw [hoj] at hk
    injection hk with hk
    subst hk
    exact getD_set_true (hall e he hb)
  · rw [getD_set_ne false hkj] at hl
    exact getD_set_true (h k o hk hl e he hb)

/-- The worlds in which number 'i' may be run. -/
def SU (md : Region.Mode) (ops : Array Oper) (S : Array Bool → World → Prop) (i : Nat) : World → Prop := fun w' => ∃ l, Closed md ops l ∧ l.getD i true = false ∧ S l w'

theorem wpAnyL_first {md : Region.Mode} {ops : Array Oper} {S : Array Bool → World → Prop} {i : Nat} {oi : Oper} {v : Value} (hi : ops[i]? = some oi) (hsel : ∀ (j : Nat) (o : Oper) cs b, ops[j]? = some o → o.op ≠ .select cs b)
    (hQ : ∀ c a w, Q (.panic c) (a.put oi.dst v) w → Q (.panic c) a w) (hS : ∀ l w, S (l.setIfInBounds i true) w ↔ S l w) :
    ∀ (fuel : Nat) (listed : Array Bool) (a : Act) (w : World),
      (∀ j oj, ops[j]? = some oj → j ≠ i → listed.getD j true = false → (∀ e ∈ oj.after, Region.binds md e = true → e.on ≠ i) → oi.apart ops oj = true) →
      i ∈ Region.ready md ops listed → Closed md ops listed → YieldsIf P ops (SU md ops S i) oi v a → S listed w →
      wpAnyL P md ops Q S fuel (listed.setIfInBounds i true) (a.put oi.dst v) w → wpAnyL P md ops Q S (fuel + 1) listed a w := by
  intro fuel
  induction fuel with
  | zero =>
    intro listed a w _ hr hc hy hs H
    have hun : listed.getD i true = false := (mem_ready.1 hr).1
    refine ⟨fun h => (by rw [h] at hr; cases hr), fun j hj => ?_⟩
    by_cases hji : j = i
    · subst hji; exact hy.wpOp hi ⟨listed, hc, hun, hs⟩ ⟨(hS _ _).2 hs, H⟩
    · have := ready_mono hj hji
      rw [H.1] at this
      cases this
  | succ fuel ih =>
    intro listed a w hfree hr hc hy hs H
    have hun : listed.getD i true = false := (mem_ready.1 hr).1
    refine ⟨fun h => (by rw [h] at hr; cases hr), fun j hj => ?_⟩
    by_cases hji : j = i
    · subst hji; exact hy.wpOp hi ⟨listed, hc, hun, hs⟩ ⟨(hS _ _).2 hs, H⟩
    · have h1 := H.2 j (ready_mono hj hji)
      obtain ⟨hjun, oj, hoj, hall⟩ := mem_ready.1 hj
      have hnot : ∀ e ∈ oj.after, Region.binds md e = true → e.on ≠ i := fun e he hb heq => by
        have h1 := hall e he hb
        have h0 := (mem_ready.1 hr).1
        rw [heq] at h1
        rcases Nat.lt_or_ge i listed.size with h' | h'
        · simp [h'] at h0 h1; rw [h0] at h1; cases h1
        · simp [Array.getElem?_eq_none h'] at h1
      have h2 := wpOp_putIf hoj (hfree j oj hoj hji hjun hnot) (fun cs b => hsel i oi cs b hi) (fun cs b => hsel j oj cs b hoj) hQ hy h1
      have hfree' : ∀ k ok, ops[k]? = some ok → k ≠ i → (listed.setIfInBounds j true).getD k true = false →
          (∀ e ∈ ok.after, Region.binds md e = true → e.on ≠ i) → oi.apart ops ok = true := fun k ok hk hki hun hno => by
        refine hfree k ok hk hki ?_ hno
        by_cases hjk : j = k
        · subst hjk; exact hjun
        · rw [getD_set_ne true hjk] at hun; exact hun
      refine wpOp_mono (fun a' w' h3 => ?_) h2
      have h4 := h3.2.1
      have h5 := h3.2.2
      rw [Array.setIfInBounds_comm _ _ (Ne.symm hji)] at h4 h5
      have h6 := (hS _ _).1 h4
      exact ⟨h6, ih (listed.setIfInBounds j true) a' w' hfree' (ready_mono hr (Ne.symm hji)) (closed_set hc hj) h3.1 h6 h5⟩

/-- Has to come ahead. -/
def anc (ops : Array Oper) : Nat → Nat → Nat → Bool
  | 0, _, _ => false
  | n + 1, d, i => match ops[d]? with
    | some o => o.after.toList.any fun e => Region.binds .any e && (Nat.beq e.on i || anc ops n e.on i)
    | none => false

theorem anc_closed {ops : Array Oper} {l : Array Bool} (h : Closed .any ops l) : ∀ (n d i : Nat), anc ops n d i = true → l.getD d false = true → l.getD i false = true
  | 0, _, _, ha, _ => by cases ha
  | n + 1, d, i, ha, hd => by
    simp only [anc] at ha
    split at ha
    · rename_i o ho
      obtain ⟨e, he, hb⟩ := List.any_eq_true.1 ha
      simp only [Bool.and_eq_true, Bool.or_eq_true, Nat.beq_eq] at hb
      have hl := h d o ho hd e (by simpa using he) hb.1
      rcases hb.2 with hb | hb
      · rw [← hb]; exact hl
      · exact anc_closed h n e.on i hb hl
    · cases ha

/-- Turns what there is. -/
def dirty (E : Env) (ops : Array Oper) (d : Nat) : Bool := match ops[d]? with
  | some o => !tkOp E o.op && !quiet E o.op
  | none => false
/-- As if these were run as well. -/
def pdAdd (l : Array Bool) : List Nat → Array Bool
  | [] => l
  | j :: js => pdAdd (l.setIfInBounds j true) js
/-- The order that is told is one of those that stand for all. 'f': nothing but what may be taken first was run yet. -/
def drawGo (E : Env) (rid : Nat) (ops : Array Oper) (pd : List Nat) : List Nat → Array Bool → Bool → Bool
  | [], l, _ => (Region.ready .any ops l).isEmpty
  | i :: is, l, f => match ops[i]? with
    | none => false
    | some o =>
      match pd.any (Nat.beq i) with
      | true => !is.any (Nat.beq i) && (Region.ready .any ops l).contains i && (Region.ready .any ops (pdAdd l (pd.filter fun j => !Nat.beq i j))).all (fun j => pd.any (Nat.beq j)) && drawGo E rid ops pd is (l.setIfInBounds i true) f
      | false =>
      match tkOp E o.op && (Region.free .any ops l i && (Region.ready .any ops l).contains i && (!reads o.op || arIn E rid i || (f && (List.range ops.size).all fun d => !dirty E ops d || anc ops ops.size d i))) with
      | true => drawGo E rid ops pd is (l.setIfInBounds i true) f
      | false => (Region.ready .any ops l).contains i && (Region.ready .any ops (pdAdd l pd)).all (Nat.beq i) && drawGo E rid ops pd is (l.setIfInBounds i true) false
noncomputable def pdStat (E : Env) (ops : Array Oper) (pd : List Nat) : Bool := pd.all fun j => match ops[j]? with
  | some o => (match o.guard with
    | none => true
    | some _ => false) && (pdSlot E o.op).isSome && (match o.dst with
      | some d => (List.range ops.size).all fun k => Nat.beq k j || (match ops[k]? with
        | some o' => (match o'.dst with
          | some d' => !Nat.beq d' d
          | none => true)
        | none => true)
      | none => false)
  | none => false
noncomputable def drawOk (E : Env) (rid : Nat) (ops : Array Oper) (is : List Nat) : Bool :=
  Region.noSelect ops && Nat.ble is.length ops.size && (pdStat E ops (liveOf E.pd rid) && (liveOf E.pd rid).all fun j => is.any (Nat.beq j)) && drawGo E rid ops (liveOf E.pd rid) is (Array.replicate ops.size false) (match liveOf E.pd rid with
    | [] => true
    | _ :: _ => false)

theorem bx_ok {K : St → Option R} : ∀ (is : List Nat) {σ : St} {A : Cells} {F : Nat → FP}, Rel0 P C A σ a w F → bxK σ is K = some x → ∃ (A' : Cells) (σ' : St) (F' : Nat → FP), K σ' = some x ∧ Rel0 P C A' σ' a w F' := by
  intro is
  induction is with
  | nil => intro σ A F h hk; exact ⟨A, σ, F, hk, h⟩
  | cons i is ih =>
    intro σ A F h hk
    simp only [bxK] at hk
    split at hk
    · rename_i t m H v hg
      split at hk
      · rename_i hc
        simp only [Bool.and_eq_true, List.isEmpty_iff] at hc
        obtain ⟨hH, hfit⟩ := hc
        subst hH
        obtain ⟨A1, F1, _, h1⟩ := box_cp h hg
        exact ih h1 hk
      · cases hk
    · cases hk

/-- What stays from here on is told anew. -/
theorem Rel.rebase (h : Rel0 P C A σ a w F) : ∃ C' : Ctx, C'.w0 = w ∧ C'.A0 = A ∧ (∀ b i, A b i → C'.F0 b i = 0) ∧ Rel0 P C' A σ a w F ∧ (∀ {A2 : Cells} {σ2 : St} {a2 : Act} {w2 : World} {F2 : Nat → FP}, Rel0 P C' A2 σ2 a2 w2 F2 → Rel0 P C A2 σ2 a2 w2 F2) := by
  have hown : ∀ b i, 1 ≤ sumF σ.n F b i → 1 ≤ C.F0 b i ∨ C.w0.heap.size ≤ b := fun b i hp => h.own b i (by show 1 ≤ 0 + _; omega)
  refine ⟨⟨w, A, sumF σ.n F, C.args⟩, rfl, rfl, fun b i ha => ?_, ?_, fun {A2 σ2 a2 w2 F2} h2 => ?_⟩
  · rcases Nat.eq_zero_or_pos (sumF σ.n F b i) with h0 | h0
    · exact h0
    · exact absurd ha (h.dis b i (by show 1 ≤ 0 + _; omega))
  · exact { h with ext := Ext.refl _ _, own := fun b i hp => .inl (by have hp : 1 ≤ 0 + sumF σ.n F b i := hp; show 1 ≤ sumF σ.n F b i; omega), a0 := fun _ _ h => h, a1 := fun _ _ h => .inl h, lentP := h.lentP, lentS := h.lentS }
  · have hsz : C.w0.heap.size ≤ w.heap.size := h.ext.size
    refine { h2 with ext := h.ext.trans h2.ext (fun b i hb hz => ?_), own := fun b i hp => ?_, a0 := fun b i ha => h2.a0 b i (h.a0 b i ha), a1 := fun b i ha => ?_, lentP := h2.lentP, lentS := h2.lentS }
    · show sumF σ.n F b i = 0
      rcases Nat.eq_zero_or_pos (sumF σ.n F b i) with h0 | h0
      · exact h0
      · rcases hown b i h0 with h1 | h1 <;> omega
    · rcases h2.own b i hp with h1 | h1
      · exact hown b i h1
      · exact .inr (Nat.le_trans hsz h1)
    · rcases h2.a1 b i ha with h1 | h1 | h1
      · exact h.a1 b i h1
      · exact .inr (hown b i h1)
      · exact .inr (.inr (Nat.le_trans hsz h1))

/-- What is read of nobody's cells is the same wherever these stay. -/
theorem take_ar (h : Rel0 P C A σ a w F) (hE : EnvOk P E) {rid i : Nat} (hst : opOk P o.op = true) (htk : tkOp E o.op = true) (har : arOk σ o = true) {K : St → Option R} (hk : stepK E rid i o σ K = some x) :
    ∃ v, (∀ w', (∀ b i, A b i → ∀ u, ce w b i = some u → ce w' b i = some u) → (execOp a.eval o).run P w' = .ok (.value v) w') ∧ Nx P C K x (a.put o.dst v) w := by
  unfold arOk at har
  split at har
  · rename_i t y ho
    split at har
    · rename_i t' v hv
      unfold stepK at hk
      simp only [ho, hv, loadK] at hk
      obtain ⟨T, hT, hk⟩ := tiK_some hk
      have hlay := hE.ti _ _ hT
      split at hk
      · rename_i e; subst e
        rw [ho] at hst
        rcases opd_ok h hst with hs | ⟨xs, e⟩
        rotate_left
        · rw [e] at hv; cases hv
        rw [hv] at hs
        obtain ⟨⟨b, off, sp⟩, h1, h2, L, h3, h4, h5⟩ := hs
        simp only [List.cons.injEq, and_true] at h1
        simp only at h2; subst h2
        refine ⟨mkV t' L, fun w' hw' => ?_, fin_flat h hk ⟨L, rfl, h5⟩ (fun _ _ _ _ e => by cases e)⟩
        simp [execOp, ho, h1, Instr.loadAt, Instr.sureAddr, run_loadVar hlay (fun j u hu => hw' _ _ (h4 j u hu).2 u (h4 j u hu).1) h3 (Ro.one _ h5)]
      · cases hk
    · cases har
  · rename_i s t y ho
    unfold stepK at hk
    simp only [ho] at hk
    rw [ho] at hst
    refine take_convert_ar h hE.ti ho hst (fun T hT => ?_) har hk
    rw [ho] at htk
    simp only [tkOp, hT] at htk
    exact htk
  · cases har

/-- As long as nothing that there is was turned, all that there was stays; what is nobody's stays anyway. -/
def SD (E : Env) (ops : Array Oper) (w0 : World) (C : Ctx) : Array Bool → World → Prop := fun l w' => ((∀ d, dirty E ops d = true → l.getD d false = false) → Ext w0 w' (fun _ _ => 0)) ∧ ∀ b i, C.A0 b i → ∀ u, ce C.w0 b i = some u → ce w' b i = some u

theorem wp_same {next : Act → World → Prop} (h : Tk P o a w next) : o.wp P a w (fun a' w' => w = w' ∧ next a' w') Q := by
  obtain ⟨v, h1, h2⟩ := h
  exact wp_val (h1 w fun _ => Ext.refl _ _) ⟨rfl, h2⟩

theorem wpAnyL_mono {md : Region.Mode} {ops : Array Oper} {S S' : Array Bool → World → Prop} (hS : ∀ l w, S l w → S' l w) : ∀ (fuel : Nat) (listed : Array Bool) (a : Act) (w : World), wpAnyL P md ops Q S fuel listed a w → wpAnyL P md ops Q S' fuel listed a w
  | 0, _, _, _, h => h
  | fuel + 1, _, _, _, h => ⟨h.1, fun i hi => wpOp_mono (fun a' w' h' => ⟨hS _ _ h'.1, wpAnyL_mono hS fuel _ a' w' h'.2⟩) (h.2 i hi)⟩

theorem keepA (h : Rel0 P C A σ a w F) (hC : ∀ b i, C.A0 b i → C.F0 b i = 0) : ∀ b i, C.A0 b i → ∀ u, ce C.w0 b i = some u → ce w b i = some u := fun b i ha u hu => h.ext.cell b i (ce_lt hu) (hC b i ha) u hu

theorem put_self (a : Act) (d : Nat) : a.put (some d) (tmp a d) = a := by
  have : a.tmps.setIfInBounds d (tmp a d) = a.tmps := by
    unfold tmp
    apply Array.ext
    · simp
    · intro i h1 h2
      rw [Array.getElem_setIfInBounds]
      split
      · rename_i e; subst e; simp [h2]
      · rfl
  show { a with tmps := a.tmps.setIfInBounds d (tmp a d) } = a
  rw [this]

theorem pd_ok {ops : Array Oper} {K : St → Option R} : ∀ (js : List Nat) {σ : St} {F : Nat → FP}, Rel0 P C A σ a w F → pdK ops.toList σ js K = some x → ∃ (σ' : St) (F' : Nat → FP), K σ' = some x ∧ Rel0 P C A σ' a w F' := by
  intro js
  induction js with
  | nil => intro σ F h hk; exact ⟨σ, F, hk, h⟩
  | cons j js ih =>
    intro σ F h hk
    simp only [pdK] at hk
    split at hk
    · rename_i d hd
      obtain ⟨F1, h1⟩ := h.putD (some d) (s := .dead) (v := tmp a d) (Fd := fun _ _ => 0) (X' := fun _ _ => 0) trivial (fun b i => Nat.le_refl _) (fun _ _ _ _ e => by cases e)
      rw [put_self] at h1
      exact ih h1 hk
    · cases hk

theorem getD_pdAdd : ∀ (js : List Nat) (l : Array Bool) (k : Nat) (b : Bool), (pdAdd l js).getD k b = if k ∈ js ∧ k < l.size then true else l.getD k b
  | [], l, k, b => by simp [pdAdd]
  | j :: js, l, k, b => by
    rw [pdAdd, getD_pdAdd js]
    simp only [Array.size_setIfInBounds]
    by_cases h1 : k ∈ js ∧ k < l.size
    · rw [if_pos h1, if_pos ⟨by simp [h1.1], h1.2⟩]
    · rw [if_neg h1]
      by_cases hkj : j = k
      · subst hkj
        by_cases hlt : j < l.size
        · rw [if_pos ⟨by simp, hlt⟩]; simp [hlt]
        · rw [if_neg (fun h => hlt h.2)]; simp [hlt]
      · rw [getD_set_ne b hkj, if_neg]
        rintro ⟨h2, h3⟩
        rcases List.mem_cons.1 h2 with e | e
        · exact hkj e.symm
        · exact h1 ⟨e, h3⟩

theorem mem_any {l : List Nat} {i : Nat} : l.any (Nat.beq i) = true ↔ i ∈ l := by
  rw [List.any_eq_true]
  constructor
  · rintro ⟨y, h1, h2⟩; rw [Nat.eq_of_beq_eq_true h2]; exact h1
  · intro h; exact ⟨i, h, Nat.beq_refl i⟩

theorem pdStat_spec {ops : Array Oper} {pd : List Nat} (h : pdStat E ops pd = true) {j : Nat} (hj : j ∈ pd) : ∃ o d s, ops[j]? = some o ∧ o.guard = none ∧ o.dst = some d ∧ pdSlot E o.op = some s ∧ ∀ k o', ops[k]? = some o' → k ≠ j → o'.dst ≠ some d := by
  unfold pdStat at h
  have h := List.all_eq_true.1 h j hj
  split at h
  · rename_i o ho
    simp only [Bool.and_eq_true] at h
    obtain ⟨⟨h1, h2⟩, h3⟩ := h
    split at h3
    · rename_i d hd
      obtain ⟨s, hs⟩ := Option.isSome_iff_exists.1 h2
      refine ⟨o, d, s, ho, ?_, hd, hs, fun k o' hk hkj e => ?_⟩
      · split at h1
        · assumption
        · cases h1
      · have := List.all_eq_true.1 h3 k (List.mem_range.2 (Array.getElem?_eq_some_iff.1 hk).1)
        rw [hk] at this
        simp only [e, Bool.or_eq_true] at this
        rcases this with h4 | h4
        · exact hkj (Nat.eq_of_beq_eq_true h4)
        · simp at h4
    · cases h3
  · cases h

/-- What holds while a region is run whose order is open. 'D': what was made ahead. -/
structure Inv (P : Program) (E : Env) (ops : Array Oper) (pd : List Nat) (w0 : World) (C : Ctx) (is : List Nat) (l : Array Bool) (f : Bool) (σ : St) (fuel : Nat) (A : Cells) (a : Act) (w : World) (X : FP) (F : Nat → FP) (D : List Nat) (L : Array Bool) : Prop where
  h : Rel P C A X σ a w F
  pf : PF P E ops A a w D X
  nd : D.Nodup
  dpd : ∀ j ∈ D, j ∈ pd
  dl : ∀ j ∈ D, l.getD j false = false
  dis : ∀ j ∈ D, j ∈ is
  cov : ∀ j ∈ pd, l.getD j false = true ∨ j ∈ is
  cnt : (is.filter fun k => decide (k ∉ D)).length ≤ fuel
  cl : Closed .any ops L
  hS : (∀ d, dirty E ops d = true → L.getD d false = false) → Ext w0 w (fun _ _ => 0)
  hf : f = true → w = w0 ∧ pd = []
  szl : l.size = ops.size
  szL : L.size = ops.size
  hL : ∀ k, L.getD k false = true ↔ (l.getD k false = true ∨ k ∈ D)

theorem getD_tf {l : Array Bool} {k : Nat} (h : k < l.size) : l.getD k true = l.getD k false := by simp [h]
theorem getD_set_iff {l : Array Bool} {i k : Nat} (hi : i < l.size) : (l.setIfInBounds i true).getD k false = true ↔ (k = i ∨ l.getD k false = true) := by
  by_cases hk : i = k
  · subst hk; simp [hi]
  · rw [getD_set_ne false hk]
    constructor
    · exact .inr
    · rintro (h | h)
      · exact absurd h.symm hk
      · exact h

theorem filter_less {D : List Nat} {j : Nat} (hD : j ∉ D) : ∀ (is : List Nat), j ∈ is → (is.filter fun k => decide (k ∉ j :: D)).length + 1 ≤ (is.filter fun k => decide (k ∉ D)).length := by
  have hle : ∀ (is : List Nat), (is.filter fun k => decide (k ∉ j :: D)).length ≤ (is.filter fun k => decide (k ∉ D)).length := by
    intro is
    induction is with
    | nil => exact Nat.le_refl _
    | cons i is ih =>
      simp only [List.filter_cons]
      by_cases h1 : i ∈ D
      · have h2 : i ∈ j :: D := by simp [h1]
        simp only [h1, h2, not_true_eq_false, decide_false, Bool.false_eq_true, if_false]
        exact ih
      · by_cases h2 : i ∈ j :: D
        · simp only [h1, h2, not_true_eq_false, not_false_eq_true, decide_false, decide_true, Bool.false_eq_true, if_false, if_true, List.length_cons]
          omega
        · simp only [h1, h2, not_false_eq_true, decide_true, if_true, List.length_cons]
          omega
  intro is
  induction is with
  | nil => intro h; cases h
  | cons i is ih =>
    intro h
    simp only [List.filter_cons]
    by_cases hij : i = j
    · subst hij
      have h2 : i ∈ i :: D := by simp
      simp only [hD, h2, not_true_eq_false, not_false_eq_true, decide_false, decide_true, Bool.false_eq_true, if_false, if_true, List.length_cons]
      have := hle is
      omega
    · have h3 : j ∈ is := by
        rcases List.mem_cons.1 h with e | e
        · exact absurd e.symm hij
        · exact e
      have := ih h3
      by_cases h1 : i ∈ D
      · have h2 : i ∈ j :: D := by simp [h1]
        simp only [h1, h2, not_true_eq_false, decide_false, Bool.false_eq_true, if_false]
        exact this
      · have h2 : i ∉ j :: D := by simp [h1, hij]
        simp only [h1, h2, not_false_eq_true, decide_true, if_true, List.length_cons]
        omega

section
variable {ops : Array Oper} {pd : List Nat} {w0 : World} {is : List Nat} {l L : Array Bool} {f : Bool} {fuel : Nat} {D : List Nat} {i : Nat}

theorem Inv.ready_in (v : Inv P E ops pd w0 C is l f σ fuel A a w X F D L) (hi : i ∈ Region.ready .any ops l) (hD : i ∉ D) : i ∈ Region.ready .any ops L := by
  obtain ⟨h0, o, ho, hall⟩ := mem_ready.1 hi
  have hlt : i < ops.size := (Array.getElem?_eq_some_iff.1 ho).1
  refine mem_ready.2 ⟨?_, o, ho, fun e he hb => (v.hL _).2 (.inl (hall e he hb))⟩
  rw [getD_tf (by rw [v.szL]; exact hlt)]
  rw [getD_tf (by rw [v.szl]; exact hlt)] at h0
  cases hh : L.getD i false with
  | false => rfl
  | true =>
    rcases (v.hL i).1 hh with h1 | h1
    · rw [h0] at h1; cases h1
    · exact absurd h1 hD

theorem Inv.ready_out (v : Inv P E ops pd w0 C is l f σ fuel A a w X F D L) {j : Nat} {S : List Nat} (hS : ∀ k ∈ D, k ∈ S) (hj : j ∈ Region.ready .any ops L) (hjS : j ∉ S) : j ∈ Region.ready .any ops (pdAdd l S) := by
  obtain ⟨h0, o, ho, hall⟩ := mem_ready.1 hj
  have hlt : j < ops.size := (Array.getElem?_eq_some_iff.1 ho).1
  refine mem_ready.2 ⟨?_, o, ho, fun e he hb => ?_⟩
  · rw [getD_pdAdd, if_neg (fun h => hjS h.1), getD_tf (by rw [v.szl]; exact hlt)]
    rw [getD_tf (by rw [v.szL]; exact hlt)] at h0
    cases hh : l.getD j false with
    | false => rfl
    | true => rw [(v.hL j).2 (.inl hh)] at h0; cases h0
  · rw [getD_pdAdd]
    have h1 := hall e he hb
    rcases (v.hL _).1 h1 with h2 | h2
    · split
      · rfl
      · exact h2
    · have hlt : e.on < L.size := by
        rcases Nat.lt_or_ge e.on L.size with h' | h'
        · exact h'
        · simp [Array.getElem?_eq_none h'] at h1
      rw [if_pos ⟨hS _ h2, by rw [v.szl, ← v.szL]; exact hlt⟩]

theorem Inv.not_listed (v : Inv P E ops pd w0 C is l f σ fuel A a w X F D L) {j : Nat} (h : L.getD j true = false) : j ∉ D ∧ l.getD j false = false ∧ l.getD j true = false := by
  have hlt : j < L.size := by
    rcases Nat.lt_or_ge j L.size with h' | h'
    · exact h'
    · simp [Array.getElem?_eq_none h'] at h
  rw [getD_tf hlt] at h
  have h1 : l.getD j false = false := by
    cases hh : l.getD j false with
    | false => rfl
    | true => rw [(v.hL j).2 (.inl hh)] at h; cases h
  have h2 : j ∉ D := fun hD => by
    rw [(v.hL j).2 (.inr hD)] at h
    cases h
  exact ⟨h2, h1, by rw [getD_tf (by rw [v.szl, ← v.szL]; exact hlt)]; exact h1⟩

theorem Inv.next (v : Inv P E ops pd w0 C (i :: is) l f σ (fuel + 1) A a w X F D L) (hD : i ∉ D) (hr : i ∈ Region.ready .any ops L) {C2 : Ctx} {f2 : Bool} {σ2 : St} {A2 : Cells} {a2 : Act} {w2 : World} {F2 : Nat → FP}
    (h2 : Rel P C2 A2 X σ2 a2 w2 F2) (hp : PF P E ops A2 a2 w2 D X) (hS2 : (∀ d, dirty E ops d = true → (L.setIfInBounds i true).getD d false = false) → Ext w0 w2 (fun _ _ => 0)) (hf2 : f2 = true → w2 = w0 ∧ pd = []) :
    Inv P E ops pd w0 C2 is (l.setIfInBounds i true) f2 σ2 fuel A2 a2 w2 X F2 D (L.setIfInBounds i true) := by
  obtain ⟨_, o, ho, _⟩ := mem_ready.1 hr
  have hlt : i < ops.size := (Array.getElem?_eq_some_iff.1 ho).1
  have hltl : i < l.size := by rw [v.szl]; exact hlt
  have hltL : i < L.size := by rw [v.szL]; exact hlt
  refine ⟨h2, hp, v.nd, v.dpd, fun j hj => ?_, fun j hj => ?_, fun j hj => ?_, ?_, closed_set v.cl hr, hS2, hf2, by simpa using v.szl, by simpa using v.szL, fun k => ?_⟩
  · rw [getD_set_ne false (fun e => by subst e; exact hD hj)]; exact v.dl j hj
  · rcases List.mem_cons.1 (v.dis j hj) with e | e
    · subst e; exact absurd hj hD
    · exact e
  · rcases v.cov j hj with h | h
    · exact .inl ((getD_set_iff hltl).2 (.inr h))
    · rcases List.mem_cons.1 h with e | e
      · exact .inl ((getD_set_iff hltl).2 (.inl e))
      · exact .inr e
  · have := v.cnt
    simp only [List.filter_cons, hD, not_false_eq_true, decide_true, if_true, List.length_cons] at this
    omega
  · rw [getD_set_iff hltL, getD_set_iff hltl, v.hL]
    exact or_assoc.symm

theorem Inv.virt (v : Inv P E ops pd w0 C (i :: is) l f σ fuel A a w X F D L) (hD : i ∈ D) (his : i ∉ is) {σ2 : St} {X2 : FP} {F2 : Nat → FP} (h2 : Rel P C A X2 σ2 a w F2) (hp : PF P E ops A a w (D.erase i) X2) :
    Inv P E ops pd w0 C is (l.setIfInBounds i true) f σ2 fuel A a w X2 F2 (D.erase i) L := by
  have hltL : i < L.size := by
    have h1 := (v.hL i).2 (.inr hD)
    rcases Nat.lt_or_ge i L.size with h' | h'
    · exact h'
    · simp [Array.getElem?_eq_none h'] at h1
  have hltl : i < l.size := by rw [v.szl, ← v.szL]; exact hltL
  have hme : ∀ k, k ∈ D.erase i ↔ k ≠ i ∧ k ∈ D := fun k => v.nd.mem_erase_iff
  refine ⟨h2, hp, v.nd.erase _, fun j hj => v.dpd j ((hme j).1 hj).2, fun j hj => ?_, fun j hj => ?_, fun j hj => ?_, ?_, v.cl, v.hS, v.hf, by simpa using v.szl, v.szL, fun k => ?_⟩
  · obtain ⟨h3, h4⟩ := (hme j).1 hj
    rw [getD_set_ne false (fun e => h3 e.symm)]; exact v.dl j h4
  · obtain ⟨h3, h4⟩ := (hme j).1 hj
    rcases List.mem_cons.1 (v.dis j h4) with e | e
    · exact absurd e h3
    · exact e
  · rcases v.cov j hj with h | h
    · exact .inl ((getD_set_iff hltl).2 (.inr h))
    · rcases List.mem_cons.1 h with e | e
      · exact .inl ((getD_set_iff hltl).2 (.inl e))
      · exact .inr e
  · have := v.cnt
    simp only [List.filter_cons, hD, not_true_eq_false, decide_false, Bool.false_eq_true, if_false] at this
    refine Nat.le_trans (Nat.le_of_eq (congrArg List.length (List.filter_congr fun k hk => ?_))) this
    have : k ≠ i := fun e => by subst e; exact his hk
    simp only [hme, this, ne_eq, not_false_eq_true, true_and]
  · rw [v.hL, getD_set_iff hltl, hme]
    constructor
    · rintro (h | h)
      · exact .inl (.inr h)
      · by_cases hk : k = i
        · exact .inl (.inl hk)
        · exact .inr ⟨hk, h⟩
    · rintro ((h | h) | h)
      · subst h; exact .inr hD
      · exact .inl h
      · exact .inr h.2

/-- One that may come at any time comes. -/
theorem Inv.early (hE : EnvOk P E) (hps : pdStat E ops pd = true) {rid : Nat} (hpd : liveOf E.pd rid = pd) (hall : pdAll E rid ops.toList is σ = true) (hC : ∀ b i, C.A0 b i → C.F0 b i = 0)
    (v : Inv P E ops pd w0 C is l f σ (fuel + 1) A a w X F D L) {j : Nat} (hj : j ∈ pd) (hr : j ∈ Region.ready .any ops L) {S : Array Bool → World → Prop}
    (hS : ∀ w', Ext w w' (fun _ _ => 0) → ((∀ d, dirty E ops d = true → (L.setIfInBounds j true).getD d false = false) → Ext w0 w' (fun _ _ => 0)) → S (L.setIfInBounds j true) w')
    (next : ∀ (a' : Act) (w' : World) (X' : FP), Inv P E ops pd w0 C is l f σ fuel A a' w' X' F (j :: D) (L.setIfInBounds j true) → wpAnyL P .any ops Q S fuel (L.setIfInBounds j true) a' w') :
    wpOp P ops Q j (fun a' w' => S (L.setIfInBounds j true) w' ∧ wpAnyL P .any ops Q S fuel (L.setIfInBounds j true) a' w') a w := by
  obtain ⟨o, d, s, ho, hg, hd, hs, hne⟩ := pdStat_spec hps hj
  have hltL : j < L.size := by rw [v.szL]; exact (Array.getElem?_eq_some_iff.1 ho).1
  obtain ⟨hjD, hjl, _⟩ := v.not_listed (mem_ready.1 hr).1
  have hjis : j ∈ is := (v.cov j hj).resolve_left (by rw [hjl]; simp)
  have hok : pdOk σ d = true := by
    unfold pdAll at hall
    rw [hpd] at hall
    have := List.all_eq_true.1 hall j hj
    rw [Array.getElem?_toList, ho, mem_any.2 hjis] at this
    simpa [hd] using this
  obtain ⟨val, w', Fj, hrun, hext, h2, hPS⟩ := early_ok (o := o) v.h hE.ti hs hok
  have hS' : (∀ d, dirty E ops d = true → (L.setIfInBounds j true).getD d false = false) → Ext w0 w' (fun _ _ => 0) := fun hdd => (v.hS fun d' hd' => by
    cases hh : L.getD d' false with
    | false => rfl
    | true => rw [← hdd d' hd', (getD_set_iff hltL).2 (.inr hh)]).trans hext (fun _ _ _ _ => rfl)
  have hw : Region.wanted o (yielded ops a.tmps) = true := by simp [Region.wanted, hg]
  unfold wpOp
  simp only [ho, hw, if_true]
  refine .inl (wp_val hrun ⟨hS w' hext hS', ?_⟩)
  rw [hd]
  have hdn : d < σ.n := (pdOk_spec hok).1
  refine next _ _ (fun b i => X b i + Fj b i) ⟨h2, ⟨o, d, s, Fj, X, ho, hd, hs, ?_, fun b i => Nat.le_refl _, ?_⟩, List.nodup_cons.2 ⟨hjD, v.nd⟩, ?_, ?_, ?_, v.cov, ?_, closed_set v.cl hr, hS', fun hf => ?_, v.szl, by simpa using v.szL, fun k => ?_⟩
  · have : tmp (a.put (some d) val) d = val := by rw [tmp_put, v.h.size, if_pos ⟨rfl, hdn⟩]
    rw [this]; exact hPS
  · refine PF.pres (fun _ _ h => h) (fun b i ha u hu => hext.cell b i (ce_lt hu) rfl u hu) hext.blk D (fun k hk o' d' ho' hd' => ?_) (fun b i hp => ⟨fun u hu => hext.cell b i (ce_lt hu) rfl u hu, hext.froz b i (v.h.bnd b i (.inl (by omega)))⟩) v.pf
    have : d' ≠ d := fun e => hne k o' ho' (fun e' => by subst e'; exact hjD hk) (by rw [hd', e])
    rw [tmp_put, if_neg (fun h => this h.1.symm)]
  · intro k hk
    rcases List.mem_cons.1 hk with e | e
    · subst e; exact hj
    · exact v.dpd k e
  · intro k hk
    rcases List.mem_cons.1 hk with e | e
    · subst e; exact hjl
    · exact v.dl k e
  · intro k hk
    rcases List.mem_cons.1 hk with e | e
    · subst e; exact hjis
    · exact v.dis k e
  · have := filter_less hjD is hjis
    have := v.cnt
    omega
  · have := (v.hf hf).2
    rw [this] at hj; cases hj
  · rw [getD_set_iff hltL, v.hL, List.mem_cons]
    constructor
    · rintro (h | h | h)
      · exact .inr (.inl h)
      · exact .inl h
      · exact .inr (.inr h)
    · rintro (h | h | h)
      · exact .inr (.inl h)
      · exact .inl h
      · exact .inr (.inr h)

theorem drawGo_ok (hE : EnvOk P E) {rid : Nat} (hst : ∀ o ∈ ops.toList, opOk P o.op = true) {K : St → Option R} (hP : ∀ c a w, ¬ Q (.panic c) a w) (hsel : Region.noSelect ops = true) (hps : pdStat E ops pd = true) (hpd : liveOf E.pd rid = pd) :
    ∀ (is : List Nat) (l : Array Bool) (f : Bool) {C : Ctx} {σ : St}, (∀ a w, Nx P C K x a w → Q .normal a w) → (∀ b i, C.A0 b i → C.F0 b i = 0) → drawGo E rid ops pd is l f = true → ordK E rid ops.toList is σ K = some x →
      ∀ (fuel : Nat) {A : Cells} {a : Act} {w : World} {X : FP} {F : Nat → FP} {D : List Nat} {L : Array Bool}, Inv P E ops pd w0 C is l f σ fuel A a w X F D L → wpAnyL P .any ops Q (SD E ops w0 C) fuel L a w := by
  intro is
  induction is with
  | nil =>
    intro l f C σ hQ hC hg hk fuel A a w X F D L v
    simp only [drawGo, List.isEmpty_iff] at hg
    have hD : D = [] := by
      cases D with
      | nil => rfl
      | cons j D => have := v.dis j (by simp); cases this
    subst hD
    have hr : Region.ready .any ops L = [] := by
      rw [List.eq_nil_iff_forall_not_mem]
      intro j hj
      have := v.ready_out (S := []) (fun _ h => h) hj (by simp)
      rw [pdAdd, hg] at this
      cases this
    have hq := hQ a w ⟨σ, hk, A, F, v.h.less fun _ _ => Nat.zero_le _⟩
    cases fuel with
    | zero => exact ⟨hr, hq⟩
    | succ fuel => exact ⟨fun _ => hq, by rw [hr]; simp⟩
  | cons i is ih =>
    intro l f C σ hQ hC hg hk
    simp only [ordK] at hk
    split at hk
    · cases hk
    rename_i hall
    simp only [drawGo] at hg
    cases hi : ops[i]? with
    | none => rw [hi] at hg; cases hg
    | some o =>
    rw [Array.getElem?_toList, hi] at hk
    rw [hi] at hg
    simp only at hk hg
    have hilt : i < ops.size := (Array.getElem?_eq_some_iff.1 hi).1
    have hmem : o ∈ ops.toList := List.mem_of_getElem? (i := i) (by simpa using hi)
    have virt : ∀ (fuel : Nat) {A : Cells} {a : Act} {w : World} {X : FP} {F : Nat → FP} {D : List Nat} {L : Array Bool}, Inv P E ops pd w0 C (i :: is) l f σ fuel A a w X F D L → i ∈ D → wpAnyL P .any ops Q (SD E ops w0 C) fuel L a w := by
      intro fuel A a w X F D L v hD
      have hip := v.dpd i hD
      rw [mem_any.2 hip] at hg
      simp only [Bool.and_eq_true, Bool.not_eq_true'] at hg
      obtain ⟨⟨⟨his, _⟩, _⟩, hg⟩ := hg
      have his : i ∉ is := fun hm => by rw [mem_any.2 hm] at his; cases his
      obtain ⟨o', d', s', ho', hgd, hd', hs', _⟩ := pdStat_spec hps hip
      rw [hi] at ho'
      injection ho' with ho'
      subst ho'
      obtain ⟨o2, d, s, Fi, X', g1, g2, g3, g4, g5, g6⟩ := PF.take D hD v.pf
      rw [hi] at g1
      injection g1 with g1
      subst g1
      simp only [guardK, hgd] at hk
      split at hk
      · cases hk
      rw [stepK_pd g3, g2] at hk
      obtain ⟨F2, h2⟩ := v.h.putD (some d) g4.slot g5 g4.whole
      rw [put_self] at h2
      exact ih _ f hQ hC hg hk fuel (v.virt hD his h2 g6)
    intro fuel
    induction fuel with
    | zero =>
      intro A a w X F D L v
      by_cases hD : i ∈ D
      · exact virt 0 v hD
      · have := v.cnt
        simp [List.filter_cons, hD] at this
    | succ fuel ihf =>
    intro A a w X F D L v
    by_cases hD : i ∈ D
    · exact virt _ v hD
    have hSDx : ∀ w', Ext w w' (fun _ _ => 0) → ∀ (l' : Array Bool), ((∀ d, dirty E ops d = true → l'.getD d false = false) → Ext w0 w' (fun _ _ => 0)) → SD E ops w0 C l' w' := fun w' hw' l' hh => ⟨hh, fun b i ha u hu => by
      have := v.h.ext.cell b i (ce_lt hu) (hC b i ha) u hu
      exact hw'.cell b i (ce_lt this) rfl u this⟩
    have hearly : ∀ j, j ∈ pd → j ∈ Region.ready .any ops L → wpOp P ops Q j (fun a' w' => SD E ops w0 C (L.setIfInBounds j true) w' ∧ wpAnyL P .any ops Q (SD E ops w0 C) fuel (L.setIfInBounds j true) a' w') a w := fun j hj hr =>
      v.early hE hps hpd hall hC hj hr (fun w' hw' hh => hSDx w' hw' _ hh) (fun a' w' X' v' => ihf v')
    have hSD0 : SD E ops w0 C L w := ⟨v.hS, fun b i ha u hu => v.h.ext.cell b i (ce_lt hu) (hC b i ha) u hu⟩
    cases hpi : pd.any (Nat.beq i) with
    | true =>
      rw [hpi] at hg
      simp only [Bool.and_eq_true, Bool.not_eq_true', List.all_eq_true] at hg
      obtain ⟨⟨⟨his, hrd⟩, hchk⟩, hg⟩ := hg
      have hrdy : i ∈ Region.ready .any ops L := v.ready_in (by simpa using hrd) hD
      refine ⟨fun h0 => (by rw [h0] at hrdy; cases hrdy), fun j hj => hearly j ?_ hj⟩
      by_cases hjS : j ∈ pd.filter (fun j => !Nat.beq i j)
      · exact (List.mem_filter.1 hjS).1
      · refine mem_any.1 (hchk j (v.ready_out (fun k hk => List.mem_filter.2 ⟨v.dpd k hk, ?_⟩) hj hjS))
        cases hb : Nat.beq i k with
        | false => rfl
        | true => rw [Nat.eq_of_beq_eq_true hb] at hD; exact absurd hk hD
    | false =>
    rw [hpi] at hg
    simp only at hg
    have hipd : i ∉ pd := fun hm => by rw [mem_any.2 hm] at hpi; cases hpi
    have hdst : ∀ j ∈ D, ∀ o' d, ops[j]? = some o' → o'.dst = some d → o.dst ≠ some d := fun j hj o' d ho' hd' => by
      obtain ⟨o2, d2, s2, g1, _, g2, _, g3⟩ := pdStat_spec hps (v.dpd j hj)
      rw [ho'] at g1; injection g1 with g1; subst g1
      rw [hd'] at g2; injection g2 with g2; subst g2
      exact g3 i o hi (fun e => by subst e; exact hD hj)
    obtain ⟨b, σ1, hk, h1, hw⟩ := guard_ok v.h hk
    have hk' : (match (generalizing := false) b with
        | true => stepK E rid i o σ1 fun σ => ordK E rid ops.toList is σ K
        | false => ordK E rid ops.toList is (σ1.putD o.dst (.tup [])) K) = some x ∧ (b = true → arIn E rid i = true → arOk σ1 o = true) := by
      cases b with
      | true =>
        simp only at hk
        cases hn : (arIn E rid i && !arOk σ1 o) with
        | true => rw [hn] at hk; cases hk
        | false =>
          rw [hn] at hk
          exact ⟨hk, fun _ har => by rw [har] at hn; simpa using hn⟩
      | false => exact ⟨hk, fun e => by cases e⟩
    obtain ⟨hk, hark⟩ := hk'
    have hput : ∀ (val : Value), ∀ j ∈ D, ∀ o' d, ops[j]? = some o' → o'.dst = some d → tmp (a.put o.dst val) d = tmp a d := fun val j hj o' d ho' hd' => by
      have := hdst j hj o' d ho' hd'
      cases hod : o.dst with
      | none => rfl
      | some e => rw [tmp_put, if_neg (fun h => this (by rw [hod, h.1]))]
    split at hg
    · rename_i hcond
      simp only [Bool.and_eq_true, Bool.or_eq_true, Bool.not_eq_true', List.all_eq_true, List.mem_range] at hcond
      obtain ⟨htk, ⟨hfree, hready⟩, hrd⟩ := hcond
      have hrdy : i ∈ Region.ready .any ops L := v.ready_in (by simpa using hready) hD
      have hfreeL : ∀ j oj, ops[j]? = some oj → j ≠ i → L.getD j true = false → (∀ e ∈ oj.after, Region.binds .any e = true → e.on ≠ i) → o.apart ops oj = true := fun j oj hoj hji hun hno => Region.free_spec hi hfree j oj hoj hji (v.not_listed hun).2.2 hno
      have hnd : dirty E ops i = false := by simp [dirty, hi, htk]
      have hdd : ∀ (l' : Array Bool), (∀ d, dirty E ops d = true → (l'.setIfInBounds i true).getD d false = false) ↔ ∀ d, dirty E ops d = true → l'.getD d false = false := fun l' => by
        constructor
        · intro hh d hd
          have := hh d hd
          rw [getD_set_ne false (fun e => by subst e; rw [hnd] at hd; cases hd)] at this
          exact this
        · intro hh d hd
          rw [getD_set_ne false (fun e => by subst e; rw [hnd] at hd; cases hd)]
          exact hh d hd
      have hSD : ∀ (C : Ctx) l w, SD E ops w0 C (l.setIfInBounds i true) w ↔ SD E ops w0 C l w := fun C l' w' => by
        unfold SD
        rw [hdd]
      have hS1 : (∀ d, dirty E ops d = true → (L.setIfInBounds i true).getD d false = false) → Ext w0 w (fun _ _ => 0) := fun hd => v.hS ((hdd L).1 hd)
      cases b with
      | true =>
        simp only at hk
        cases hari : arIn E rid i with
        | true =>
          obtain ⟨C', c1, c2, c3, c4, c5⟩ := h1.rebaseX
          obtain ⟨C1, f1, f2⟩ := c4.frame
          obtain ⟨val, hrun, σ2, hk2, A2, F2, h2⟩ := take_ar f1 hE (hst o hmem) htk (hark rfl hari) hk
          have hC' : ∀ b i, C'.A0 b i → C'.F0 b i = 0 := fun b i ha => c3 b i (by rw [← c2]; exact ha)
          obtain ⟨e1, e2, e3, e4, e5⟩ := f2 h2
          refine wpAnyL_mono (S := SD E ops w0 C') (fun l' w' hs => ⟨hs.1, fun b i ha u hu => hs.2 b i (by rw [c2]; exact h1.a0 b i ha) u (by rw [c1]; exact h1.ext.cell b i (ce_lt hu) (hC b i ha) u hu)⟩) _ _ _ _
            (wpAnyL_first hi (Region.noSelect_spec hsel) (fun c a w hq => (hP c _ _ hq).elim) (hSD C') fuel L a w hfreeL hrdy v.cl (.inl ⟨hw, fun w' hS' => hrun w' fun b i ha u hu => ?_⟩) ⟨v.hS, fun b i ha u hu => by rw [c1] at hu; exact hu⟩
            (ih _ f (fun a w ⟨σ3, q1, A3, F3, q2⟩ => hQ a w ⟨σ3, q1, A3, F3, c5 q2⟩) hC' hg hk2 fuel (v.next hD hrdy e1 (PF.pres e2 e3 e4 D (hput val) e5 v.pf) hS1 v.hf)))
          obtain ⟨l', hc', hun, hS'⟩ := hS'
          exact hS'.2 b i (by rw [c2]; exact ha) u (by rw [c1]; exact hu)
        | false =>
        obtain ⟨C1, f1, f2⟩ := h1.frame
        obtain ⟨val, hrun, σ2, hk2, A2, F2, h2⟩ := tk_ok hE f1 (hst o hmem) htk hk
        obtain ⟨e1, e2, e3, e4, e5⟩ := f2 h2
        refine wpAnyL_first hi (Region.noSelect_spec hsel) (fun c a w hq => (hP c _ _ hq).elim) (hSD C) fuel L a w hfreeL hrdy v.cl (.inl ⟨hw, fun w' hS' => hrun w' fun hr => ?_⟩) hSD0 (ih _ f hQ hC hg hk2 fuel (v.next hD hrdy e1 (PF.pres e2 e3 e4 D (hput val) e5 v.pf) hS1 v.hf))
        rcases hrd with (hrd | hrd) | ⟨hfr, hanc⟩
        · rw [hr] at hrd; cases hrd
        · rw [hari] at hrd; cases hrd
        · rw [(v.hf hfr).1]
          obtain ⟨l', hc', hun, hS'⟩ := hS'
          refine hS'.1 fun d hd => ?_
          have hdl : d < ops.size := by
            unfold dirty at hd
            split at hd
            · rename_i od hod; exact (Array.getElem?_eq_some_iff.1 hod).1
            · cases hd
          rcases hanc d hdl with hh | hh
          · rw [hd] at hh; cases hh
          · cases hld : l'.getD d false with
            | false => rfl
            | true =>
              have := anc_closed hc' _ _ _ hh hld
              rcases Nat.lt_or_ge i l'.size with h' | h'
              · simp [h'] at this hun; rw [hun] at this; cases this
              · simp [Array.getElem?_eq_none h'] at this
      | false =>
        obtain ⟨F2, h2⟩ := skip_ok h1 o
        exact wpAnyL_first hi (Region.noSelect_spec hsel) (fun c a w hq => (hP c _ _ hq).elim) (hSD C) fuel L a w hfreeL hrdy v.cl (v := undef) (.inr ⟨hw, rfl⟩) hSD0 (ih _ f hQ hC hg hk fuel (v.next hD hrdy h2 (PF.pres (fun _ _ h => h) (fun _ _ _ _ h => h) (fun _ _ h => h) D (hput undef) (fun _ _ _ => ⟨fun _ h => h, rfl⟩) v.pf) hS1 v.hf))
    · simp only [Bool.and_eq_true, List.all_eq_true] at hg
      obtain ⟨⟨hready, hchk⟩, hg⟩ := hg
      have hrdy : i ∈ Region.ready .any ops L := v.ready_in (by simpa using hready) hD
      have hiltL : i < L.size := by rw [v.szL]; exact hilt
      refine ⟨fun h0 => (by rw [h0] at hrdy; cases hrdy), fun j hj => ?_⟩
      by_cases hjp : j ∈ pd
      · exact hearly j hjp hj
      have hij : i = j := Nat.eq_of_beq_eq_true (hchk j (v.ready_out v.dpd hj hjp))
      subst hij
      unfold wpOp
      simp only [hi, hw]
      have hold : ∀ {d}, (L.setIfInBounds i true).getD d false = false → L.getD d false = false := fun {d} hh => by
        cases hl : L.getD d false with
        | false => rfl
        | true => rw [(getD_set_iff hiltL).2 (.inr hl)] at hh; cases hh
      have hset : (L.setIfInBounds i true).getD i false = true := (getD_set_iff hiltL).2 (.inl rfl)
      cases b with
      | true =>
        simp only [if_true]
        obtain ⟨C1, f1, f2⟩ := h1.frame
        have hsd : ∀ w', (∀ b i, A b i → ∀ u, ce w b i = some u → ce w' b i = some u) → ∀ b i, C.A0 b i → ∀ u, ce C.w0 b i = some u → ce w' b i = some u := fun w' he b i ha u hu => he b i (v.h.a0 b i ha) u (v.h.ext.cell b i (ce_lt hu) (hC b i ha) u hu)
        cases htk : tkOp E o.op with
        | true =>
          refine .inl (Oper.wp_mono (fun a' w' hn => ?_) (wp_put (wp_same (tk_ok hE f1 (hst o hmem) htk hk))))
          obtain ⟨ht, hww, σ2, hk2, A2, F2, h2⟩ := hn
          subst hww
          obtain ⟨e1, e2, e3, e4, e5⟩ := f2 h2
          have hS' : (∀ d, dirty E ops d = true → (L.setIfInBounds i true).getD d false = false) → Ext w0 w (fun _ _ => 0) := fun hd => v.hS fun d hdd => hold (hd d hdd)
          exact ⟨⟨hS', hsd _ e3⟩, ih _ false hQ hC hg hk2 fuel (v.next hD hrdy e1 (PF.pres e2 e3 e4 D (fun j hj o' d ho' hd' => ht d (hdst j hj o' d ho' hd')) e5 v.pf) hS' (fun e => by cases e))⟩
        | false =>
        refine .inl (Oper.wp_mono (fun a' w' hn => ?_) (wp_put (not_tk hE f1 (hst o hmem) htk hk)))
        obtain ⟨ht, ⟨σ2, hk2, A2, F2, h2⟩, hq⟩ := hn
        obtain ⟨e1, e2, e3, e4, e5⟩ := f2 h2
        have hS' : (∀ d, dirty E ops d = true → (L.setIfInBounds i true).getD d false = false) → Ext w0 w' (fun _ _ => 0) := fun hd => by
          have hqq : quiet E o.op = true := by
            cases hqq : quiet E o.op with
            | true => rfl
            | false =>
              have hdj : dirty E ops i = true := by simp [dirty, hi, htk, hqq]
              have := hd i hdj
              rw [hset] at this; cases this
          exact (v.hS fun d hdd => hold (hd d hdd)).trans (hq hqq) (fun _ _ _ _ => rfl)
        exact ⟨⟨hS', hsd _ e3⟩, ih _ false hQ hC hg hk2 fuel (v.next hD hrdy e1 (PF.pres e2 e3 e4 D (fun j hj o' d ho' hd' => ht d (hdst j hj o' d ho' hd')) e5 v.pf) hS' (fun e => by cases e))⟩
      | false =>
        simp only [Bool.false_eq_true, if_false]
        obtain ⟨F2, h2⟩ := skip_ok h1 o
        have hS' : (∀ d, dirty E ops d = true → (L.setIfInBounds i true).getD d false = false) → Ext w0 w (fun _ _ => 0) := fun hd => v.hS fun d hdd => hold (hd d hdd)
        exact ⟨⟨hS', hSD0.2⟩, ih _ false hQ hC hg hk fuel (v.next hD hrdy h2 (PF.pres (fun _ _ h => h) (fun _ _ _ _ h => h) (fun _ _ h => h) D (hput undef) (fun _ _ _ => ⟨fun _ h => h, rfl⟩) v.pf) hS' (fun e => by cases e))⟩
end
theorem draw_ok (hE : EnvOk P E) (hm : P.follows .mixedOrders = true) {rid id : Nat} {ops : Array Oper} (hst : ∀ o ∈ ops.toList, opOk P o.op = true) {is bx : List Nat} (hd : drawOk E rid ops is = true) (h : Rel0 P C A σ a w F) {K : St → Option R} (hk : bxK σ bx (fun σ => pdK ops.toList σ (liveOf E.pd rid) fun σ => ordK E rid ops.toList is σ K) = some x)
    (hQ : ∀ a w, Nx P C K x a w → Q .normal a w) (hP : ∀ c a w, ¬ Q (.panic c) a w) : (Code.region id ops true).wp P Q a w := by
  simp only [drawOk, Bool.and_eq_true, Nat.ble_eq] at hd
  obtain ⟨⟨⟨hsel, hlen⟩, hps, hcov⟩, hg⟩ := hd
  have h0 := h.drew
  obtain ⟨A1, σ1, F1, hk, h1⟩ := bx_ok bx h0 hk
  obtain ⟨σ2, F2, hk, h1⟩ := pd_ok (liveOf E.pd rid) h1 hk
  obtain ⟨C', c1, c2, c3, c4, c5⟩ := h1.rebase
  have hC' : ∀ b i, C'.A0 b i → C'.F0 b i = 0 := fun b i ha => c3 b i (by rw [← c2]; exact ha)
  have hnf : ∀ k, (Array.replicate ops.size false).getD k false = false := fun k => by
    by_cases hk : k < ops.size <;> simp [hk]
  refine wp_region_any hm (wpAny_of_L _ _ _ _ (drawGo_ok hE hst hP hsel hps rfl is _ _ (fun a w ⟨σ3, q1, A3, F3, q2⟩ => hQ a w ⟨σ3, q1, A3, F3, c5 q2⟩) hC' hg hk ops.size (w0 := w.drew) (D := []) ⟨c4, trivial, List.nodup_nil, (fun _ h => by cases h), (fun _ h => by cases h), (fun _ h => by cases h), fun j hj => .inr (mem_any.1 (List.all_eq_true.1 hcov j hj)),
    Nat.le_trans (List.length_filter_le _ _) hlen, fun j o hj hl => ?_, fun _ => Ext.refl _ _, fun hf => ⟨rfl, ?_⟩, by simp, by simp, fun k => by simp⟩))
  · rw [hnf] at hl; cases hl
  · split at hf
    · assumption
    · cases hf
end
end OT
