/- Regions. -/
import Derived.Test.YtnpccifddodjlaaOUd
set_option linter.unusedVariables false
set_option linter.unusedSimpArgs false
namespace OT
open Go

section
variable {P : Program} {C : Ctx} {A : Cells} {X : FP} {σ : St} {a : Act} {w : World} {F : Nat → FP} {R : Type} {x : R} {Q : Exit → Act → World → Prop} {o : Oper} {E : Env}

/-- States that say the same. -/
theorem Rel.congr (h : Rel P C A X σ a w F) {σ' : St} (hn : σ'.n = σ.n) (hg : ∀ i, σ'.get i = σ.get i) (hv : ∀ i, σ'.ver i = σ.ver i) (hl : ∀ e, e ∈ σ'.lent ↔ e ∈ σ.lent) (hgh : ∀ e, e ∈ σ'.gh → e ∈ σ.gh) : Rel P C A X σ' a w F := by
  have hpres : Pres σ a w σ' a w := fun r p snap hb => ⟨by rw [hv]; exact hb, fun hok => by
    unfold St.ok at hok ⊢
    rw [hv] at hok
    exact ⟨hok, fun _ pl hpl => ⟨pl.H, pl.cs, by unfold place at hpl ⊢; rw [hg]; exact hpl, fun _ => rfl⟩⟩⟩
  refine ⟨by rw [hn]; exact h.size, h.defers, fun i hi => ?_, fun d r p snap hm => RefRel.pres hpres (h.gh d r p snap (hgh _ hm)), fun b i => by rw [hn]; exact h.tot b i, fun b i hp => by rw [hn] at hp; exact h.dis b i hp, fun b i hp => by rw [hn] at hp; exact h.bnd b i hp,
    fun i => by rw [hv]; exact h.vlen i, h.ext, fun b i hp => by rw [hn] at hp; exact h.own b i hp, h.a0, h.a1, fun j k hm => h.lentP j k ((hl _).1 hm), fun r t m H v hr hk => ?_, fun j k hm R hR => ?_⟩
  · rw [hg]
    exact SlotRel.pres hpres (fun _ _ h => h) (fun _ _ _ _ h => h) (fun _ _ h => h) (fun _ _ _ => ⟨fun _ h => h, rfl⟩) (h.slots i (by rw [← hn]; exact hi))
  · rw [hg] at hr
    exact h.whole r t m H v hr fun k hm => hk k ((hl _).2 hm)
  · rw [hg] at hR
    exact h.lentS j k ((hl _).1 hm) R hR

/-- A slot that is known to hold this. -/
theorem Rel.same (h : Rel P C A X σ a w F) {t : Nat} {s : Slot} (hs : σ.get t = s) : Rel P C A X (σ.upd t s) a w F :=
  h.congr rfl (fun i => by
    rw [get_upd]
    split
    · rename_i hc; rw [← hs, hc.1]
    · rfl) (fun i => rfl) (fun e => Iff.rfl) (fun e he => he)

/-- A guard: is the operation wanted? -/
theorem guard_ok (h : Rel0 P C A σ a w F) {ops : Array Oper} {o : Oper} {K : Bool → St → Option R} (hk : guardK ops.toList σ o.guard K = some x) : ∃ (b : Bool) (σ' : St), K b σ' = some x ∧ Rel0 P C A σ' a w F ∧ Region.wanted o (yielded ops a.tmps) = b := by
  unfold guardK at hk
  split at hk
  · rename_i hg; exact ⟨true, σ, hk, h, by simp [Region.wanted, hg]⟩
  · rename_i j want hg
    split at hk
    · cases hk
    · rename_i t ht
      rw [Array.getElem?_toList] at ht
      have hy : ∀ v, tmp a t = v → t < σ.n → yielded ops a.tmps j = match v with | .bool b => some b | _ => none := fun v hv ht' => by
        have hlt : t < a.tmps.size := by rw [h.size]; exact ht'
        unfold yielded
        rw [ht]
        have : a.tmps[t]? = some v := by rw [Array.getElem?_eq_getElem hlt, ← hv]; simp [tmp, hlt]
        simp only [Option.bind_some, this]
        cases v <;> rfl
      have hlt : ∀ s, σ.get t = s → s ≠ .dead → t < σ.n := fun s hs hne => by
        rcases Nat.lt_or_ge t σ.n with hi | hi
        · exact hi
        · rw [get_out (Nat.not_lt.2 hi)] at hs; exact absurd hs.symm hne
      split at hk
      · rename_i b hgt
        have ht' := hlt _ hgt (by intro e; cases e)
        have hs := h.slots t ht'
        rw [hgt] at hs
        have hv := val_bool hs
        have hyy := hy _ hv ht'
        simp only at hyy
        cases b with
        | true => exact ⟨_, _, hk, Rel.same h hgt, by simp only [Region.wanted, hg, hyy]; cases want <;> rfl⟩
        | false => exact ⟨_, _, hk, Rel.same h hgt, by simp only [Region.wanted, hg, hyy]; cases want <;> rfl⟩
      · rename_i hgt
        have ht' := hlt _ hgt (by intro e; cases e)
        have hs := h.slots t ht'
        rw [hgt] at hs
        obtain ⟨vs, Fi, h1, _⟩ := hs
        have hyy := hy _ h1 ht'
        simp only at hyy
        exact ⟨false, σ, hk, h, by simp only [Region.wanted, hg, hyy]; cases want <;> rfl⟩
      · cases hk

/-- An operation that is not wanted. -/
theorem skip_ok (h : Rel0 P C A σ a w F) (o : Oper) : ∃ F', Rel0 P C A (σ.putD o.dst (.tup [])) (a.put o.dst undef) w F' :=
  h.putD o.dst (s := .tup []) (v := undef) (Fd := fun _ _ => 0) (X' := fun _ _ => 0) ⟨#[], fun _ _ _ => 0, rfl, fun b i => by simp [sumF], fun j y hy => by cases hy⟩ (fun b i => Nat.le_refl _) (fun _ _ _ _ e => by cases e)

theorem ops_ok (hE : EnvOk P E) {rid : Nat} {ops : Array Oper} (hst : ∀ o ∈ ops.toList, opOk P o.op = true) {K : St → Option R} (hQ : ∀ a w, Nx P C K x a w → Q .normal a w) :
    ∀ (rest : List Oper) (i : Nat) {σ : St} {A : Cells} {a : Act} {w : World} {F : Nat → FP}, ops.toList.drop i = rest → Rel0 P C A σ a w F → opsK E rid ops.toList rest i σ K = some x → wpOps P ops Q (List.range' i rest.length) a w := by
  intro rest
  induction rest with
  | nil => intro i σ A a w F hd h hk; exact hQ a w ⟨σ, hk, A, F, h⟩
  | cons o rest ih =>
    intro i σ A a w F hd h hk
    have hi : ops[i]? = some o := by
      have : (ops.toList.drop i)[0]? = some o := by rw [hd]; rfl
      rw [List.getElem?_drop] at this
      simpa using this
    have hd' : ops.toList.drop (i + 1) = rest := by rw [← List.drop_drop, hd]; rfl
    have hmem : o ∈ ops.toList := List.mem_of_getElem? (i := i) (by simpa using hi)
    simp only [opsK] at hk
    obtain ⟨b, σ1, hk, h1, hw⟩ := guard_ok h hk
    show wpOps P ops Q (i :: List.range' (i + 1) rest.length) a w
    simp only [wpOps, hi, hw]
    cases b with
    | true =>
      simp only [if_true]
      refine .inl (Oper.wp_mono (fun a' w' hn => ?_) (step_ok hE h1 (hst o hmem) hk))
      obtain ⟨σ2, hk2, A2, F2, h2⟩ := hn
      exact ih (i + 1) hd' h2 hk2
    | false =>
      simp only [Bool.false_eq_true, if_false]
      obtain ⟨F2, h2⟩ := skip_ok h1 o
      exact ih (i + 1) hd' h2 hk

theorem region_ok (hE : EnvOk P E) {rid id : Nat} {ops : Array Oper} (hst : ∀ o ∈ ops.toList, opOk P o.op = true) (h : Rel0 P C A σ a w F) {K : St → Option R} (hk : opsK E rid ops.toList ops.toList 0 σ K = some x) (hQ : ∀ a w, Nx P C K x a w → Q .normal a w) :
    (Code.region id ops false).wp P Q a w := by
  refine wp_region ?_
  have := ops_ok hE hst hQ ops.toList 0 (by simp) h hk
  simpa [List.range_eq_range'] using this

/-! Whatever order is picked: with a condition on the world that hangs on what was run. -/

def wpAnyL (P : Program) (md : Region.Mode) (ops : Array Oper) (Q : Exit → Act → World → Prop) (S : Array Bool → World → Prop) : Nat → Array Bool → Act → World → Prop
  | 0, listed, a, w => Region.ready md ops listed = [] ∧ Q .normal a w
  | fuel + 1, listed, a, w =>
    (Region.ready md ops listed = [] → Q .normal a w) ∧
    ∀ i ∈ Region.ready md ops listed, wpOp P ops Q i (fun a' w' => S (listed.setIfInBounds i true) w' ∧ wpAnyL P md ops Q S fuel (listed.setIfInBounds i true) a' w') a w

theorem wpAny_of_L {md : Region.Mode} {ops : Array Oper} {S : Array Bool → World → Prop} : ∀ (fuel : Nat) (listed : Array Bool) (a : Act) (w : World), wpAnyL P md ops Q S fuel listed a w → wpAny P md ops Q fuel listed a w
  | 0, _, _, _, h => h
  | fuel + 1, _, _, _, h => ⟨h.1, fun i hi => wpOp_mono (fun a' w' h' => wpAny_of_L fuel _ a' w' h'.2) (h.2 i hi)⟩

/-- What has to come first has come. -/
def Closed (md : Region.Mode) (ops : Array Oper) (l : Array Bool) : Prop := ∀ j o, ops[j]? = some o → l.getD j false = true → ∀ e ∈ o.after, Region.binds md e = true → l.getD e.on false = true

theorem closed_set {md : Region.Mode} {ops : Array Oper} {l : Array Bool} (h : Closed md ops l) {j : Nat} (hj : j ∈ Region.ready md ops l) : Closed md ops (l.setIfInBounds j true) := by
  obtain ⟨_, oj, hoj, hall⟩ := mem_ready.1 hj
  intro k o hk hl e he hb
  by_cases hkj : j = k
  · subst hkj
    rw [hoj] at hk
    injection hk with hk
    subst hk
    exact getD_set_true (hall e he hb)
  · rw [getD_set_ne false hkj] at hl
    exact getD_set_true (h k o hk hl e he hb)

/-- The worlds in which number 'i' may be run. -/
def SU (md : Region.Mode) (ops : Array Oper) (S : Array Bool → World → Prop) (i : Nat) : World → Prop := fun w' => ∃ l, Closed md ops l ∧ l.getD i true = false ∧ S l w'

theorem wpAnyL_first {md : Region.Mode} {ops : Array Oper} {S : Array Bool → World → Prop} {i : Nat} {oi : Oper} {v : Value} (hi : ops[i]? = some oi) (hsel : ∀ (j : Nat) (o : Oper) cs b, ops[j]? = some o → o.op ≠ .select cs b)
    (hQ : ∀ c a w, Q (.panic c) (a.put oi.dst v) w → Q (.panic c) a w) (hS : ∀ l w, S (l.setIfInBounds i true) w ↔ S l w) :
    ∀ (fuel : Nat) (listed : Array Bool) (a : Act) (w : World),
      (∀ j oj, ops[j]? = some oj → j ≠ i → listed.getD j true = false → (∀ e ∈ oj.after, Region.binds md e = true → e.on ≠ i) → oi.apart ops oj = true) →
      i ∈ Region.ready md ops listed → Closed md ops listed → YieldsIf P ops (SU md ops S i) oi v a → S listed w →
      wpAnyL P md ops Q S fuel (listed.setIfInBounds i true) (a.put oi.dst v) w → wpAnyL P md ops Q S (fuel + 1) listed a w := by
  intro fuel
  induction fuel with
  | zero =>
    intro listed a w _ hr hc hy hs H
    have hun : listed.getD i true = false := (mem_ready.1 hr).1
    refine ⟨fun h => (by rw [h] at hr; cases hr), fun j hj => ?_⟩
    by_cases hji : j = i
    · subst hji; exact hy.wpOp hi ⟨listed, hc, hun, hs⟩ ⟨(hS _ _).2 hs, H⟩
    · have := ready_mono hj hji
      rw [H.1] at this
      cases this
  | succ fuel ih =>
    intro listed a w hfree hr hc hy hs H
    have hun : listed.getD i true = false := (mem_ready.1 hr).1
    refine ⟨fun h => (by rw [h] at hr; cases hr), fun j hj => ?_⟩
    by_cases hji : j = i
    · subst hji; exact hy.wpOp hi ⟨listed, hc, hun, hs⟩ ⟨(hS _ _).2 hs, H⟩
    · have h1 := H.2 j (ready_mono hj hji)
      obtain ⟨hjun, oj, hoj, hall⟩ := mem_ready.1 hj
      have hnot : ∀ e ∈ oj.after, Region.binds md e = true → e.on ≠ i := fun e he hb heq => by
        have h1 := hall e he hb
        have h0 := (mem_ready.1 hr).1
        rw [heq] at h1
        rcases Nat.lt_or_ge i listed.size with h' | h'
        · simp [h'] at h0 h1; rw [h0] at h1; cases h1
        · simp [Array.getElem?_eq_none h'] at h1
      have h2 := wpOp_putIf hoj (hfree j oj hoj hji hjun hnot) (fun cs b => hsel i oi cs b hi) (fun cs b => hsel j oj cs b hoj) hQ hy h1
      have hfree' : ∀ k ok, ops[k]? = some ok → k ≠ i → (listed.setIfInBounds j true).getD k true = false →
          (∀ e ∈ ok.after, Region.binds md e = true → e.on ≠ i) → oi.apart ops ok = true := fun k ok hk hki hun hno => by
        refine hfree k ok hk hki ?_ hno
        by_cases hjk : j = k
        · subst hjk; exact hjun
        · rw [getD_set_ne true hjk] at hun; exact hun
      refine wpOp_mono (fun a' w' h3 => ?_) h2
      have h4 := h3.2.1
      have h5 := h3.2.2
      rw [Array.setIfInBounds_comm _ _ (Ne.symm hji)] at h4 h5
      have h6 := (hS _ _).1 h4
      exact ⟨h6, ih (listed.setIfInBounds j true) a' w' hfree' (ready_mono hr (Ne.symm hji)) (closed_set hc hj) h3.1 h6 h5⟩

/-- Has to come ahead. -/
def anc (ops : Array Oper) : Nat → Nat → Nat → Bool
  | 0, _, _ => false
  | n + 1, d, i => match ops[d]? with
    | some o => o.after.toList.any fun e => Region.binds .any e && (Nat.beq e.on i || anc ops n e.on i)
    | none => false

theorem anc_closed {ops : Array Oper} {l : Array Bool} (h : Closed .any ops l) : ∀ (n d i : Nat), anc ops n d i = true → l.getD d false = true → l.getD i false = true
  | 0, _, _, ha, _ => by cases ha
  | n + 1, d, i, ha, hd => by
    simp only [anc] at ha
    split at ha
    · rename_i o ho
      obtain ⟨e, he, hb⟩ := List.any_eq_true.1 ha
      simp only [Bool.and_eq_true, Bool.or_eq_true, Nat.beq_eq] at hb
      have hl := h d o ho hd e (by simpa using he) hb.1
      rcases hb.2 with hb | hb
      · rw [← hb]; exact hl
      · exact anc_closed h n e.on i hb hl
    · cases ha

/-- Turns what there is. -/
def dirty (E : Env) (ops : Array Oper) (d : Nat) : Bool := match ops[d]? with
  | some o => !tkOp E o.op && !quiet E o.op
  | none => false
/-- The order that is told is one of those that stand for all. 'f': nothing but what may be taken first was run yet. -/
def drawGo (E : Env) (rid : Nat) (ops : Array Oper) : List Nat → Array Bool → Bool → Bool
  | [], l, _ => (Region.ready .any ops l).isEmpty
  | i :: is, l, f => match ops[i]? with
    | none => false
    | some o =>
      match tkOp E o.op && (Region.free .any ops l i && (Region.ready .any ops l).contains i && (!reads o.op || arIn E rid i || (f && (List.range ops.size).all fun d => !dirty E ops d || anc ops ops.size d i))) with
      | true => drawGo E rid ops is (l.setIfInBounds i true) f
      | false => decide (Region.ready .any ops l = [i]) && drawGo E rid ops is (l.setIfInBounds i true) false
def drawOk (E : Env) (rid : Nat) (ops : Array Oper) (is : List Nat) : Bool :=
  Region.noSelect ops && Nat.ble is.length ops.size && drawGo E rid ops is (Array.replicate ops.size false) true

theorem bx_ok {K : St → Option R} : ∀ (is : List Nat) {σ : St} {A : Cells} {F : Nat → FP}, Rel0 P C A σ a w F → bxK σ is K = some x → ∃ (A' : Cells) (σ' : St) (F' : Nat → FP), K σ' = some x ∧ Rel0 P C A' σ' a w F' := by
  intro is
  induction is with
  | nil => intro σ A F h hk; exact ⟨A, σ, F, hk, h⟩
  | cons i is ih =>
    intro σ A F h hk
    simp only [bxK] at hk
    split at hk
    · rename_i t m H v hg
      split at hk
      · rename_i hc
        simp only [Bool.and_eq_true, List.isEmpty_iff] at hc
        obtain ⟨hH, hfit⟩ := hc
        subst hH
        obtain ⟨A1, F1, _, h1⟩ := box_cp h hg
        exact ih h1 hk
      · cases hk
    · cases hk

/-- What stays from here on is told anew. -/
theorem Rel.rebase (h : Rel0 P C A σ a w F) : ∃ C' : Ctx, C'.w0 = w ∧ C'.A0 = A ∧ (∀ b i, A b i → C'.F0 b i = 0) ∧ Rel0 P C' A σ a w F ∧ (∀ {A2 : Cells} {σ2 : St} {a2 : Act} {w2 : World} {F2 : Nat → FP}, Rel0 P C' A2 σ2 a2 w2 F2 → Rel0 P C A2 σ2 a2 w2 F2) := by
  have hown : ∀ b i, 1 ≤ sumF σ.n F b i → 1 ≤ C.F0 b i ∨ C.w0.heap.size ≤ b := fun b i hp => h.own b i (by show 1 ≤ 0 + _; omega)
  refine ⟨⟨w, A, sumF σ.n F, C.args⟩, rfl, rfl, fun b i ha => ?_, ?_, fun {A2 σ2 a2 w2 F2} h2 => ?_⟩
  · rcases Nat.eq_zero_or_pos (sumF σ.n F b i) with h0 | h0
    · exact h0
    · exact absurd ha (h.dis b i (by show 1 ≤ 0 + _; omega))
  · exact { h with ext := Ext.refl _ _, own := fun b i hp => .inl (by have hp : 1 ≤ 0 + sumF σ.n F b i := hp; show 1 ≤ sumF σ.n F b i; omega), a0 := fun _ _ h => h, a1 := fun _ _ h => .inl h, lentP := h.lentP, lentS := h.lentS }
  · have hsz : C.w0.heap.size ≤ w.heap.size := h.ext.size
    refine { h2 with ext := h.ext.trans h2.ext (fun b i hb hz => ?_), own := fun b i hp => ?_, a0 := fun b i ha => h2.a0 b i (h.a0 b i ha), a1 := fun b i ha => ?_, lentP := h2.lentP, lentS := h2.lentS }
    · show sumF σ.n F b i = 0
      rcases Nat.eq_zero_or_pos (sumF σ.n F b i) with h0 | h0
      · exact h0
      · rcases hown b i h0 with h1 | h1 <;> omega
    · rcases h2.own b i hp with h1 | h1
      · exact hown b i h1
      · exact .inr (Nat.le_trans hsz h1)
    · rcases h2.a1 b i ha with h1 | h1 | h1
      · exact h.a1 b i h1
      · exact .inr (hown b i h1)
      · exact .inr (.inr (Nat.le_trans hsz h1))

/-- What is read of nobody's cells is the same wherever these stay. -/
theorem take_ar (h : Rel0 P C A σ a w F) (hE : EnvOk P E) {rid i : Nat} (hst : opOk P o.op = true) (htk : tkOp E o.op = true) (har : arOk σ o = true) {K : St → Option R} (hk : stepK E rid i o σ K = some x) :
    ∃ v, (∀ w', (∀ b i, A b i → ∀ u, ce w b i = some u → ce w' b i = some u) → (execOp a.eval o).run P w' = .ok (.value v) w') ∧ Nx P C K x (a.put o.dst v) w := by
  unfold arOk at har
  split at har
  · rename_i t y ho
    split at har
    · rename_i t' v hv
      unfold stepK at hk
      simp only [ho, hv, loadK] at hk
      obtain ⟨T, hT, hk⟩ := tiK_some hk
      have hlay := hE.ti _ _ hT
      split at hk
      · rename_i e; subst e
        rw [ho] at hst
        rcases opd_ok h hst with hs | ⟨xs, e⟩
        rotate_left
        · rw [e] at hv; cases hv
        rw [hv] at hs
        obtain ⟨⟨b, off, sp⟩, h1, h2, L, h3, h4, h5⟩ := hs
        simp only [List.cons.injEq, and_true] at h1
        simp only at h2; subst h2
        refine ⟨mkV t' L, fun w' hw' => ?_, fin_flat h hk ⟨L, rfl, h5⟩ (fun _ _ _ _ e => by cases e)⟩
        simp [execOp, ho, h1, Instr.loadAt, Instr.sureAddr, run_loadVar hlay (fun j u hu => hw' _ _ (h4 j u hu).2 u (h4 j u hu).1) h3]
      · cases hk
    · cases har
  · rename_i s t y ho
    unfold stepK at hk
    simp only [ho] at hk
    rw [ho] at hst
    refine take_convert_ar h hE.ti ho hst (fun T hT => ?_) har hk
    rw [ho] at htk
    simp only [tkOp, hT] at htk
    exact htk
  · cases har

/-- As long as nothing that there is was turned, all that there was stays; what is nobody's stays anyway. -/
def SD (E : Env) (ops : Array Oper) (w0 : World) (C : Ctx) : Array Bool → World → Prop := fun l w' => ((∀ d, dirty E ops d = true → l.getD d false = false) → Ext w0 w' (fun _ _ => 0)) ∧ ∀ b i, C.A0 b i → ∀ u, ce C.w0 b i = some u → ce w' b i = some u

theorem wp_same {next : Act → World → Prop} (h : Tk P o a w next) : o.wp P a w (fun a' w' => w = w' ∧ next a' w') Q := by
  obtain ⟨v, h1, h2⟩ := h
  exact wp_val (h1 w fun _ => Ext.refl _ _) ⟨rfl, h2⟩

theorem wpAnyL_mono {md : Region.Mode} {ops : Array Oper} {S S' : Array Bool → World → Prop} (hS : ∀ l w, S l w → S' l w) : ∀ (fuel : Nat) (listed : Array Bool) (a : Act) (w : World), wpAnyL P md ops Q S fuel listed a w → wpAnyL P md ops Q S' fuel listed a w
  | 0, _, _, _, h => h
  | fuel + 1, _, _, _, h => ⟨h.1, fun i hi => wpOp_mono (fun a' w' h' => ⟨hS _ _ h'.1, wpAnyL_mono hS fuel _ a' w' h'.2⟩) (h.2 i hi)⟩

theorem keepA (h : Rel0 P C A σ a w F) (hC : ∀ b i, C.A0 b i → C.F0 b i = 0) : ∀ b i, C.A0 b i → ∀ u, ce C.w0 b i = some u → ce w b i = some u := fun b i ha u hu => h.ext.cell b i (ce_lt hu) (hC b i ha) u hu

theorem drawGo_ok (hE : EnvOk P E) {rid : Nat} {ops : Array Oper} (hst : ∀ o ∈ ops.toList, opOk P o.op = true) {K : St → Option R} (hP : ∀ c a w, ¬ Q (.panic c) a w) (hsel : Region.noSelect ops = true) {w0 : World} :
    ∀ (is : List Nat) (l : Array Bool) (f : Bool) (fuel : Nat) {C : Ctx} {σ : St} {A : Cells} {a : Act} {w : World} {F : Nat → FP}, (∀ a w, Nx P C K x a w → Q .normal a w) → (∀ b i, C.A0 b i → C.F0 b i = 0) → drawGo E rid ops is l f = true → is.length ≤ fuel → Rel0 P C A σ a w F → Closed .any ops l → ((∀ d, dirty E ops d = true → l.getD d false = false) → Ext w0 w (fun _ _ => 0)) → (f = true → w = w0) → l.size = ops.size → ordK E rid ops.toList is σ K = some x →
      wpAnyL P .any ops Q (SD E ops w0 C) fuel l a w := by
  intro is
  induction is with
  | nil =>
    intro l f fuel C σ A a w F hQ hC hg hf h hcl hS hfw hsz hk
    simp only [drawGo, List.isEmpty_iff] at hg
    have hq := hQ a w ⟨σ, hk, A, F, h⟩
    cases fuel with
    | zero => exact ⟨hg, hq⟩
    | succ fuel => exact ⟨fun _ => hq, by rw [hg]; simp⟩
  | cons i is ih =>
    intro l f fuel C σ A a w F hQ hC hg hf h hcl hS hfw hsz hk
    cases fuel with
    | zero => simp at hf
    | succ fuel =>
      simp only [List.length_cons, Nat.add_le_add_iff_right] at hf
      simp only [ordK] at hk
      simp only [drawGo] at hg
      cases hi : ops[i]? with
      | none => rw [hi] at hg; cases hg
      | some o =>
        rw [Array.getElem?_toList, hi] at hk
        rw [hi] at hg
        simp only at hk hg
        have hilt : i < l.size := by rw [hsz]; exact (Array.getElem?_eq_some_iff.1 hi).1
        have hmem : o ∈ ops.toList := List.mem_of_getElem? (i := i) (by simpa using hi)
        obtain ⟨b, σ1, hk, h1, hw⟩ := guard_ok h hk
        have hk' : (match (generalizing := false) b with
            | true => stepK E rid i o σ1 fun σ => ordK E rid ops.toList is σ K
            | false => ordK E rid ops.toList is (σ1.putD o.dst (.tup [])) K) = some x ∧ (b = true → arIn E rid i = true → arOk σ1 o = true) := by
          cases b with
          | true =>
            simp only at hk
            cases hn : (arIn E rid i && !arOk σ1 o) with
            | true => rw [hn] at hk; cases hk
            | false =>
              rw [hn] at hk
              exact ⟨hk, fun _ har => by rw [har] at hn; simpa using hn⟩
          | false => exact ⟨hk, fun e => by cases e⟩
        obtain ⟨hk, hark⟩ := hk'
        split at hg
        · rename_i hcond
          simp only [Bool.and_eq_true, Bool.or_eq_true, Bool.not_eq_true', List.all_eq_true, List.mem_range] at hcond
          obtain ⟨htk, ⟨hfree, hready⟩, hrd⟩ := hcond
          have hrdy : i ∈ Region.ready .any ops l := by simpa using hready
          have hnd : dirty E ops i = false := by simp [dirty, hi, htk]
          have hdd : ∀ (l' : Array Bool), (∀ d, dirty E ops d = true → (l'.setIfInBounds i true).getD d false = false) ↔ ∀ d, dirty E ops d = true → l'.getD d false = false := fun l' => by
            constructor
            · intro hh d hd
              have := hh d hd
              rw [getD_set_ne false (fun e => by subst e; rw [hnd] at hd; cases hd)] at this
              exact this
            · intro hh d hd
              rw [getD_set_ne false (fun e => by subst e; rw [hnd] at hd; cases hd)]
              exact hh d hd
          have hSD : ∀ (C : Ctx) l w, SD E ops w0 C (l.setIfInBounds i true) w ↔ SD E ops w0 C l w := fun C l' w' => by
            unfold SD
            rw [hdd]
          have hcl' := closed_set hcl hrdy
          have hsz' : (l.setIfInBounds i true).size = ops.size := by simpa using hsz
          have hS1 : (∀ d, dirty E ops d = true → (l.setIfInBounds i true).getD d false = false) → Ext w0 w (fun _ _ => 0) := fun hd => hS ((hdd l).1 hd)
          cases b with
          | true =>
            simp only at hk
            cases hari : arIn E rid i with
            | true =>
              obtain ⟨C', c1, c2, c3, c4, c5⟩ := h1.rebase
              obtain ⟨v, hrun, σ2, hk2, A2, F2, h2⟩ := take_ar c4 hE (hst o hmem) htk (hark rfl hari) hk
              have hC' : ∀ b i, C'.A0 b i → C'.F0 b i = 0 := fun b i ha => c3 b i (by rw [← c2]; exact ha)
              refine wpAnyL_mono (S := SD E ops w0 C') (fun l' w' hs => ⟨hs.1, fun b i ha u hu => hs.2 b i (by rw [c2]; exact h1.a0 b i ha) u (by rw [c1]; exact keepA h1 hC b i ha u hu)⟩) _ _ _ _
                (wpAnyL_first hi (Region.noSelect_spec hsel) (fun c a w hq => (hP c _ _ hq).elim) (hSD C') fuel l a w (Region.free_spec hi hfree) hrdy hcl (.inl ⟨hw, fun w' hS' => hrun w' fun b i ha u hu => ?_⟩) ⟨hS, fun b i ha u hu => by rw [c1] at hu; exact hu⟩
                (ih _ f fuel (fun a w ⟨σ3, q1, A3, F3, q2⟩ => hQ a w ⟨σ3, q1, A3, F3, c5 q2⟩) hC' hg hf h2 hcl' hS1 hfw hsz' hk2))
              obtain ⟨l', hc', hun, hS'⟩ := hS'
              exact hS'.2 b i (by rw [c2]; exact ha) u (by rw [c1]; exact hu)
            | false =>
            obtain ⟨v, hrun, σ2, hk2, A2, F2, h2⟩ := tk_ok hE h1 (hst o hmem) htk hk
            refine wpAnyL_first hi (Region.noSelect_spec hsel) (fun c a w hq => (hP c _ _ hq).elim) (hSD C) fuel l a w (Region.free_spec hi hfree) hrdy hcl (.inl ⟨hw, fun w' hS' => hrun w' fun hr => ?_⟩) ⟨hS, keepA h1 hC⟩ (ih _ f fuel hQ hC hg hf h2 hcl' hS1 hfw hsz' hk2)
            rcases hrd with (hrd | hrd) | ⟨hfr, hanc⟩
            · rw [hr] at hrd; cases hrd
            · rw [hari] at hrd; cases hrd
            · rw [hfw hfr]
              obtain ⟨l', hc', hun, hS'⟩ := hS'
              refine hS'.1 fun d hd => ?_
              have hdl : d < ops.size := by
                unfold dirty at hd
                split at hd
                · rename_i od hod; exact (Array.getElem?_eq_some_iff.1 hod).1
                · cases hd
              rcases hanc d hdl with hh | hh
              · rw [hd] at hh; cases hh
              · cases hld : l'.getD d false with
                | false => rfl
                | true =>
                  have := anc_closed hc' _ _ _ hh hld
                  rcases Nat.lt_or_ge i l'.size with h' | h'
                  · simp [h'] at this hun; rw [hun] at this; cases this
                  · simp [Array.getElem?_eq_none h'] at this
          | false =>
            obtain ⟨F2, h2⟩ := skip_ok h1 o
            exact wpAnyL_first hi (Region.noSelect_spec hsel) (fun c a w hq => (hP c _ _ hq).elim) (hSD C) fuel l a w (Region.free_spec hi hfree) hrdy hcl (v := undef) (.inr ⟨hw, rfl⟩) ⟨hS, keepA h1 hC⟩ (ih _ f fuel hQ hC hg hf h2 hcl' hS1 hfw hsz' hk)
        · simp only [Bool.and_eq_true, decide_eq_true_eq] at hg
          obtain ⟨hready, hg⟩ := hg
          have hrdy : i ∈ Region.ready .any ops l := by rw [hready]; exact List.mem_singleton.2 rfl
          have hcl' := closed_set hcl hrdy
          have hsz' : (l.setIfInBounds i true).size = ops.size := by simpa using hsz
          refine ⟨fun h0 => (by rw [hready] at h0; cases h0), fun j hj => ?_⟩
          have hj : j = i := by rw [hready] at hj; simpa using hj
          subst hj
          unfold wpOp
          simp only [hi, hw]
          have hset : (l.setIfInBounds j true).getD j false = true := by simp [hilt]
          have hold : ∀ {d}, (l.setIfInBounds j true).getD d false = false → l.getD d false = false := fun {d} hh => by
            by_cases hjd : j = d
            · subst hjd; rw [hset] at hh; cases hh
            · rw [getD_set_ne false hjd] at hh; exact hh
          cases b with
          | true =>
            simp only [if_true]
            cases htk : tkOp E o.op with
            | true =>
              refine .inl (Oper.wp_mono (fun a' w' hn => ?_) (wp_same (tk_ok hE h1 (hst o hmem) htk hk)))
              obtain ⟨hww, σ2, hk2, A2, F2, h2⟩ := hn
              subst hww
              have hS' : (∀ d, dirty E ops d = true → (l.setIfInBounds j true).getD d false = false) → Ext w0 w (fun _ _ => 0) := fun hd => hS fun d hdd => hold (hd d hdd)
              exact ⟨⟨hS', keepA h2 hC⟩, ih _ false fuel hQ hC hg hf h2 hcl' hS' (fun e => by cases e) hsz' hk2⟩
            | false =>
            refine .inl (Oper.wp_mono (fun a' w' hn => ?_) (not_tk hE h1 (hst o hmem) htk hk))
            obtain ⟨⟨σ2, hk2, A2, F2, h2⟩, hq⟩ := hn
            have hS' : (∀ d, dirty E ops d = true → (l.setIfInBounds j true).getD d false = false) → Ext w0 w' (fun _ _ => 0) := fun hd => by
              have hqq : quiet E o.op = true := by
                cases hqq : quiet E o.op with
                | true => rfl
                | false =>
                  have hdj : dirty E ops j = true := by simp [dirty, hi, htk, hqq]
                  have := hd j hdj
                  rw [hset] at this; cases this
              exact (hS fun d hdd => hold (hd d hdd)).trans (hq hqq) (fun _ _ _ _ => rfl)
            exact ⟨⟨hS', keepA h2 hC⟩, ih _ false fuel hQ hC hg hf h2 hcl' hS' (fun e => by cases e) hsz' hk2⟩
          | false =>
            simp only [Bool.false_eq_true, if_false]
            obtain ⟨F2, h2⟩ := skip_ok h1 o
            have hS' : (∀ d, dirty E ops d = true → (l.setIfInBounds j true).getD d false = false) → Ext w0 w (fun _ _ => 0) := fun hd => hS fun d hdd => hold (hd d hdd)
            exact ⟨⟨hS', keepA h2 hC⟩, ih _ false fuel hQ hC hg hf h2 hcl' hS' (fun e => by cases e) hsz' hk⟩

theorem draw_ok (hE : EnvOk P E) (hm : P.follows .mixedOrders = true) {rid id : Nat} {ops : Array Oper} (hst : ∀ o ∈ ops.toList, opOk P o.op = true) {is bx : List Nat} (hd : drawOk E rid ops is = true) (h : Rel0 P C A σ a w F) {K : St → Option R} (hk : bxK σ bx (fun σ => ordK E rid ops.toList is σ K) = some x)
    (hQ : ∀ a w, Nx P C K x a w → Q .normal a w) (hP : ∀ c a w, ¬ Q (.panic c) a w) : (Code.region id ops true).wp P Q a w := by
  simp only [drawOk, Bool.and_eq_true, Nat.ble_eq] at hd
  obtain ⟨⟨hsel, hlen⟩, hg⟩ := hd
  have h0 := h.drew
  obtain ⟨A1, σ1, F1, hk, h1⟩ := bx_ok bx h0 hk
  obtain ⟨C', c1, c2, c3, c4, c5⟩ := h1.rebase
  have hC' : ∀ b i, C'.A0 b i → C'.F0 b i = 0 := fun b i ha => c3 b i (by rw [← c2]; exact ha)
  refine wp_region_any hm (wpAny_of_L _ _ _ _ (drawGo_ok hE hst hP hsel (w0 := w.drew) is _ true _ (fun a w ⟨σ3, q1, A3, F3, q2⟩ => hQ a w ⟨σ3, q1, A3, F3, c5 q2⟩) hC' hg hlen c4 (fun j o hj hl => ?_) (fun _ => Ext.refl _ _) (fun _ => rfl) (by simp) hk))
  exfalso
  have hlt := (Array.getElem?_eq_some_iff.1 hj).1
  simp [hlt] at hl
end
end OT
