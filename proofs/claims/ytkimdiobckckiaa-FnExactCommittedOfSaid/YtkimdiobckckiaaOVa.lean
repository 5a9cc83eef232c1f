/- What is made anew at any time. -/
import Derived.Test.YtkimdiobckckiaaOUd
set_option linter.unusedVariables false
set_option linter.unusedSimpArgs false
namespace OT
open Go

/-- What an operation makes that may come at any time. -/
noncomputable def pdSlot (E : Env) : Op → Option Slot
  | .alloc t => match E.TI t with
    | some T => if T.zok then some (.box T (ownMd T) [] T.zero) else none
    | none => none
  | .buildSlice t n ps => match E.TI t with
    | some (.slc e) => if Nat.beq n 0 && Nat.beq ps.size 0 && e.zok then some (.own (.slc e) (.slc true (ownMd e)) [] []) else none
    | _ => none
  | _ => none

section
variable {P : Program} {C : Ctx} {A : Cells} {X : FP} {σ : St} {a : Act} {w : World} {F : Nat → FP} {R : Type} {x : R} {Q : Exit → Act → World → Prop} {o : Oper} {E : Env}

theorem stepK_pd {s : Slot} (hs : pdSlot E o.op = some s) {rid i : Nat} {K : St → Option R} : stepK E rid i o σ K = K (σ.putD o.dst s) := by
  unfold pdSlot at hs
  split at hs
  · rename_i t ho
    unfold stepK
    simp only [ho]
    split at hs
    · rename_i T hT
      split at hs
      · rename_i hz
        injection hs with hs
        simp only [tiK, hT, hz, if_true, hs]
      · cases hs
    · cases hs
  · rename_i t n ps ho
    unfold stepK
    simp only [ho]
    split at hs
    · rename_i e hT
      split at hs
      · rename_i hc
        injection hs with hs
        simp only [Bool.and_eq_true, Nat.beq_eq] at hc
        obtain ⟨⟨h1, h2⟩, hz⟩ := hc
        subst h1
        have hps : ps = #[] := Array.eq_empty_of_size_eq_zero h2
        subst hps
        simp [tiK, hT, hz, seqK, hs]
      · cases hs
    · cases hs
  · cases hs

/-- But for its own temporary an operation leaves them. -/
theorem wp_put {N : Act → World → Prop} (hh : o.wp P a w N Q) : o.wp P a w (fun a' w' => (∀ d, o.dst ≠ some d → tmp a' d = tmp a d) ∧ N a' w') Q := by
  have key : ∀ (a0 : Act) v, a0.tmps = a.tmps → ∀ d, o.dst ≠ some d → tmp (a0.put o.dst v) d = tmp a d := fun a0 v h0 d hd => by
    unfold tmp Act.put
    cases ho : o.dst with
    | none => simp [h0]
    | some e =>
      have : e ≠ d := fun h => hd (by rw [ho, h])
      simp only [h0]
      simp [Array.getElem?_setIfInBounds, this]
  unfold Oper.wp at *
  generalize (execOp a.eval o).run P w = r at *
  cases r with
  | ok n w' =>
    cases n <;> simp only [Oper.upon] at hh ⊢ <;>
      first
        | exact ⟨key _ _ rfl, hh⟩
        | exact Calls.mono hh (fun e w'' he => by cases e <;> first | exact ⟨key _ _ rfl, he⟩ | exact he)
        | exact Rows.mono hh (fun _ _ he => ⟨key _ _ rfl, he⟩)
  | halt x w' => cases x <;> simp only [Oper.upon] at hh ⊢ <;> exact hh

theorem pdOk_spec {d : Nat} (h : pdOk σ d = true) : d < σ.n ∧ σ.get d = .dead ∧ (∀ k, (d, k, false) ∉ σ.lent) ∧ ∀ r p snap, (d, r, p, snap) ∉ σ.gh := by
  unfold pdOk at h
  simp only [Bool.and_eq_true, Bool.not_eq_true', Nat.blt_eq] at h
  obtain ⟨⟨⟨h1, h2⟩, h3⟩, h4⟩ := h
  refine ⟨h1, ?_, fun k hm => ?_, fun r p snap hm => ?_⟩
  · split at h2
    · assumption
    · cases h2
  · revert h3 hm
    generalize σ.lent = l
    induction l with
    | nil => intro h3 hm; cases hm
    | cons e l ih =>
      obtain ⟨k1, n1, b1⟩ := e
      intro h3 hm
      simp only [lentB, Bool.or_eq_false_iff] at h3
      rcases List.mem_cons.1 hm with hm | hm
      · injection hm with e1 e2; injection e2 with e2 e3
        subst e1; subst e3
        simp at h3
      · exact ih h3.2 hm
  · rw [List.any_eq_false] at h4
    exact h4 _ hm (by simp)

/-- A dead slot's temporary is anything. -/
theorem Rel.tmp (h : Rel P C A X σ a w F) {d : Nat} (hp : pdOk σ d = true) (v : Value) : Rel P C A X σ (a.put (some d) v) w F := by
  obtain ⟨hd, hg, hl, hgh⟩ := pdOk_spec hp
  have hsz := h.size
  have ht : ∀ i, i ≠ d → OT.tmp (a.put (some d) v) i = OT.tmp a i := fun i hi => by
    rw [tmp_put, if_neg (fun h => hi h.1.symm)]
  have hpl : ∀ r p, place σ (a.put (some d) v) w r p = place σ a w r p := fun r p => by
    unfold place
    by_cases hr : r = d
    · subst hr; rw [hg]; rfl
    · rw [ht r hr]
  have hpres : Pres σ a w σ (a.put (some d) v) w := fun r p snap hb => ⟨hb, fun hok => ⟨hok, fun _ pl hp => ⟨pl.H, pl.cs, by rw [hpl]; exact hp, fun _ => rfl⟩⟩⟩
  refine { h with size := by simp [Act.put, hsz], defers := by simpa [Act.put] using h.defers, slots := fun i hi => ?_, gh := fun d' r p snap hm => ?_, lentP := fun j k hm => ?_, whole := fun r t m H v' hr hk => ?_, lentS := fun j k hm R hR => ?_ }
  · by_cases hid : i = d
    · subst hid; rw [hg]; trivial
    · rw [ht i hid]
      exact SlotRel.pres hpres (fun _ _ h => h) (fun _ _ _ _ h => h) (fun _ _ h => h) (fun _ _ _ => ⟨fun _ h => h, rfl⟩) (h.slots i hi)
  · rw [ht d' (fun e => by subst e; exact hgh _ _ _ hm)]
    exact RefRel.pres hpres (h.gh d' r p snap hm)
  · rw [ht j (fun e => by subst e; exact hl _ hm)]
    exact h.lentP j k hm
  · rw [ht r (fun e => by subst e; rw [hg] at hr; cases hr)]
    exact h.whole r t m H v' hr hk
  · have : j ≠ d := fun e => by subst e; rw [hg] at hR; cases hR
    rw [ht j this] at hR
    exact h.lentS j k hm R hR

/-- A new thing that is there already. -/
def PS (P : Program) (A : Cells) (w : World) (tv : Value) : Slot → FP → Prop
  | .own t m H v, F => ∃ cs, tv = mkV t cs ∧ Rep P w A t m H v cs F
  | .box t m H v, F => ∃ b L F1, tv = .pointer (some ⟨b, 0, none⟩) ∧ L.length = t.sz ∧ Has w b 0 L ∧ (∀ j, j < t.sz → w.frozen? ⟨b, j, none⟩ = false) ∧
      (∀ x i, rng b 0 t.sz x i + F1 x i ≤ F x i) ∧ Rep P w A t m H v L F1 ∧ OwnBlk w b t.sz
  | _, _ => False

theorem PS.slot {tv : Value} {s : Slot} {G : FP} (h : PS P A w tv s G) : SlotRel P A σ a w tv s G := by
  cases s with
  | own t m H v => exact h
  | box t m H v =>
    obtain ⟨b, L, F1, h1, h2, h3, h4, h5, h6, h7⟩ := h
    exact ⟨b, 0, L, F1, h1, h2, h3, fun j hj => by rw [Nat.zero_add]; exact h4 j hj, h5, h6⟩
  | _ => exact h.elim
theorem PS.whole {tv : Value} {s : Slot} {G : FP} (h : PS P A w tv s G) : ∀ t m H v', s = .box t m H v' → ∃ b, tv = .pointer (some ⟨b, 0, none⟩) ∧ OwnBlk w b t.sz := by
  rintro t m H v rfl
  obtain ⟨b, L, F1, h1, h2, h3, h4, h5, h6, h7⟩ := h
  exact ⟨b, h1, h7⟩
theorem PS.pres {A' : Cells} {w' : World} {tv : Value} {s : Slot} {G : FP} (hA : ∀ b i, A b i → A' b i) (hc : ∀ b i, A b i → ∀ u, ce w b i = some u → ce w' b i = some u) (hb : ∀ b n, OwnBlk w b n → OwnBlk w' b n)
    (hF : ∀ b i, 1 ≤ G b i → (∀ u, ce w b i = some u → ce w' b i = some u) ∧ w'.frozen? ⟨b, i, none⟩ = w.frozen? ⟨b, i, none⟩) (h : PS P A w tv s G) : PS P A' w' tv s G := by
  cases s with
  | own t m H v => obtain ⟨cs, h1, h2⟩ := h; exact ⟨cs, h1, Rep.mono hA hc hb t h2 (fun _ _ => Nat.le_refl _) (fun b i hp => (hF b i hp).1)⟩
  | box t m H v =>
    obtain ⟨b, L, F1, h1, h2, h3, h4, h5, h6, h7⟩ := h
    have hr : ∀ j, j < t.sz → 1 ≤ G b j := fun j hj => by
      have := h5 b j; simp [rng, hj] at this; omega
    exact ⟨b, L, F1, h1, h2, fun j u hu => (hF _ _ (by rw [Nat.zero_add]; exact hr j (h2 ▸ (List.getElem?_eq_some_iff.1 hu).1))).1 u (h3 j u hu), fun j hj => by rw [(hF _ _ (hr j hj)).2]; exact h4 j hj, h5,
      Rep.mono hA hc hb t h6 (fun _ _ => Nat.le_refl _) (fun b i hp => (hF b i (by have := h5 b i; omega)).1), hb _ _ h7⟩
  | _ => exact h.elim

/-- New things that are there already. -/
def PF (P : Program) (E : Env) (ops : Array Oper) (A : Cells) (a : Act) (w : World) : List Nat → FP → Prop
  | [], _ => True
  | j :: D, X => ∃ (o : Oper) (d : Nat) (s : Slot) (Fj X' : FP), ops[j]? = some o ∧ o.dst = some d ∧ pdSlot E o.op = some s ∧ PS P A w (tmp a d) s Fj ∧ (∀ b i, X' b i + Fj b i ≤ X b i) ∧ PF P E ops A a w D X'

theorem PF.pres {ops : Array Oper} {A' : Cells} {a' : Act} {w' : World} (hA : ∀ b i, A b i → A' b i) (hc : ∀ b i, A b i → ∀ u, ce w b i = some u → ce w' b i = some u) (hb : ∀ b n, OwnBlk w b n → OwnBlk w' b n) :
    ∀ (D : List Nat) {X : FP}, (∀ j ∈ D, ∀ o d, ops[j]? = some o → o.dst = some d → tmp a' d = tmp a d) → (∀ b i, 1 ≤ X b i → (∀ u, ce w b i = some u → ce w' b i = some u) ∧ w'.frozen? ⟨b, i, none⟩ = w.frozen? ⟨b, i, none⟩) →
      PF P E ops A a w D X → PF P E ops A' a' w' D X
  | [], _, _, _, _ => trivial
  | j :: D, X, ht, hF, h => by
    obtain ⟨o, d, s, Fj, X', h1, h2, h3, h4, h5, h6⟩ := h
    exact ⟨o, d, s, Fj, X', h1, h2, h3, by
      rw [ht j (by simp) o d h1 h2]
      exact PS.pres hA hc hb (fun b i hp => hF b i (by have := h5 b i; omega)) h4, h5, PF.pres hA hc hb D (fun k hk => ht k (by simp [hk])) (fun b i hp => hF b i (by have := h5 b i; omega)) h6⟩

theorem PF.grow {ops : Array Oper} : ∀ (D : List Nat) {X X1 : FP}, (∀ b i, X b i ≤ X1 b i) → PF P E ops A a w D X → PF P E ops A a w D X1
  | [], _, _, _, _ => trivial
  | j :: D, X, X1, hx, h => by
    obtain ⟨o, d, s, Fj, X', h1, h2, h3, h4, h5, h6⟩ := h
    exact ⟨o, d, s, Fj, X', h1, h2, h3, h4, fun b i => Nat.le_trans (h5 b i) (hx b i), h6⟩

theorem PF.take {ops : Array Oper} {j : Nat} : ∀ (D : List Nat) {X : FP}, j ∈ D → PF P E ops A a w D X →
    ∃ (o : Oper) (d : Nat) (s : Slot) (Fj X' : FP), ops[j]? = some o ∧ o.dst = some d ∧ pdSlot E o.op = some s ∧ PS P A w (tmp a d) s Fj ∧ (∀ b i, X' b i + Fj b i ≤ X b i) ∧ PF P E ops A a w (D.erase j) X'
  | [], _, hj, _ => by cases hj
  | k :: D, X, hj, h => by
    by_cases hkj : k = j
    · subst hkj
      rw [List.erase_cons_head]
      exact h
    · have hj' : j ∈ D := by
        rcases List.mem_cons.1 hj with e | e
        · exact absurd e.symm hkj
        · exact e
      obtain ⟨o, d, s, Fk, X1, h1, h2, h3, h4, h5, h6⟩ := h
      obtain ⟨o', d', s', Fj, X2, g1, g2, g3, g4, g5, g6⟩ := PF.take D hj' h6
      rw [List.erase_cons_tail (by simpa using hkj)]
      exact ⟨o', d', s', Fj, fun b i => X2 b i + Fk b i, g1, g2, g3, g4, fun b i => by have := g5 b i; have := h5 b i; show X2 b i + Fk b i + Fj b i ≤ X b i; omega, o, d, s, Fk, X2, h1, h2, h3, h4, fun b i => Nat.le_refl _, g6⟩

/-- Something new, made ahead. -/
theorem early_ok (h : Rel P C A X σ a w F) (hti : ∀ i T, E.TI i = some T → layB P T (.inl i) = true) {s : Slot} (hs : pdSlot E o.op = some s) {d : Nat} (hp : pdOk σ d = true) :
    ∃ (v : Value) (w' : World) (Fj : FP), (execOp a.eval o).run P w = .ok (.value v) w' ∧ Ext w w' (fun _ _ => 0) ∧ Rel P C A (fun b i => X b i + Fj b i) σ (a.put (some d) v) w' F ∧ PS P A w' v s Fj := by
  unfold pdSlot at hs
  split at hs
  · rename_i t ho
    split at hs
    · rename_i T hT
      split at hs
      · rename_i hzk
        injection hs with hs
        subst hs
        have hlay := hti _ _ hT
        obtain ⟨L, hL⟩ := zok_some T hzk
        obtain ⟨z, hz1, hz2⟩ := run_zeroValue (P := P) (w := w) hlay hL
        obtain ⟨r1, r2, r3⟩ := zc_ok (P := P) (w := w) (A := A) T hL hlay
        have hc : z.cells = L.toArray := by apply Array.ext'; simpa using hz2
        have h1 := h.alloc L.toArray t (0, 0)
        have hown := own_alloc w L.toArray t (0, 0) (.inr (Nat.le_refl _))
        have hll : L.length = T.sz := Rep.length T r1
        simp only [List.size_toArray, hll] at hown h1
        have hr1 := Rep.alloc h r1 (fun b i hp => by simp at hp) (ext_alloc w (.cells L.toArray t))
        refine ⟨.pointer (some ⟨w.heap.size, 0, none⟩), w.alloc (.cells L.toArray t), rng w.heap.size 0 T.sz, ?_, ext_alloc w _, h1.tmp hp _, w.heap.size, L, (fun _ _ => 0), rfl, hll, has_alloc w L.toArray t (0, 0) (fun j u hu => by simpa using hu) (Rep.one _ r1), fun j hj => hown.frozen hj, fun _ _ => Nat.le_refl _, hr1, hown⟩
        unfold execOp
        simp [ho, Instr.alloc, hz1, newVar, newRow, hc]
      · cases hs
    · cases hs
  · rename_i t n ps ho
    split at hs
    · rename_i e hT
      split at hs
      · rename_i hc
        injection hs with hs
        subst hs
        simp only [Bool.and_eq_true, Nat.beq_eq] at hc
        obtain ⟨⟨h1, h2⟩, hz⟩ := hc
        subst h1
        have hps : ps = #[] := Array.eq_empty_of_size_eq_zero h2
        subst hps
        have hl := hti _ _ hT
        simp only [layB, Bool.and_eq_true] at hl
        have h2 := hl.2
        split at h2
        · rename_i el hu
          simp only [Bool.and_eq_true, Nat.ble_eq] at h2
          obtain ⟨hsz, hel⟩ := h2
          obtain ⟨inf, i1, i2, i3, i4⟩ := infoOk_some (layB_info hel)
          have hrun : (execOp a.eval o).run P w = .ok (.value (.slice (some ⟨w.heap.size, 0, none⟩) 0 0)) (w.alloc (.cells #[] el)) := by
            simp [execOp, ho, Instr.buildSlice, run_underlying hu, Go.sizeOf, typeInfo, i1, Instr.fill, newRow, show Array.range 0 = #[] from rfl]
          have hA1 := h.alloc #[] el (0, 0)
          have hown := own_alloc w #[] el (0, 0) (.inr (Nat.le_refl _))
          refine ⟨_, _, fun b i => rng w.heap.size 0 0 b i + sumF 0 (fun _ _ _ => 0) b i, hrun, ext_alloc w _, ?_, ?_⟩
          · refine (hA1.less (fun b i => ?_)).tmp hp _
            simp [rng, sumF]
          · refine ⟨_, (mkV_one (.slc e) _ rfl).symm, ?_⟩
            simp only [Rep, hole, List.any_nil, Bool.false_eq_true, if_false, Md.own, if_true, Md.e]
            refine ⟨_, 0, rfl, Nat.le_refl _, Nat.zero_le _, (fun e => by cases e), fun ad had => ?_⟩
            injection had with had; subst had
            refine ⟨rfl, rfl, by simpa using hown, fun _ _ _ => 0, fun b i => by simp, fun i y hy => by cases hy⟩
        · cases h2
      · cases hs
    · cases hs
  · cases hs

/-- What stays from here on is told anew, also what floats. -/
theorem Rel.rebaseX (h : Rel P C A X σ a w F) : ∃ C' : Ctx, C'.w0 = w ∧ C'.A0 = A ∧ (∀ b i, A b i → C'.F0 b i = 0) ∧ Rel P C' A X σ a w F ∧ (∀ {A2 : Cells} {X2 : FP} {σ2 : St} {a2 : Act} {w2 : World} {F2 : Nat → FP}, Rel P C' A2 X2 σ2 a2 w2 F2 → Rel P C A2 X2 σ2 a2 w2 F2) := by
  refine ⟨⟨w, A, fun b i => X b i + sumF σ.n F b i, C.args⟩, rfl, rfl, fun b i ha => ?_, ?_, fun {A2 X2 σ2 a2 w2 F2} h2 => ?_⟩
  · show X b i + sumF σ.n F b i = 0
    rcases Nat.eq_zero_or_pos (X b i + sumF σ.n F b i) with h0 | h0
    · exact h0
    · exact absurd ha (h.dis b i h0)
  · exact { h with ext := Ext.refl _ _, own := fun b i hp => .inl hp, a0 := fun _ _ h => h, a1 := fun _ _ h => .inl h, lentP := h.lentP, lentS := h.lentS }
  · have hsz : C.w0.heap.size ≤ w.heap.size := h.ext.size
    refine { h2 with ext := h.ext.trans h2.ext (fun b i hb hz => ?_), own := fun b i hp => ?_, a0 := fun b i ha => h2.a0 b i (h.a0 b i ha), a1 := fun b i ha => ?_, lentP := h2.lentP, lentS := h2.lentS }
    · show X b i + sumF σ.n F b i = 0
      rcases Nat.eq_zero_or_pos (X b i + sumF σ.n F b i) with h0 | h0
      · exact h0
      · rcases h.own b i h0 with h1 | h1 <;> omega
    · rcases h2.own b i hp with h1 | h1
      · exact h.own b i h1
      · exact .inr (Nat.le_trans hsz h1)
    · rcases h2.a1 b i ha with h1 | h1 | h1
      · exact h.a1 b i h1
      · exact .inr (h.own b i h1)
      · exact .inr (.inr (Nat.le_trans hsz h1))

/-- What floats stays out of a step. -/
theorem Rel.frame (h : Rel P C A X σ a w F) : ∃ C1 : Ctx, Rel0 P C1 A σ a w F ∧ ∀ {A2 : Cells} {σ2 : St} {a2 : Act} {w2 : World} {F2 : Nat → FP}, Rel0 P C1 A2 σ2 a2 w2 F2 → Rel P C A2 X σ2 a2 w2 F2 ∧
    (∀ b i, A b i → A2 b i) ∧ (∀ b i, A b i → ∀ u, ce w b i = some u → ce w2 b i = some u) ∧ (∀ b n, OwnBlk w b n → OwnBlk w2 b n) ∧ (∀ b i, 1 ≤ X b i → (∀ u, ce w b i = some u → ce w2 b i = some u) ∧ w2.frozen? ⟨b, i, none⟩ = w.frozen? ⟨b, i, none⟩) := by
  have hX0 : ∀ b i, 1 ≤ X b i → sumF σ.n F b i = 0 := fun b i hp => by have := h.tot b i; omega
  have hXb : ∀ b i, 1 ≤ X b i → b < w.heap.size := fun b i hp => h.bnd b i (.inl (by omega))
  refine ⟨⟨w, A, sumF σ.n F, C.args⟩, ?_, fun {A2 σ2 a2 w2 F2} h2 => ⟨?_, h2.a0, fun b i ha u hu => ?_, h2.ext.blk, fun b i hp => ⟨fun u hu => h2.ext.cell b i (hXb b i hp) (hX0 b i hp) u hu, h2.ext.froz b i (hXb b i hp)⟩⟩⟩
  · exact { h with
      tot := fun b i => by have := h.tot b i; show 0 + sumF σ.n F b i ≤ 1; omega
      dis := fun b i hp => h.dis b i (by have hp : 1 ≤ 0 + sumF σ.n F b i := hp; omega)
      bnd := fun b i hp => h.bnd b i (hp.imp (fun hp => by have hp : 1 ≤ 0 + sumF σ.n F b i := hp; omega) id)
      ext := Ext.refl _ _
      own := fun b i hp => .inl (by have hp : 1 ≤ 0 + sumF σ.n F b i := hp; show 1 ≤ sumF σ.n F b i; omega)
      a0 := fun _ _ h => h, a1 := fun _ _ h => .inl h, lentP := h.lentP, lentS := h.lentS }
  · have hsz : C.w0.heap.size ≤ w.heap.size := h.ext.size
    have hx2 : ∀ b i, 1 ≤ X b i → sumF σ2.n F2 b i = 0 := fun b i hp => by
      rcases Nat.eq_zero_or_pos (sumF σ2.n F2 b i) with h0 | h0
      · exact h0
      · rcases h2.own b i (by show 1 ≤ 0 + sumF σ2.n F2 b i; omega) with h1 | h1
        · have h1 : 1 ≤ sumF σ.n F b i := h1
          have := hX0 b i hp; omega
        · have h1 : w.heap.size ≤ b := h1
          have := hXb b i hp; omega
    have hown : ∀ b i, 1 ≤ sumF σ.n F b i → 1 ≤ C.F0 b i ∨ C.w0.heap.size ≤ b := fun b i hp => h.own b i (by omega)
    refine { h2 with tot := fun b i => ?_, dis := fun b i hp => ?_, bnd := fun b i hp => ?_, ext := h.ext.trans h2.ext (fun b i hb hz => ?_), own := fun b i hp => ?_, a0 := fun b i ha => h2.a0 b i (h.a0 b i ha), a1 := fun b i ha => ?_, lentP := h2.lentP, lentS := h2.lentS }
    · have h1 : 0 + sumF σ2.n F2 b i ≤ 1 := h2.tot b i
      have := hx2 b i
      have := h.tot b i
      omega
    · by_cases hx : 1 ≤ X b i
      · intro ha
        rcases h2.a1 b i ha with h1 | h1 | h1
        · exact h.dis b i (by omega) h1
        · have h1 : 1 ≤ sumF σ.n F b i := h1
          have := hX0 b i hx; omega
        · have h1 : w.heap.size ≤ b := h1
          have := hXb b i hx; omega
      · exact h2.dis b i (by show 1 ≤ 0 + sumF σ2.n F2 b i; omega)
    · by_cases hx : 1 ≤ X b i
      · exact Nat.lt_of_lt_of_le (hXb b i hx) h2.ext.size
      · exact h2.bnd b i (hp.imp (fun hp => by show 1 ≤ 0 + sumF σ2.n F2 b i; omega) id)
    · show sumF σ.n F b i = 0
      rcases Nat.eq_zero_or_pos (sumF σ.n F b i) with h0 | h0
      · exact h0
      · rcases hown b i h0 with h1 | h1 <;> omega
    · by_cases hx : 1 ≤ X b i
      · exact h.own b i (by omega)
      · rcases h2.own b i (by show 1 ≤ 0 + sumF σ2.n F2 b i; omega) with h1 | h1
        · exact hown b i h1
        · exact .inr (Nat.le_trans hsz h1)
    · rcases h2.a1 b i ha with h1 | h1 | h1
      · exact h.a1 b i h1
      · exact .inr (hown b i h1)
      · exact .inr (.inr (Nat.le_trans hsz h1))
  · refine h2.ext.cell b i (ce_lt hu) ?_ u hu
    show sumF σ.n F b i = 0
    rcases Nat.eq_zero_or_pos (sumF σ.n F b i) with h0 | h0
    · exact h0
    · exact absurd ha (h.dis b i (by omega))
end
end OT
