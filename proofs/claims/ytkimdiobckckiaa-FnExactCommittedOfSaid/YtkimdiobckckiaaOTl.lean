/- Operands: read and used. The world goes on. -/
import Derived.Test.YtkimdiobckckiaaOTk
set_option linter.unusedVariables false
set_option linter.unusedSimpArgs false
namespace OT
open Go

section
variable {P : Program} {C : Ctx} {A : Cells} {X : FP} {σ : St} {a : Act} {w : World} {F : Nat → FP} {R : Type} {x : R}

/-- New blocks come. -/
theorem Rel.grow (h : Rel P C A X σ a w F) {w1 : World} (hw : Ext w w1 (fun _ _ => 0)) {A1 : Cells} {X1 : FP} (hA : ∀ b i, A b i → A1 b i)
    (hA1 : ∀ b i, A1 b i → A b i ∨ (w.heap.size ≤ b ∧ b < w1.heap.size ∧ X1 b i = 0)) (hX : ∀ b i, X1 b i ≤ X b i ∨ (w.heap.size ≤ b ∧ b < w1.heap.size ∧ X1 b i ≤ 1)) : Rel P C A1 X1 σ a w1 F := by
  have hcA : ∀ b i, A b i → ∀ u, ce w b i = some u → ce w1 b i = some u := fun b i ha u hu => hw.cell b i (h.bnd b i (.inr ha)) rfl u hu
  have hb0 : ∀ b i, w.heap.size ≤ b → sumF σ.n F b i = 0 := fun b i hb => by
    rcases Nat.eq_zero_or_pos (sumF σ.n F b i) with h0 | h0
    · exact h0
    · have := h.bnd b i (.inl (by omega)); omega
  have hcF : ∀ j, j < σ.n → ∀ b i, 1 ≤ F j b i → (∀ u, ce w b i = some u → ce w1 b i = some u) ∧ w1.frozen? ⟨b, i, none⟩ = w.frozen? ⟨b, i, none⟩ := fun j hj b i hp => by
    have hb := h.bnd b i (.inl (by have := le_sumF F hj b i; omega))
    exact ⟨fun u hu => hw.cell b i hb rfl u hu, hw.froz b i hb⟩
  have hpres : Pres σ a w σ a w1 := fun r p snap hb => ⟨hb, fun hok => ⟨hok, fun hl pl hpl => ⟨pl.H, pl.cs, by
    have hlt := place_lt hpl
    exact place_frame (h.slots r hlt) rfl rfl hcA (fun b i hp => (hcF r hlt b i hp).1) hpl, fun _ => rfl⟩⟩⟩
  refine ⟨h.size, h.defers, fun i hi => SlotRel.pres hpres hA hcA hw.blk (hcF i hi) (h.slots i hi), fun d r p snap hm => RefRel.pres hpres (h.gh d r p snap hm), fun b i => ?_, fun b i hp ha => ?_, fun b i hp => ?_,
    h.vlen, h.ext.trans hw (fun _ _ _ _ => rfl), fun b i hp => ?_, fun b i ha => hA b i (h.a0 b i ha), fun b i ha => ?_, h.lentP, fun r t m H v hg hl => ?_, fun j k hm R' hR' => ?_⟩
  · have h1 := h.tot b i
    rcases hX b i with h2 | ⟨h2, h3, h4⟩
    · omega
    · have := hb0 b i h2; omega
  · rcases hA1 b i ha with ha | ⟨h1, h2, h3⟩
    · have hlt := h.bnd b i (.inr ha)
      rcases hX b i with h2 | ⟨h2, _⟩
      · exact h.dis b i (by omega) ha
      · omega
    · have := hb0 b i h1; omega
  · rcases hp with hp | ha
    · rcases hX b i with h2 | ⟨h2, h3, _⟩
      · exact Nat.lt_of_lt_of_le (h.bnd b i (.inl (by omega))) hw.size
      · exact h3
    · rcases hA1 b i ha with ha | ⟨h1, h2, h3⟩
      · exact Nat.lt_of_lt_of_le (h.bnd b i (.inr ha)) hw.size
      · exact h2
  · rcases hX b i with h2 | ⟨h2, _⟩
    · exact h.own b i (by omega)
    · exact .inr (Nat.le_trans h.ext.size h2)
  · rcases hA1 b i ha with ha | ⟨h1, _⟩
    · exact h.a1 b i ha
    · exact .inr (.inr (Nat.le_trans h.ext.size h1))
  · obtain ⟨b, h1, h2⟩ := h.whole r t m H v hg hl
    exact ⟨b, h1, hw.blk _ _ h2⟩
  · rcases Nat.lt_or_ge j σ.n with hj | hj
    · have hsl := h.slots j hj
      cases hR0 : rootPl w (tmp a j) (σ.get j) with
      | none => exfalso; cases hg : σ.get j <;> rw [hg] at hR0 hR' <;> simp only [rootPl] at hR0 hR' <;> first | (cases hR'; done) | (cases hR0; done) | (split at hR0 <;> simp_all)
      | some R0 =>
        rw [rootPl_frame hsl (fun b i hp => (hcF j hj b i hp).1) hR0] at hR'
        injection hR' with hR'
        subst hR'
        exact h.lentS j k hm _ hR0
    · rw [get_out (Nat.not_lt.2 hj)] at hR'; cases hR'

def opdOk (P : Program) : Operand → Bool
  | .func f => (P.funcs[f]?).any (·.nfree == 0)
  | _ => true

/-- What an operand holds that is no tuple. -/
theorem opd_ok (h : Rel P C A X σ a w F) {o : Operand} (ho : opdOk P o = true) : SlotRel P A σ a w (a.eval o) (opd σ o) (fun _ _ => 0) ∨ ∃ xs, opd σ o = .tup xs := by
  cases o with
  | tmp i =>
    show SlotRel P A σ a w (tmp a i) _ _ ∨ _
    rcases Nat.lt_or_ge i σ.n with hi | hi
    · have hs := h.slots i hi
      simp only [opd]
      cases hg : σ.get i with
      | own t m H v =>
        rw [hg] at hs
        obtain ⟨cs, h1, h2⟩ := hs
        left
        have hpl : place σ a w i [] = some ⟨t, H, cs, none⟩ := by
          unfold place; rw [hg]; simp only [rootPl, h1, mkV_cells (Rep.length t h2) (Rep.one t h2), Option.bind_some, plc]
        have h5 := h.vlen i
        refine ⟨?_, fun _ => ⟨_, hpl, h1, ?_⟩⟩
        · unfold snapRef
          split
          · intro j y hj; rw [List.getElem?_take] at hj; split at hj; exact ⟨y, hj, Nat.le_refl _⟩; cases hj
          · intro j y hj; rw [List.getElem?_take] at hj; split at hj; exact ⟨y, hj, Nat.le_refl _⟩; cases hj
          · exact Below.refl _
        · unfold snapRef
          split
          · left; simp [isSlc, nidx, h5]
          · left; simp [isSlc, nidx, h5]
          · right; exact h5
      | box t m H v =>
        rw [hg] at hs
        obtain ⟨b, o, L, F1, h1, h2, h3, h4, h5, h6⟩ := hs
        left
        have h5' := h.vlen i
        refine ⟨?_, fun _ => ⟨⟨t, H, L, some (b, o)⟩, b, o, ?_, rfl, h1, by simp [snapPtr, nidx, h5']⟩⟩
        · unfold snapPtr
          intro j y hj; rw [List.getElem?_take] at hj; split at hj; exact ⟨y, hj, Nat.le_refl _⟩; cases hj
        · unfold place; rw [hg, h1]; simp only [rootPl, rd_of_has h3 h2, Option.bind_some, plc]
      | tup xs => exact .inr ⟨xs, rfl⟩
      | dead => exact .inl trivial
      | nils => rw [hg] at hs; exact .inl hs
      | val t v => rw [hg] at hs; exact .inl hs
      | cp t v => rw [hg] at hs; exact .inl hs
      | ref r p snap => rw [hg] at hs; exact .inl hs
      | ptr r p snap => rw [hg] at hs; exact .inl hs
      | sub r p snap lo hi => rw [hg] at hs; exact .inl hs
    · simp only [opd, get_out (Nat.not_lt.2 hi)]; exact .inl trivial
  | const v =>
    left
    show SlotRel P A σ a w v (constSlot v) _
    unfold constSlot
    split
    · split
      · rename_i hn; exact ⟨[_], rfl, by simp only [Ro, toI]; rw [hn]⟩
      · trivial
    · exact ⟨[_], rfl, rfl⟩
    · exact ⟨[_], rfl, rfl⟩
    · exact ⟨[_], rfl, rfl⟩
    · exact ⟨[_], rfl, rfl⟩
    · exact ⟨[_], rfl, rfl⟩
    · exact ⟨[_], rfl, by simp [Ro]⟩
    · rfl
    · trivial
  | func f =>
    left
    simp only [opdOk, Option.any_eq_true, beq_iff_eq] at ho
    obtain ⟨fn, h1, h2⟩ := ho
    exact ⟨[_], rfl, #[], rfl, fn, h1, .inl ⟨h2, rfl⟩⟩
  | global g => exact .inl trivial

/-- What nobody turns while this state stays. -/
def AO (A : Cells) (σ : St) (F : Nat → FP) : Cells := fun b i => A b i ∨ 1 ≤ sumF σ.n F b i

theorem mkV_one (t : Ty) (y : Value) (h : isAgg t = false) : mkV t [y] = y := by simp [mkV, h]

/-- A piece of a slice. -/
theorem Ro.piece {e : Ty} {v : List e.den} {xa : Option Addr} {n cap lo hi cap' : Nat} {xa' : Option Addr} (h : Ro P w A (.slc e) v [.slice xa n cap]) (h1 : lo ≤ hi) (h2 : hi ≤ n) (h3 : cap' + lo = cap) (h4 : xa = none → xa' = none)
    (h5 : ∀ ad, xa = some ad → ∃ ad', xa' = some ad' ∧ ad'.spot = ad.spot ∧ ad'.block = ad.block ∧ (lo < hi → ad'.off = ad.off + lo * e.sz)) :
    Ro P w A (.slc e) ((v.take hi).drop lo) [.slice xa' (hi - lo) cap'] := by
  obtain ⟨a0, cap0, g1, g2, g3, g4⟩ := h
  simp only [List.cons.injEq, Value.slice.injEq, and_true] at g1
  obtain ⟨rfl, rfl, rfl⟩ := g1
  have hlen : List.length ((v.take hi).drop lo) = hi - lo := by simp; omega
  refine ⟨xa', cap', by rw [hlen], by rw [hlen]; omega, fun hn => ?_, fun ad' had' => ?_⟩
  · rw [hlen]
    cases hxa : xa with
    | none => have := g3 hxa; omega
    | some ad => obtain ⟨ad', e1, _⟩ := h5 ad hxa; rw [hn] at e1; cases e1
  · cases hxa : xa with
    | none => rw [h4 hxa] at had'; cases had'
    | some ad =>
      obtain ⟨ad1, e1, e2, e3, e4⟩ := h5 ad hxa
      rw [had'] at e1
      injection e1 with e1
      subst e1
      obtain ⟨f1, f2⟩ := g4 ad hxa
      refine ⟨fun hp => e2.trans (f1 (by omega)), fun i y hy => ?_⟩
      have hi' : i < hi - lo := by have := (List.getElem?_eq_some_iff.1 hy).1; omega
      rw [List.getElem?_drop, List.getElem?_take] at hy
      split at hy
      · obtain ⟨L, l1, l2, l3⟩ := f2 _ _ hy
        refine ⟨L, l1, fun j u hu => ?_, l3⟩
        rw [e3, e4 (by omega)]
        have := l2 j u hu
        rw [Nat.add_mul, ← Nat.add_assoc ad.off] at this
        exact this
      · cases hy

/-- What nobody turns while these roots stay. -/
def AR (A : Cells) (F : Nat → FP) (rs : List Nat) : Cells := fun b i => A b i ∨ ∃ r ∈ rs, 1 ≤ F r b i

/-- What is read from an operand. -/
theorem read_root (h : Rel P C A X σ a w F) {s : Slot} {tv : Value} {G : FP} (hs : SlotRel P A σ a w tv s G) {t : Ty} {K : t.den → Option R} (hk : readK σ s t K = some x) :
    ∃ (v : t.den) (cs : List Value), K v = some x ∧ tv = mkV t cs ∧ Ro P w (AR A F (slotRoot s)) t v cs := by
  have hAO : ∀ b i, A b i → AR A F (slotRoot s) b i := fun b i ha => .inl ha
  have hsame : ∀ b i, A b i → ∀ u, ce w b i = some u → ce w b i = some u := fun _ _ _ _ h => h
  cases s with
  | val t' v =>
    obtain ⟨e, hk⟩ := castK_some hk; subst e
    obtain ⟨cs, h1, h2⟩ := hs
    exact ⟨v, cs, hk, h1, Ro.mono hsame hAO _ h2⟩
  | cp t' v =>
    obtain ⟨e, hk⟩ := castK_some hk; subst e
    exact ⟨v, [tv], hk, (mkV_one _ _ rfl).symm, Ro.mono hsame hAO _ hs⟩
  | nils =>
    simp only [readK] at hk
    split at hk
    · rename_i t e
      have hs : tv = .slice none 0 0 := hs
      subst hs
      exact ⟨[], _, hk, (mkV_one _ _ rfl).symm, none, 0, rfl, Nat.le_refl _, fun _ => rfl, fun ad had => by cases had⟩
    · cases hk
  | ref r p snap =>
    simp only [readK] at hk
    split at hk
    · rename_i hok
      obtain ⟨hr, t', m', H', v', cs', ad', F', h1, h2, h3, h4, h5, h6⟩ := at_ok h hk
      obtain ⟨pl, g1, g2, g3⟩ := hs.2 hok
      rw [h3] at g1
      injection g1 with g1
      subst g1
      split at h1
      · rename_i hH
        have hH := List.isEmpty_iff.1 hH; subst hH
        obtain ⟨e, h1⟩ := castK_some h1; subst e
        exact ⟨v', cs', h1, g2, Rep.toRo hAO _ h4 (fun b i hp => .inr ⟨r, List.mem_singleton.2 rfl, by have := h5 b i; omega⟩)⟩
      · cases h1
    · cases hk
  | sub r p snap lo hi =>
    simp only [readK] at hk
    split at hk
    · rename_i hok
      obtain ⟨hr, t', m', H', v', cs', ad', F', h1, h2, h3, h4, h5, h6⟩ := at_ok h hk
      obtain ⟨pl, e, xa, n, cap, xa', cap', g1, g2, g3, g4, g5, g6, g7, g7', g8, g9, g10⟩ := hs.2 hok
      rw [h3] at g1
      injection g1 with g1
      subst g1
      simp only at g2 g3
      subst g2; subst g3
      split at h1
      · rename_i hH
        have hH := List.isEmpty_iff.1 hH; subst hH
        obtain ⟨e', h1⟩ := castK_some h1; subst e'
        exact ⟨_, _, h1, by rw [mkV_one _ _ rfl]; exact g6, Ro.piece (Rep.toRo hAO _ h4 (fun b i hp => .inr ⟨r, List.mem_singleton.2 rfl, by have := h5 b i; omega⟩)) g4 g5 g7 g8 g9⟩
      · cases h1
    · cases hk
  | ptr r p snap =>
    simp only [readK] at hk
    split at hk
    · rename_i hok
      obtain ⟨hr, t', m', H', v', cs', ad', F', h1, h2, h3, h4, h5, h6⟩ := at_ok h hk
      obtain ⟨pl, b, o, g1, g2, g3, g4⟩ := hs.2 hok
      rw [h3] at g1
      injection g1 with g1
      subst g1
      split at h1
      · rename_i hH
        have hH := List.isEmpty_iff.1 hH; subst hH
        obtain ⟨e', h1⟩ := castK_some h1; subst e'
        simp only at g2
        subst g2
        refine ⟨v', [tv], h1, (mkV_one _ _ rfl).symm, ⟨b, o, none⟩, by rw [g3], rfl, cs', Rep.length _ h4, fun j u hu => ⟨h6 b o rfl j u hu, ?_⟩,
          Rep.toRo hAO _ h4 (fun b i hp => .inr ⟨r, List.mem_singleton.2 rfl, by have := h5 b i; omega⟩)⟩
        have hj : j < t'.sz := Rep.length _ h4 ▸ (List.getElem?_eq_some_iff.1 hu).1
        unfold place at h3
        cases hR : rootPl w (tmp a r) (σ.get r) with
        | none => rw [hR] at h3; cases h3
        | some R0 =>
          rw [hR] at h3
          obtain ⟨m0, v0, F1, q1, q2, q3, _⟩ := rootPl_rep (h.slots r hr) hR
          exact plc_cells hAO p R0.t q1 (fun b i hp => .inr ⟨r, List.mem_singleton.2 rfl, by have := q2 b i; omega⟩) (fun b' o' e' j hj => .inr ⟨r, List.mem_singleton.2 rfl, by
            have := (q3 b' o' e').2.1 b' (o' + j)
            simp [rng, hj] at *; omega⟩) h3 b o rfl j hj
      · cases h1
    · cases hk
  | _ => simp [readK] at hk

theorem slot_root_lt (h : Rel P C A X σ a w F) {s : Slot} {t : Ty} {K : t.den → Option R} (hk : readK σ s t K = some x) : ∀ r ∈ slotRoot s, r < σ.n := by
  intro r hr
  cases s <;> simp only [slotRoot, List.mem_singleton, List.not_mem_nil] at hr
  all_goals
    subst hr
    simp only [readK] at hk
    split at hk
    · exact (at_ok h hk).1
    · cases hk

theorem read_ok (h : Rel P C A X σ a w F) {s : Slot} {tv : Value} {G : FP} (hs : SlotRel P A σ a w tv s G) {t : Ty} {K : t.den → Option R} (hk : readK σ s t K = some x) :
    ∃ (v : t.den) (cs : List Value), K v = some x ∧ tv = mkV t cs ∧ Ro P w (AO A σ F) t v cs := by
  obtain ⟨v, cs, h1, h2, h3⟩ := read_root h hs hk
  refine ⟨v, cs, h1, h2, Ro.mono (fun _ _ _ _ h => h) (fun b i ha => ?_) t h3⟩
  rcases ha with ha | ⟨r, hr, hp⟩
  · exact .inl ha
  · have := le_sumF F (slot_root_lt h hk r hr) b i
    exact .inr (by omega)
end
end OT
