/- Operations, third part: elements and pieces. -/
import Derived.Test.YtkimdiobckckiaaOTp
set_option linter.unusedVariables false
set_option linter.unusedSimpArgs false
namespace OT
open Go

section
variable {P : Program} {C : Ctx} {A : Cells} {X : FP} {σ : St} {a : Act} {w : World} {F : Nat → FP} {R : Type} {x : R} {Q : Exit → Act → World → Prop} {o : Oper} {E : Env}

theorem inK_some {n : Int} {len : Nat} {K : Nat → Option R} (h : inK n len K = some x) : 0 ≤ n ∧ n < (len : Int) ∧ K n.toNat = some x := by
  unfold inK at h
  split at h
  · rename_i hc; exact ⟨hc.1, hc.2, h⟩
  · cases h
theorem bind_some {α : Type} {o : Option α} {K : α → Option R} (h : o.bind K = some x) : ∃ y, o = some y ∧ K y = some x := by
  cases o with
  | none => cases h
  | some y => exact ⟨y, rfl, h⟩

theorem lay_slc {e : Ty} {i : TypeId} (h : layB P (.slc e) (.inl i) = true) : ∃ el, P.underlying i = some (.slice el) ∧ 1 ≤ e.sz ∧ layB P e (.inl el) = true := by
  simp only [layB, Bool.and_eq_true] at h
  have h2 := h.2
  split at h2
  · rename_i el hu; simp only [Bool.and_eq_true, Nat.ble_eq] at h2; exact ⟨el, hu, h2.1, h2.2⟩
  · cases h2
theorem lay_arr {n : Nat} {e : Ty} {i : TypeId} (h : layB P (.arr n e) (.inl i) = true) : ∃ el, P.underlying i = some (.array n el) ∧ 1 ≤ e.sz ∧ layB P e (.inl el) = true := by
  simp only [layB, Bool.and_eq_true] at h
  have h2 := h.2
  split at h2
  · rename_i n' el hu; simp only [Bool.and_eq_true, Nat.ble_eq, Nat.beq_eq] at h2; rw [h2.1.1]; exact ⟨el, hu, h2.1.2, h2.2⟩
  · cases h2
theorem lay_str {i : TypeId} (h : layB P .str (.inl i) = true) : P.underlying i = some .string := by
  simp only [layB, Bool.and_eq_true] at h
  have h2 := h.2
  split at h2
  · assumption
  · cases h2
theorem lay_int {k : IntKind} {i : TypeId} (h : layB P (.int k) (.inl i) = true) : P.underlying i = some (.int k) := by
  simp only [layB, Bool.and_eq_true] at h
  have h2 := h.2
  split at h2
  · rename_i k' hu; simp only [decide_eq_true_eq] at h2; rw [h2]; exact hu
  · cases h2

theorem nidx_append (p q : Path) : nidx (p ++ q) = nidx p + nidx q := by
  induction p with
  | nil => simp [nidx]
  | cons s p ih => cases s <;> simp only [List.cons_append, nidx, ih] <;> omega

/-- A pointer to a place that there is. -/
theorem ptrRel_new (h : Rel P C A X σ a w F) {r : Nat} {p : Path} {pl : Pl} {b off : Nat} (hp : place σ a w r p = some pl) (had : pl.ad = some (b, off)) : PtrRel σ a w (.pointer (some ⟨b, off, none⟩)) r p (snapPtr σ r p) := by
  have h5 := h.vlen r
  refine ⟨?_, fun _ => ⟨pl, b, off, hp, had, rfl, by unfold snapPtr; rw [List.length_take, h5]; omega⟩⟩
  unfold snapPtr
  intro j y hj; rw [List.getElem?_take] at hj; split at hj; exact ⟨y, hj, Nat.le_refl _⟩; cases hj

theorem take_indexAddr (h : Rel0 P C A σ a w F) (hti : ∀ i T, E.TI i = some T → layB P T (.inl i) = true) {t : Nat} {y z : Operand} (ho : o.op = .indexAddr t y z) (hok : opdOk P y = true ∧ opdOk P z = true) {K : St → Option R}
    (hk : indexAddrK E σ t (opd σ y) (opd σ z) o.dst K = some x) : Tk P o a w (Nx P C K x) := by
  unfold indexAddrK at hk
  obtain ⟨T, hT, hk⟩ := tiK_some hk
  have hlay := hti _ _ hT
  rcases opd_ok h hok.2 with hz | ⟨xs, e⟩
  rotate_left
  · rw [e] at hk; cases hk
  obtain ⟨kz, n, hzv, hk⟩ := intK_some hz hk
  -- the machine's way
  have runS : ∀ e ad len cap, T = .slc e → a.eval y = .slice (some ad) len cap → ad.spot = none → 0 ≤ n → n < (len : Int) → ∀ w', Same o w w' → (execOp a.eval o).run P w' = .ok (.value (.pointer (some ⟨ad.block, ad.off + n.toNat * e.sz, none⟩))) w' := fun e ad len cap hTe hy hsp h0 h1 w' _ => by
    subst hTe
    obtain ⟨el, hu, _, hle⟩ := lay_slc hlay
    obtain ⟨b, off, sp⟩ := ad
    simp only at hsp; subst hsp
    have hsz := run_sizeOf (P := P) (w := w') hle
    simp [execOp, ho, hy, hzv, Instr.indexAt, asIntOf, run_underlying hu, h0, h1, hsz, addr_add]
  have runA : ∀ m e b off, T = .arr m e → a.eval y = .pointer (some ⟨b, off, none⟩) → 0 ≤ n → n < (m : Int) → ∀ w', Same o w w' → (execOp a.eval o).run P w' = .ok (.value (.pointer (some ⟨b, off + n.toNat * e.sz, none⟩))) w' := fun m e b off hTe hy h0 h1 w' _ => by
    subst hTe
    obtain ⟨el, hu, _, hle⟩ := lay_arr hlay
    have hsz := run_sizeOf (P := P) (w := w') hle
    simp [execOp, ho, hy, hzv, Instr.indexAt, asIntOf, run_underlying hu, h0, h1, hsz, addr_add, Instr.sureAddr]
  -- an element of what nobody turns
  have roS : ∀ (e : Ty) (v : List e.den) (tv : Value) (yv : e.den), T = .slc e → a.eval y = tv → Ro P w A (.slc e) v [tv] → 0 ≤ n → v[n.toNat]? = some yv → K (σ.putD o.dst (.cp e yv)) = some x → Tk P o a w (Nx P C K x) := fun e v tv yv hTe hy hro h0 hyv hk => by
    obtain ⟨xa, cap, h1, h2, h3, h4⟩ := hro
    simp only [List.cons.injEq, and_true] at h1
    subst h1
    have hlt := (List.getElem?_eq_some_iff.1 hyv).1
    cases xa with
    | none => have := h3 rfl; omega
    | some ad =>
      obtain ⟨g1, g2⟩ := h4 ad rfl
      obtain ⟨L, l1, l2, l3⟩ := g2 _ _ hyv
      exact tk_val (runS e ad _ cap hTe hy (g1 (by omega)) h0 (by omega)) (fin_flat h hk ⟨_, rfl, rfl, L, l1, l2, l3⟩ (fun _ _ _ _ e => by cases e))
  rcases opd_ok h hok.1 with hs | ⟨xs, e⟩
  rotate_left
  · rw [e] at hk; cases hk
  split at hk
  · rename_i e v hv
    rw [hv] at hs
    split at hk
    · rename_i hTe
      split at hk
      · rename_i h0
        obtain ⟨yv, hyv, hk⟩ := bind_some hk
        obtain ⟨cs, h1, h2⟩ := hs
        have hl := Ro.length _ h2
        match cs, hl with
        | [tv], _ => exact roS e v tv yv hTe (by rw [h1, mkV_one _ _ rfl]) h2 h0 hyv hk
      · cases hk
    · cases hk
  · rename_i m e v hv
    rw [hv] at hs
    split at hk
    · rename_i hTe
      split at hk
      · rename_i h0
        obtain ⟨yv, hyv, hk⟩ := bind_some hk
        obtain ⟨⟨b, off, sp⟩, h1, h2, L, h3, h4, h5⟩ := hs
        simp only [List.cons.injEq, and_true] at h1
        simp only at h2; subst h2
        obtain ⟨q1, q2, q3, q4⟩ := h5
        have hlt : n.toNat < m := q2 ▸ (List.getElem?_eq_some_iff.1 hyv).1
        have hro := q4 _ _ hyv
        refine tk_val (runA m e b off hTe h1 h0 (by omega)) (fin_flat h hk ⟨_, rfl, rfl, _, Ro.length _ hro, fun k u hu => ?_, hro⟩ (fun _ _ _ _ e => by cases e))
        rw [List.getElem?_take] at hu
        split at hu
        · rw [List.getElem?_drop] at hu
          have := h4 _ u hu
          simp only [← Nat.add_assoc] at this
          exact this
        · cases hu
      · cases hk
    · cases hk
  · rename_i r p snap hv
    rw [hv] at hs
    split at hk
    · rename_i hsn
      obtain ⟨hr, t', m', H', v', cs', ad', F', h1, h2, h3, h4, h5, h6⟩ := at_ok h hk
      obtain ⟨pl, g1, g2, g3⟩ := hs.2 hsn
      rw [h3] at g1
      injection g1 with g1
      subst g1
      simp only at g2
      split at h1
      · cases h1
      · rename_i hH
        have hH : hole H' = false := Bool.eq_false_iff.2 hH
        split at h1
        · rename_i hTe
          split at h1
          · rename_i e v''
            have hl := Rep.length _ h4
            split at h1
            · rename_i hown
              obtain ⟨i0, i1, h1⟩ := inK_some h1
              have hrep := h4
              simp only [Rep, hH, Bool.false_eq_true, if_false, hown, if_true] at hrep
              obtain ⟨xa, cap, rfl, q2, q3, q4, q5⟩ := hrep
              cases xa with
              | none => have := q4 rfl; omega
              | some ad0 =>
                obtain ⟨r1, r2, r3, Fi, r4, r5⟩ := q5 ad0 rfl
                rw [mkV_one _ _ rfl] at g2
                have hlt : n.toNat < List.length v'' := by omega
                refine tk_val (runS e ad0 _ cap hTe.symm g2 r2 i0 i1) (fin_flat h h1 (ptrRel_new (pl := ⟨e, H'.filterMap (stripI n.toNat), rd w ad0.block (ad0.off + n.toNat * e.sz) e.sz, some (ad0.block, ad0.off + n.toNat * e.sz)⟩) h ?_ rfl) (fun _ _ _ _ e => by cases e))
                rw [place_append, h3]
                simp only [Option.bind_some, plc, hH, Bool.false_eq_true, if_false, hlt, if_true]
            · rename_i hown
              split at h1
              · rename_i h0
                obtain ⟨yv, hyv, h1⟩ := bind_some h1
                have hrep := h4
                simp only [Rep, hH, Bool.false_eq_true, if_false, hown] at hrep
                match cs', hl with
                | [tv], _ =>
                  rw [mkV_one _ _ rfl] at g2
                  exact roS e v'' tv yv hTe.symm g2 hrep.2.2 h0 hyv h1
              · cases h1
          · cases h1
        · cases h1
    · cases hk
  · rename_i r p snap lo hi hv
    rw [hv] at hs
    split at hk
    · rename_i hsn
      obtain ⟨hr, t', m', H', v', cs', ad', F', h1, h2, h3, h4, h5, h6⟩ := at_ok h hk
      obtain ⟨pl, e, xa, len, cap, xa', cap', g1, g2, g3, g4, g5, g6, g7, g7', g8, g9, g10⟩ := hs.2 hsn
      rw [h3] at g1
      injection g1 with g1
      subst g1
      simp only at g2 g3
      subst g2; subst g3
      split at h1
      · cases h1
      · rename_i hH
        have hH : hole H' = false := Bool.eq_false_iff.2 hH
        split at h1
        · rename_i hTe
          obtain ⟨i0, i1, h1⟩ := inK_some h1
          have hadr : ∃ ad0, xa = some ad0 ∧ ad0.spot = none := by
            simp only [Rep, hH, Bool.false_eq_true, if_false] at h4
            cases xa with
            | none =>
              split at h4
              · obtain ⟨xa2, cap2, q1, q2, q3, q4, _⟩ := h4
                simp only [List.cons.injEq, Value.slice.injEq, and_true] at q1
                have := q4 q1.1.symm; omega
              · obtain ⟨_, _, xa2, cap2, q1, q2, q3, _⟩ := h4
                simp only [List.cons.injEq, Value.slice.injEq, and_true] at q1
                have := q3 q1.1.symm; omega
            | some ad0 =>
              refine ⟨ad0, rfl, ?_⟩
              split at h4
              · obtain ⟨xa2, cap2, q1, q2, q3, q4, q5⟩ := h4
                simp only [List.cons.injEq, Value.slice.injEq, and_true] at q1
                exact (q5 ad0 q1.1.symm).2.1
              · obtain ⟨_, _, xa2, cap2, q1, q2, q3, q4⟩ := h4
                simp only [List.cons.injEq, Value.slice.injEq, and_true] at q1
                exact (q4 ad0 q1.1.symm).1 (by have := q1.2.1; have := q1.2.2; omega)
          obtain ⟨ad0, rfl, hsp⟩ := hadr
          obtain ⟨ad1, e1, e2, e3, e4⟩ := g9 ad0 rfl
          subst e1
          have e4 := e4 (by omega)
          refine tk_val (runS e ad1 _ cap' hTe.symm g6 (e2.trans hsp) i0 i1) ?_
          have hval : (⟨ad1.block, ad1.off + n.toNat * e.sz, none⟩ : Addr) = ⟨ad0.block, ad0.off + (lo + n.toNat) * e.sz, none⟩ := by
            rw [e3, e4, Nat.add_mul, Nat.add_assoc]
          rw [hval]
          have hlt : lo + n.toNat < len := by omega
          refine fin_flat h h1 (ptrRel_new (pl := ⟨e, H'.filterMap (stripI (lo + n.toNat)), rd w ad0.block (ad0.off + (lo + n.toNat) * e.sz) e.sz, some (ad0.block, ad0.off + (lo + n.toNat) * e.sz)⟩) h ?_ rfl) (fun _ _ _ _ e => by cases e)
          rw [place_append, h3]
          simp only [Option.bind_some, plc, hH, Bool.false_eq_true, if_false, hlt, if_true]
        · cases h1
    · cases hk
  · rename_i r p snap hv
    rw [hv] at hs
    split at hk
    · rename_i hsn
      obtain ⟨hr, t', m', H', v', cs', ad', F', h1, h2, h3, h4, h5, h6⟩ := at_ok h hk
      obtain ⟨pl, b, off, g1, g2, g3, g4⟩ := hs.2 hsn
      rw [h3] at g1
      injection g1 with g1
      subst g1
      simp only at g2
      subst g2
      split at h1
      · rename_i hTe
        split at h1
        · rename_i m e v''
          obtain ⟨i0, i1, h1⟩ := inK_some h1
          obtain ⟨hH, hf, hl, hlen, hro⟩ := h4
          subst hH
          have hlt : n.toNat < m := by omega
          refine tk_val (runA m e b off hTe.symm g3 i0 (by omega)) (fin_flat h h1 ⟨hs.1, fun _ => ⟨⟨e, [], (cs'.drop (n.toNat * e.sz)).take e.sz, some (b, off + n.toNat * e.sz)⟩, b, off + n.toNat * e.sz, ?_, rfl, rfl, ?_⟩⟩ (fun _ _ _ _ e => by cases e))
          · rw [place_append, h3]
            simp only [Option.bind_some, plc, List.isEmpty_nil, if_true, hlt, shiftA, Option.map_some]
          · rw [nidx_append]; exact g4
        · cases h1
      · cases h1
    · cases hk
  · cases hk
end
end OT
