/- Operations, ninth part: tuples, boxes. -/
import Derived.Test.YtkimdiobckckiaaOTv
set_option linter.unusedVariables false
set_option linter.unusedSimpArgs false
namespace OT
open Go

section
variable {P : Program} {C : Ctx} {A : Cells} {X : FP} {σ : St} {a : Act} {w : World} {F : Nat → FP} {R : Type} {x : R} {Q : Exit → Act → World → Prop} {o : Oper} {E : Env}

theorem take_extract (h : Rel0 P C A σ a w F) {i j : Nat} (ho : o.op = .extract (.tmp i) j) {K : St → Option R}
    (hk : (match σ.get i with
      | .tup xs => match xs[j]? with
        | some x => if x.t = .unit then none else K ((σ.put i (.tup (xs.set j ⟨.unit, .leaf, ()⟩))).putD o.dst (laid x.t x.m x.v))
        | none => none
      | _ => none) = some x) : Tk P o a w (Nx P C K x) := by
  split at hk
  · rename_i xs hg
    split at hk
    · rename_i y hy
      split at hk
      · cases hk
      · rename_i hnu
        have hi : i < σ.n := by
          rcases Nat.lt_or_ge i σ.n with hi | hi
          · exact hi
          · rw [get_out (Nat.not_lt.2 hi)] at hg; cases hg
        have hs := h.slots i hi
        rw [hg] at hs
        obtain ⟨vs, Fi, h1, h2, h3⟩ := hs
        obtain ⟨v, h4, h5⟩ := h3 j y hy
        rcases h5 with h5 | ⟨cs, h6, h7⟩
        · exact absurd h5 hnu
        have hj := (List.getElem?_eq_some_iff.1 hy).1
        have hput := h.put hi (s := .tup (xs.set j ⟨.unit, .leaf, ()⟩)) (v := tmp a i) (Fd := sumF xs.length (updF Fi j fun _ _ => 0)) (X' := Fi j)
          ⟨vs, updF Fi j fun _ _ => 0, h1, fun b k => by rw [List.length_set]; exact Nat.le_refl _, fun k y' hy' => by
            rw [List.getElem?_set] at hy'
            split at hy'
            · rename_i e; subst e
              injection hy' with hy'; subst hy'; exact ⟨v, h4, .inl rfl⟩
            · rename_i hne
              obtain ⟨v', g1, g2⟩ := h3 k y' hy'
              refine ⟨v', g1, ?_⟩
              have : updF Fi j (fun _ _ => 0) k = Fi k := by simp only [updF]; rw [if_neg (fun e => hne e.symm)]
              rw [this]; exact g2⟩
          (fun b k => by have := sumF_upd Fi hj (fun _ _ => 0) b k; have := h2 b k; omega) (fun t m H v e => by cases e)
        rw [put_same] at hput
        refine tk_val (v := v) ?_ ?_
        · unfold execOp
          have e : a.eval (.tmp i) = .tuple vs := h1
          simp [ho, e, Instr.extract, h4]
        · rw [h6]
          exact fin_laid hput hk h7 (fun b i => Nat.le_refl _)
    · cases hk
  · cases hk

theorem Rel.lend (h : Rel P C A X σ a w F) {d n : Nat} (hd : ∀ R, rootPl w (tmp a d) (σ.get d) = some R → mkV R.t R.cs = C.args.getD n undef) : Rel P C A X { σ with lent := (d, n, true) :: σ.lent } a w F := by
  have hpres : Pres σ a w { σ with lent := (d, n, true) :: σ.lent } a w := fun r p snap hb => ⟨hb, fun hok => ⟨hok, fun hl pl hpl => ⟨pl.H, pl.cs, hpl, fun _ => rfl⟩⟩⟩
  refine ⟨h.size, h.defers, fun i hi => SlotRel.pres hpres (fun _ _ h => h) (fun _ _ _ _ h => h) (fun _ _ h => h) (fun _ _ _ => ⟨fun _ h => h, rfl⟩) (h.slots i hi), fun d r p snap hm => RefRel.pres hpres (h.gh d r p snap hm), h.tot, h.dis, h.bnd, h.vlen, h.ext, h.own, h.a0, h.a1, fun j k hm => ?_, fun r t m H v hg hl => h.whole r t m H v hg fun k hm => hl k (List.mem_cons_of_mem _ hm), fun j k hm R hR => ?_⟩
  · rcases List.mem_cons.1 hm with e | hm
    · injection e with e1 e2; injection e2 with e2 e3; cases e3
    · exact h.lentP j k hm
  · rcases List.mem_cons.1 hm with e | hm
    · injection e with e1 e2; injection e2 with e2 e3
      subst e1; subst e2
      exact hd R hR
    · exact h.lentS j k hm R hR

theorem lentAs_mem {l : List (Nat × Nat × Bool)} {i n : Nat} (h : lentAs l i = some n) : (i, n, true) ∈ l := by
  induction l with
  | nil => cases h
  | cons y l ih =>
    obtain ⟨k, m, b⟩ := y
    simp only [lentAs] at h
    split at h
    · rename_i hc
      simp only [Bool.and_eq_true, Nat.beq_eq] at hc
      injection h with h
      rw [← hc.1, ← h, hc.2]; exact List.mem_cons_self
    · exact List.mem_cons_of_mem _ (ih h)

theorem new_box (h : Rel0 P C A σ a w F) {t : Nat} {y : Operand} (ho : o.op = .box t y) (hok : opdOk P y = true) {mv : Bool} {K : St → Option R}
    (hk : (tiK E t fun t => useK σ (opd σ y) mv t fun m v σ' => K (relend σ y o.dst (σ'.putD o.dst (.box t m [] v)))) = some x) : o.wp P a w (fun a' w' => Nx P C K x a' w' ∧ Ext w w' (fun _ _ => 0)) Q := by
  obtain ⟨T, hT, hk⟩ := tiK_some hk
  rcases opd_ok h hok with hs | ⟨xs, e⟩
  rotate_left
  · rw [e] at hk; simp [useK] at hk
  have hk0 := hk
  obtain ⟨A', σ', F', m, v, cs, Fv, k1, k2, k3, k4, kr, k5, k6⟩ := use_ok h hs hk
  have hl := Rep.length _ k6
  have hone := Rep.one _ k6
  have hcv : (mkV T cs).cells = cs.toArray := by apply Array.ext'; simpa using mkV_cells hl hone
  obtain ⟨A2, F2, hF⟩ := box_new k3 (K := fun s => some s) (x := σ'.putD o.dst (.box T m [] v)) (d := o.dst) t rfl k6 (fun b i => by omega)
  refine wp_val (v := .pointer (some ⟨w.heap.size, 0, none⟩)) (w' := w.alloc (.cells cs.toArray t)) ?_ ?_
  · unfold execOp
    simp [ho, Instr.box, newVar, newRow, k5, hcv]
  · refine ⟨⟨_, k1, A2, F2, ?_⟩, ext_alloc w _⟩
    clear hk
    unfold relend
    split
    · rename_i i d hd
      split
      · rename_i t0 m0 H0 v0 hg
        split
        · rename_i n hn
          rw [hd] at hF ⊢
          refine Rel.lend hF fun R hR => ?_
          have hargs := h.lentS i n (lentAs_mem hn) ⟨t0, H0, (tmp a i).cells.toList, none⟩ (by rw [hg]; rfl)
          have hti : tmp a i = mkV T cs := k5
          have ht0 : t0 = T := by
            simp only [opd, hg] at hk0
            unfold useK at hk0
            simp only at hk0
            split at hk0
            · simp only [atK, rootK, hg, navK] at hk0
              split at hk0
              · exact (castK_some hk0).1
              · cases hk0
            · cases hk0
          subst ht0
          simp only [hti, mkV_cells hl hone] at hargs
          simp only [St.putD, get_put] at hR
          split at hR
          · rename_i hc
            have htd : tmp (a.put (some d) (.pointer (some ⟨w.heap.size, 0, none⟩))) d = .pointer (some ⟨w.heap.size, 0, none⟩) := by
              rw [tmp_put, if_pos ⟨rfl, by rw [h.size, ← k4]; exact hc.2⟩]
            rw [htd] at hR
            simp only [rootPl, Option.some.injEq] at hR
            subst hR
            have hh := has_alloc w cs.toArray t (0, 0) (k := 0) (L := cs) (fun j u hu => by simpa using hu) hone
            show mkV _ (rd _ _ _ _) = _
            rw [rd_of_has hh hl]; exact hargs
          · rename_i hc
            have hge : σ'.n ≤ d := by
              rcases Nat.lt_or_ge d σ'.n with h1 | h1
              · exact absurd (by simpa using h1) hc
              · exact h1
            rw [get_out (Nat.not_lt.2 hge)] at hR; cases hR
        · exact hF
      · exact hF
    · exact hF
end
end OT
