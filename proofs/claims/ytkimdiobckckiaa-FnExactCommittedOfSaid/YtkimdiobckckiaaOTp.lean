/- Operations, second part: places. -/
import Derived.Test.YtkimdiobckckiaaOTo
import Derived.Laws.Slices
set_option linter.unusedVariables false
set_option linter.unusedSimpArgs false
namespace OT
open Go

section
variable {P : Program} {w : World} {A : Cells}

theorem plc_append : ∀ (p q : Path) (t : Ty) {H : List Path} {cs : List Value} {ad : Option (Nat × Nat)}, plc w (p ++ q) t H cs ad = (plc w p t H cs ad).bind fun pl => plc w q pl.t pl.H pl.cs pl.ad := by
  intro p
  induction p with
  | nil => intro q t H cs ad; rfl
  | cons s p ih =>
    intro q t H cs ad
    cases t with
    | pair a b =>
      cases s with
      | fst => simp only [List.cons_append, plc]; split; rfl; exact ih q a
      | snd => simp only [List.cons_append, plc]; split; rfl; exact ih q b
      | _ => simp [plc]
    | slc e =>
      cases s with
      | idx i =>
        simp only [List.cons_append, plc]
        split
        · rfl
        · split
          · split
            · exact ih q e
            · rfl
          · rfl
      | _ => simp [plc]
    | arr n e =>
      cases s with
      | aix i =>
        simp only [List.cons_append, plc]
        split
        · split
          · exact ih q e
          · rfl
        · rfl
      | _ => simp [plc]
    | _ => cases s <;> simp [plc]

theorem plc_tyAt : ∀ (p : Path) (t : Ty) {H : List Path} {cs : List Value} {ad : Option (Nat × Nat)} {pl : Pl}, plc w p t H cs ad = some pl → tyAt p t = some pl.t := by
  intro p
  induction p with
  | nil => intro t H cs ad pl h; simp only [plc, Option.some.injEq] at h; subst h; rfl
  | cons s p ih =>
    intro t H cs ad pl h
    cases t with
    | pair a b =>
      cases s with
      | fst => simp only [plc] at h; split at h; cases h; exact ih a h
      | snd => simp only [plc] at h; split at h; cases h; exact ih b h
      | _ => simp [plc] at h
    | slc e =>
      cases s with
      | idx i =>
        simp only [plc] at h
        split at h
        · cases h
        · split at h
          · split at h
            · exact ih e h
            · cases h
          · cases h
      | _ => simp [plc] at h
    | arr n e =>
      cases s with
      | aix i =>
        simp only [plc] at h
        split at h
        · split at h
          · exact ih e h
          · cases h
        · cases h
      | _ => simp [plc] at h
    | _ => cases s <;> simp [plc] at h

/-- What lies at a place. -/
theorem plc_rep : ∀ (q : Path) (t : Ty) {m : Md} {H : List Path} {v : t.den} {cs : List Value} {F : FP} {ad : Option (Nat × Nat)} {pl : Pl}, Rep P w A t m H v cs F → plc w q t H cs ad = some pl →
    ∃ (m' : Md) (v' : pl.t.den) (F' : FP), Rep P w A pl.t m' pl.H v' pl.cs F' := by
  intro q
  induction q with
  | nil => intro t m H v cs F ad pl hr h; simp only [plc, Option.some.injEq] at h; subst h; exact ⟨m, v, F, hr⟩
  | cons s q ih =>
    intro t m H v cs F ad pl hr h
    cases t with
    | pair a b =>
      obtain ⟨h0, F1, F2, hs, h1, h2⟩ := hr
      cases s with
      | fst => simp only [plc, h0, if_false] at h; exact ih a h1 h
      | snd => simp only [plc, h0, if_false] at h; exact ih b h2 h
      | _ => simp [plc] at h
    | slc e =>
      cases s with
      | idx i =>
        simp only [Rep] at hr
        simp only [plc] at h
        split at h
        · cases h
        · rename_i hh
          rw [if_neg hh] at hr
          split at hr
          · obtain ⟨a, cap, rfl, h2, h3, h4, h5⟩ := hr
            cases a with
            | none => cases h
            | some ad0 =>
              obtain ⟨g1, g2, g3, Fi, g4, g5⟩ := h5 ad0 rfl
              simp only at h
              split at h
              · rename_i hi
                obtain ⟨L, hl, hL, hrep⟩ := g5 i _ (List.getElem?_eq_getElem hi)
                rw [g1, Nat.zero_add, rd_of_has hL hl] at h
                exact ih e hrep h
              · cases h
          · obtain ⟨rfl, hno, a, cap, rfl, h2, h3, h4⟩ := hr
            cases a with
            | none => cases h
            | some ad0 =>
              simp only at h
              split at h
              · rename_i hi
                obtain ⟨L, hl, hL, hrep⟩ := (h4 ad0 rfl).2 i _ (List.getElem?_eq_getElem hi)
                rw [rd_of_has (fun j u hu => (hL j u hu).1) hl] at h
                exact ih e (Ro.rep e (fun _ _ => 0) hno hrep) h
              · cases h
      | _ => simp [plc] at h
    | arr n e =>
      cases s with
      | aix i =>
        obtain ⟨rfl, hf, hl, hlen, hr⟩ := hr
        simp only [plc, List.isEmpty_nil, if_true] at h
        split at h
        · rename_i hi
          exact ih e (Ro.flat e (m := .leaf) (fun _ _ => 0) hf (hr i _ (List.getElem?_eq_getElem (by rw [hl]; exact hi)))) h
        · cases h
      | _ => simp [plc] at h
    | _ => cases s <;> simp [plc] at h

def offOf : Nat → Ty → Nat
  | j + 1, .pair a b => a.sz + offOf j b
  | _, _ => 0

theorem shiftA_zero (ad : Option (Nat × Nat)) : shiftA ad 0 = ad := by cases ad <;> simp [shiftA]
theorem shiftA_add (ad : Option (Nat × Nat)) (j k : Nat) : shiftA (shiftA ad j) k = shiftA ad (j + k) := by cases ad <;> simp [shiftA, Nat.add_assoc]

theorem plc_fld : ∀ (j : Nat) (S : Ty) {t' : Ty} {m : Md} {H : List Path} {v : S.den} {cs : List Value} {F : FP} {ad : Option (Nat × Nat)}, Rep P w A S m H v cs F → fldTy j S = some t' →
    ∃ H', plc w (fldSteps j) S H cs ad = some ⟨t', H', (cs.drop (offOf j S)).take t'.sz, shiftA ad (offOf j S)⟩ := by
  intro j
  induction j with
  | zero =>
    intro S t' m H v cs F ad hr h
    cases S with
    | pair a b =>
      injection h with h; subst h
      obtain ⟨h0, F1, F2, hs, h1, h2⟩ := hr
      exact ⟨_, by simp only [fldSteps, plc, h0, Bool.false_eq_true, if_false, offOf, List.drop_zero, shiftA_zero]; rfl⟩
    | _ => cases h
  | succ j ih =>
    intro S t' m H v cs F ad hr h
    cases S with
    | pair a b =>
      obtain ⟨h0, F1, F2, hs, h1, h2⟩ := hr
      obtain ⟨H', e⟩ := ih b (ad := shiftA ad a.sz) h2 h
      exact ⟨H', by simp only [fldSteps, plc, h0, Bool.false_eq_true, if_false, offOf]; rw [e, List.drop_drop, shiftA_add]⟩
    | _ => cases h

theorem fldTy_of : ∀ (j : Nat) (T : Ty) {t : Ty}, tyAt (fldSteps j) T = some t → ∃ t2, fldTy j T = some t2 := by
  intro j
  induction j with
  | zero => intro T t h; cases T <;> first | exact ⟨_, rfl⟩ | (simp [fldSteps, tyAt] at h; done)
  | succ j ih => intro T t h; cases T <;> first | (simp [fldSteps, tyAt] at h; done) | exact ih _ (by simpa [fldSteps, tyAt] using h)

theorem fld_lay : ∀ (j : Nat) (S : Ty) {t' : Ty} {fs : List Field} {off : Nat}, layB P S (.inr (fs, off)) = true → fldTy j S = some t' →
    ∃ f, fs[j]? = some f ∧ f.offset = off + offOf j S ∧ layB P t' (.inl f.type) = true ∧ 1 ≤ t'.sz := by
  intro j
  induction j with
  | zero =>
    intro S t' fs off hl h
    cases S with
    | pair a b =>
      injection h with h; subst h
      cases fs with
      | nil => simp [layB] at hl
      | cons f r =>
        simp only [layB, Bool.and_eq_true, Nat.beq_eq, Nat.ble_eq] at hl
        exact ⟨f, rfl, by simp [offOf, hl.1.1.1], hl.1.2, hl.1.1.2⟩
    | _ => cases h
  | succ j ih =>
    intro S t' fs off hl h
    cases S with
    | pair a b =>
      cases fs with
      | nil => simp [layB] at hl
      | cons f r =>
        simp only [layB, Bool.and_eq_true, Nat.beq_eq, Nat.ble_eq] at hl
        obtain ⟨f', h1, h2, h3⟩ := ih b hl.2 h
        exact ⟨f', by simpa using h1, by rw [h2, offOf]; omega, h3⟩
    | _ => cases h

theorem fld_struct {j : Nat} {S t' : Ty} {i : TypeId} (hl : layB P S (.inl i) = true) (h : fldTy j S = some t') :
    ∃ fs f, P.underlying i = some (.struct fs) ∧ fs[j]? = some f ∧ f.offset = offOf j S ∧ layB P t' (.inl f.type) = true ∧ 1 ≤ t'.sz := by
  cases S with
  | pair a b =>
    simp only [layB, Bool.and_eq_true] at hl
    have h2 := hl.2
    split at h2
    · rename_i fs hu
      split at h2
      · rename_i f r hfs
        have h3 : layB P (.pair a b) (.inr (f :: r, 0)) = true := by
          simp only [layB, Nat.zero_add]; exact h2
        obtain ⟨f', q1, q2, q3, q4⟩ := fld_lay j (.pair a b) h3 h
        refine ⟨fs, f', hu, ?_, by omega, q3, q4⟩
        rw [← hfs] at q1
        simpa using q1
      · cases h2
    · cases h2
  | _ => cases j <;> cases h

theorem run_part {t : Ty} {i : TypeId} (h : layB P t (.inl i) = true) {cs : Array Value} {off : Nat} (hl : ((cs.toList.drop off).take t.sz).length = t.sz) : (part i cs off).run P w = .ok (mkV t ((cs.toList.drop off).take t.sz)) w := by
  unfold part
  simp only [Sem.run_bind, run_isAgg h, Result.andThen_ok]
  cases ht : isAgg t with
  | true =>
    simp only [if_true, Sem.run_bind, run_sizeOf h, Result.andThen_ok, Sem.run_pure, mkV, ht]
    congr 2
    apply Array.ext'
    simp [Array.toList_extract, List.extract_eq_take_drop]
  | false =>
    have hs := isAgg_sz ht
    rw [hs] at hl ⊢
    have ho : off < cs.size := by simp at hl; omega
    have e : (cs.toList.drop off).take 1 = [cs[off]] := by
      rw [List.take_one]; simp [ho]
    simp only [Bool.false_eq_true, if_false, mkV, ht, e, List.headD_cons]
    simp [ho]
end

section
variable {P : Program} {C : Ctx} {A : Cells} {X : FP} {σ : St} {a : Act} {w : World} {F : Nat → FP} {R : Type} {x : R} {Q : Exit → Act → World → Prop} {o : Oper} {E : Env}

theorem place_rep (h : Rel P C A X σ a w F) {r : Nat} {p : Path} {pl : Pl} (hp : place σ a w r p = some pl) : ∃ (m' : Md) (v' : pl.t.den) (F' : FP), Rep P w A pl.t m' pl.H v' pl.cs F' := by
  have hlt := place_lt hp
  unfold place at hp
  cases hR : rootPl w (tmp a r) (σ.get r) with
  | none => rw [hR] at hp; cases hp
  | some R0 =>
    rw [hR] at hp
    obtain ⟨m0, v0, F1, q1, q2, q3, _⟩ := rootPl_rep (h.slots r hlt) hR
    exact plc_rep p R0.t q1 hp
theorem place_append (r : Nat) (p q : Path) : place σ a w r (p ++ q) = (place σ a w r p).bind fun pl => plc w q pl.t pl.H pl.cs pl.ad := by
  unfold place
  cases rootPl w (tmp a r) (σ.get r) with
  | none => rfl
  | some R0 => exact plc_append p q R0.t
theorem place_tyOf {r : Nat} {p : Path} {pl : Pl} (hp : place σ a w r p = some pl) : tyOf σ r p = some pl.t := by
  unfold place at hp
  unfold tyOf rootTyOf
  cases hg : σ.get r with
  | own t m H v => rw [hg] at hp; simp only [rootPl, Option.bind_some] at hp; exact plc_tyAt p t hp
  | box t m H v =>
    rw [hg] at hp
    simp only [rootPl] at hp
    split at hp
    · exact plc_tyAt p t hp
    · cases hp
  | _ => rw [hg] at hp; simp [rootPl] at hp
theorem nidx_fld (p : Path) (j : Nat) : nidx (p ++ fldSteps j) = nidx p := by
  induction p with
  | nil => induction j with
    | zero => rfl
    | succ j ih => simpa [fldSteps, nidx] using ih
  | cons s p ih => cases s <;> simp only [List.cons_append, nidx, ih]

theorem fldK_some {A' : Cells} : ∀ (j : Nat) (S : Ty) {v : S.den} {K : (t' : Ty) → t'.den → Option R} {cs : List Value}, fldK j S v K = some x → Ro P w A' S v cs →
    ∃ t' v', fldTy j S = some t' ∧ K t' v' = some x ∧ Ro P w A' t' v' ((cs.drop (offOf j S)).take t'.sz) := by
  intro j
  induction j with
  | zero =>
    intro S v K cs h hr
    cases S with
    | pair a b => exact ⟨a, v.1, rfl, h, by simp only [offOf, List.drop_zero]; exact hr.1⟩
    | _ => cases h
  | succ j ih =>
    intro S v K cs h hr
    cases S with
    | pair a b =>
      obtain ⟨t', v', h1, h2, h3⟩ := ih b (v := v.2) h hr.2
      exact ⟨t', v', h1, h2, by rw [offOf, ← List.drop_drop]; exact h3⟩
    | _ => cases h

theorem take_nilCheck (h : Rel0 P C A σ a w F) {y : Operand} (ho : o.op = .nilCheck y) (hok : opdOk P y = true) {K : St → Option R}
    (hk : (match opd σ y with
    | .ptr r p snap => if σ.ok r snap then K (σ.putD o.dst (.ptr r p snap)) else none
    | .cp t v => K (σ.putD o.dst (.cp t v))
    | .val .fn f => K (σ.putD o.dst (.val .fn f))
    | _ => none) = some x) : Tk P o a w (Nx P C K x) := by
  rcases opd_ok h hok with hs | ⟨xs, e⟩
  rotate_left
  · rw [e] at hk; cases hk
  split at hk
  · rename_i r p snap hv
    rw [hv] at hs
    split at hk
    · rename_i hsn
      obtain ⟨pl, b, off, g1, g2, g3, g4⟩ := hs.2 hsn
      exact tk_val (v := a.eval y) (by simp [execOp, ho, g3]) (fin_flat h hk hs (fun _ _ _ _ e => by cases e))
    · cases hk
  · rename_i t v hv
    rw [hv] at hs
    obtain ⟨ad, h1, _⟩ := id hs
    simp only [List.cons.injEq, and_true] at h1
    exact tk_val (v := a.eval y) (by simp [execOp, ho, h1]) (fin_flat h hk hs (fun _ _ _ _ e => by cases e))
  · rename_i f hv
    rw [hv] at hs
    obtain ⟨cs, h1, caps, h2, _⟩ := id hs
    subst h2
    exact tk_val (v := a.eval y) (by simp [execOp, ho, h1, mkV, isAgg]) (fin_flat h hk hs (fun _ _ _ _ e => by cases e))
  · cases hk

theorem take_fieldAddr (h : Rel0 P C A σ a w F) (hti : ∀ i T, E.TI i = some T → layB P T (.inl i) = true) {S : Nat} {y : Operand} {j : Nat} (ho : o.op = .fieldAddr S y j) (hok : opdOk P y = true) {K : St → Option R}
    (hk : fieldAddrK E σ S (opd σ y) j o.dst K = some x) : Tk P o a w (Nx P C K x) := by
  unfold fieldAddrK at hk
  obtain ⟨T, hT, hk⟩ := tiK_some hk
  have hlay := hti _ _ hT
  have run : ∀ t' b off, fldTy j T = some t' → a.eval y = .pointer (some ⟨b, off, none⟩) → ∀ w', Same o w w' → (execOp a.eval o).run P w' = .ok (.value (.pointer (some ⟨b, off + offOf j T, none⟩))) w' := fun t' b off ht hy w' _ => by
    obtain ⟨fs, f, h1, h2, h3, h4, h5⟩ := fld_struct hlay ht
    have hsz := run_sizeOf (P := P) (w := w') h4
    have hne : ¬ t'.sz = 0 := by omega
    simp [execOp, ho, hy, Instr.fieldAt, Instr.sureAddr, run_underlying h1, h2, fieldPlace, hsz, hne, addr_add, h3]
  rcases opd_ok h hok with hs | ⟨xs, e⟩
  rotate_left
  · rw [e] at hk; cases hk
  split at hk
  · rename_i t' v hv
    rw [hv] at hs
    split at hk
    · rename_i e; subst e
      obtain ⟨⟨b, off, sp⟩, h1, h2, L, h3, h4, h5⟩ := hs
      simp only [List.cons.injEq, and_true] at h1
      simp only at h2; subst h2
      obtain ⟨t2, v2, q1, q2, q3⟩ := fldK_some j t' hk h5
      refine tk_val (run t2 b off q1 h1) (fin_flat h q2 ⟨_, rfl, rfl, _, Ro.length _ q3, fun k u hu => ?_, q3⟩ (fun _ _ _ _ e => by cases e))
      rw [List.getElem?_take] at hu
      split at hu
      · rw [List.getElem?_drop] at hu
        have := h4 _ u hu
        simpa [Nat.add_assoc] using this
      · cases hu
    · cases hk
  · rename_i r p snap hv
    rw [hv] at hs
    split at hk
    · rename_i hsn
      split at hk
      · rename_i hty
        split at hk
        · rename_i hf
          obtain ⟨pl, b, off, g1, g2, g3, g4⟩ := hs.2 hsn
          rw [place_tyOf g1] at hty
          injection hty with hty
          obtain ⟨t', ht'⟩ := Option.isSome_iff_exists.1 hf
          refine tk_val (run t' b off ht' g3) (fin_flat h hk ⟨hs.1, fun _ => ?_⟩ (fun _ _ _ _ e => by cases e))
          obtain ⟨m', v', F', hrep⟩ := place_rep h g1
          obtain ⟨tp, Hp, csp, adp⟩ := pl
          simp only at hty g2 hrep
          subst hty
          obtain ⟨H', e⟩ := plc_fld (ad := adp) j tp hrep ht'
          refine ⟨⟨t', H', (csp.drop (offOf j tp)).take t'.sz, shiftA adp (offOf j tp)⟩, b, off + offOf j tp, ?_, ?_, rfl, by rw [nidx_fld]; exact g4⟩
          · rw [place_append, g1]; exact e
          · simp [shiftA, g2]
        · cases hk
      · cases hk
    · cases hk
  · cases hk

theorem take_field (h : Rel0 P C A σ a w F) (hti : ∀ i T, E.TI i = some T → layB P T (.inl i) = true) {S : Nat} {y : Operand} {j : Nat} (ho : o.op = .field S y j) (hok : opdOk P y = true) {K : St → Option R}
    (hk : fieldVK E σ S (opd σ y) j o.dst K = some x) : Tk P o a w (Nx P C K x) := by
  unfold fieldVK at hk
  obtain ⟨T, hT, hk⟩ := tiK_some hk
  have hlay := hti _ _ hT
  have run : ∀ t' cs, fldTy j T = some t' → a.eval y = mkV T cs → ((cs.drop (offOf j T)).take t'.sz).length = t'.sz → ∀ w', Same o w w' → (execOp a.eval o).run P w' = .ok (.value (mkV t' ((cs.drop (offOf j T)).take t'.sz))) w' := fun t' cs ht hy hl w' _ => by
    obtain ⟨fs, f, h1, h2, h3, h4, h5⟩ := fld_struct hlay ht
    have hagg : mkV T cs = .agg cs.toArray := by cases T <;> first | rfl | (cases j <;> cases ht)
    have := run_part (P := P) (w := w') h4 (cs := cs.toArray) (off := offOf j T) (by simpa using hl)
    simp only [List.toList_toArray] at this
    simp [execOp, ho, hy, hagg, Instr.field, run_underlying h1, h2, asAgg, h3, this]
  rcases opd_ok h hok with hs | ⟨xs, e⟩
  rotate_left
  · rw [e] at hk; cases hk
  split at hk
  · rename_i t' v hv
    rw [hv] at hs
    split at hk
    · rename_i e; subst e
      obtain ⟨cs, h1, h2⟩ := hs
      obtain ⟨t2, v2, q1, q2, q3⟩ := fldK_some j t' hk h2
      exact tk_val (run t2 cs q1 h1 (Ro.length _ q3)) (fin_flat h q2 ⟨_, rfl, q3⟩ (fun _ _ _ _ e => by cases e))
    · cases hk
  · rename_i r p snap hv
    rw [hv] at hs
    split at hk
    · rename_i hsn
      split at hk
      · rename_i hty
        obtain ⟨hr, t', m', H', v', cs', ad', F', h1, h2, h3, h4, h5, h6⟩ := at_ok h hk
        obtain ⟨pl, g1, g2, g3⟩ := hs.2 hsn
        rw [place_tyOf g1] at hty
        injection hty with hty
        obtain ⟨m0, v0, F0, hrep⟩ := place_rep h g1
        obtain ⟨tp, Hp, csp, adp⟩ := pl
        simp only at hty g2 hrep
        subst hty
        -- the field that is meant
        have hf : ∃ t2, fldTy j tp = some t2 := by
          have h7 := h3
          rw [place_append, g1] at h7
          exact fldTy_of j tp (plc_tyAt _ _ h7)
        obtain ⟨t2, ht2⟩ := hf
        obtain ⟨H2, e⟩ := plc_fld (ad := adp) j tp hrep ht2
        have hpl : place σ a w r (p ++ fldSteps j) = some ⟨t2, H2, (csp.drop (offOf j tp)).take t2.sz, shiftA adp (offOf j tp)⟩ := by rw [place_append, g1]; exact e
        rw [hpl] at h3
        injection h3 with h3
        simp only [Pl.mk.injEq] at h3
        obtain ⟨rfl, rfl, rfl, rfl⟩ := h3
        refine tk_val (run t2 csp ht2 g2 (Rep.length _ h4)) ?_
        split at h1
        · rename_i hc
          split at h1
          · rename_i hH
            have hH := List.isEmpty_iff.1 hH; subst hH
            refine fin_flat h h1 ⟨_, rfl, ?_⟩ (fun _ _ _ _ e => by cases e)
            simp only [Bool.or_eq_true, decide_eq_true_eq] at hc
            rcases hc with hc | hc
            · exact Rep.flat _ hc h4
            · subst hc; exact Rep.ro _ (roMd_noOwn _) h4
          · cases h1
        · exact fin_flat h h1 (refRel_new h hpl) (fun _ _ _ _ e => by cases e)
      · cases hk
    · cases hk
  · cases hk
end
end OT
