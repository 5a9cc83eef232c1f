/- Modes, and places in owned data. -/
import Derived.Test.YtkimdiobckckiaaOTd
set_option linter.unusedVariables false
set_option linter.unusedSimpArgs false
namespace OT
open Go

theorem noOwn_l {m : Md} (h : m.noOwn = true) : m.l.noOwn = true := by cases m <;> simp_all [Md.noOwn, Md.l]
theorem noOwn_r {m : Md} (h : m.noOwn = true) : m.r.noOwn = true := by cases m <;> simp_all [Md.noOwn, Md.r]
theorem noOwn_e {m : Md} (h : m.noOwn = true) : m.e.noOwn = true := by cases m <;> simp_all [Md.noOwn, Md.e]
theorem noOwn_own {m : Md} (h : m.noOwn = true) : m.own = false := by cases m <;> simp_all [Md.noOwn, Md.own]
theorem roMd_noOwn (t : Ty) : (roMd t).noOwn = true := by
  induction t <;> simp_all [roMd, mdOf, Md.noOwn]
theorem fits_l {m m1 : Md} (h : fits m m1 = true) : fits m.l m1.l = true := by cases m <;> cases m1 <;> simp_all [fits, Md.l]
theorem fits_r {m m1 : Md} (h : fits m m1 = true) : fits m.r m1.r = true := by cases m <;> cases m1 <;> simp_all [fits, Md.r]
theorem fits_e {m m1 : Md} (h : fits m m1 = true) : fits m.e m1.e = true := by cases m <;> cases m1 <;> simp_all [fits, Md.e]
theorem fits_own {m m1 : Md} (h : fits m m1 = true) : m1.own = true → m.own = true := by
  intro h1; cases m <;> cases m1 <;> simp_all [fits, Md.own]
theorem fits_no {m m1 : Md} (h : fits m m1 = true) (h1 : m1.own = false) : m1.e.noOwn = true ∨ ∃ e, m1 = .arr e := by
  cases m <;> cases m1 <;> simp_all [fits, Md.own, Md.e, Md.noOwn]
theorem fits_noOwn : ∀ {m m1 : Md}, fits m m1 = true → m.noOwn = true → m1.noOwn = true := by
  intro m
  induction m with
  | leaf => intro m1 h hn; cases m1 <;> simp_all [fits, Md.noOwn]
  | pair a b iha ihb =>
    intro m1 h hn
    cases m1 with
    | pair c d => simp only [fits, Md.noOwn, Bool.and_eq_true] at *; exact ⟨iha h.1 hn.1, ihb h.2 hn.2⟩
    | _ => simp [fits] at h
  | arr e ih =>
    intro m1 h hn
    cases m1 with
    | arr d => simp only [fits, Md.noOwn] at *; exact ih h hn
    | _ => simp [fits] at h
  | slc o e ih =>
    intro m1 h hn
    cases m1 with
    | slc o' d =>
      simp only [fits, Md.noOwn, Bool.and_eq_true, Bool.or_eq_true, Bool.not_eq_true'] at *
      rw [hn.1] at h
      exact ⟨by rcases h.1.1 with h | h; exact absurd h (by simp); exact h, ih h.2 hn.2⟩
    | _ => simp [fits] at h
  | ptr o e ih =>
    intro m1 h hn
    cases m1 with
    | ptr o' d =>
      simp only [fits, Md.noOwn, Bool.and_eq_true, Bool.or_eq_true, Bool.not_eq_true'] at *
      rw [hn.1] at h
      exact ⟨by rcases h.1.1 with h | h; exact absurd h (by simp); exact h, ih h.2 hn.2⟩
    | _ => simp [fits] at h

section
variable {P : Program} {w : World} {A : Cells}

theorem Ro.rep : ∀ (t : Ty) {m : Md} {v : t.den} {cs : List Value} (F : FP), m.noOwn = true → Ro P w A t v cs → Rep P w A t m [] v cs F := by
  intro t
  induction t with
  | pair a b iha ihb =>
    intro m v cs F hm h
    exact ⟨rfl, fun _ _ => 0, fun _ _ => 0, fun _ _ => Nat.zero_le _, iha _ (noOwn_l hm) h.1, ihb _ (noOwn_r hm) h.2⟩
  | slc e ih => intro m v cs F hm h; simp only [Rep, hole, List.any_nil, Bool.false_eq_true, if_false, noOwn_own hm]; exact ⟨trivial, noOwn_e hm, h⟩
  | ptr e ih => intro m v cs F hm h; simp only [Rep, hole, List.any_nil, Bool.false_eq_true, if_false, noOwn_own hm]; exact ⟨trivial, noOwn_e hm, h⟩
  | arr n e ih => intro m v cs F hm h; exact ⟨rfl, h⟩
  | map k v => intro m x cs F hm h; simp only [Rep, hole, List.any_nil, Bool.false_eq_true, if_false, noOwn_own hm]; exact ⟨trivial, noOwn_e hm, h⟩
  | _ => intro m v cs F hm h; exact h

theorem Rep.ro : ∀ (t : Ty) {m : Md} {v : t.den} {cs : List Value} {F : FP}, m.noOwn = true → Rep P w A t m [] v cs F → Ro P w A t v cs := by
  intro t
  induction t with
  | pair a b iha ihb =>
    intro m v cs F hm h
    obtain ⟨_, F1, F2, _, h1, h2⟩ := h
    exact ⟨iha (noOwn_l hm) h1, ihb (noOwn_r hm) h2⟩
  | slc e ih => intro m v cs F hm h; simp only [Rep, hole, List.any_nil, Bool.false_eq_true, if_false, noOwn_own hm] at h; exact h.2.2
  | ptr e ih => intro m v cs F hm h; simp only [Rep, hole, List.any_nil, Bool.false_eq_true, if_false, noOwn_own hm] at h; exact h.2.2
  | arr n e ih => intro m v cs F hm h; exact h.2
  | map k v => intro m x cs F hm h; simp only [Rep, hole, List.any_nil, Bool.false_eq_true, if_false, noOwn_own hm] at h; exact h.2.2
  | _ => intro m v cs F hm h; exact h

theorem Ro.flat : ∀ (t : Ty) {m : Md} {v : t.den} {cs : List Value} (F : FP), t.flat = true → Ro P w A t v cs → Rep P w A t m [] v cs F := by
  intro t
  induction t with
  | pair a b iha ihb =>
    intro m v cs F hm h
    simp only [Ty.flat, Bool.and_eq_true] at hm
    exact ⟨rfl, fun _ _ => 0, fun _ _ => 0, fun _ _ => Nat.zero_le _, iha _ hm.1 h.1, ihb _ hm.2 h.2⟩
  | slc e ih => intro m v cs F hm; simp [Ty.flat] at hm
  | ptr e ih => intro m v cs F hm; simp [Ty.flat] at hm
  | arr n e ih => intro m v cs F hm h; exact ⟨rfl, h⟩
  | map k v => intro m v cs F hm; simp [Ty.flat] at hm
  | _ => intro m v cs F hm h; exact h

theorem Rep.flat : ∀ (t : Ty) {m : Md} {H : List Path} {v : t.den} {cs : List Value} {F : FP}, t.flat = true → Rep P w A t m H v cs F → Ro P w A t v cs := by
  intro t
  induction t with
  | pair a b iha ihb =>
    intro m H v cs F hm h
    simp only [Ty.flat, Bool.and_eq_true] at hm
    obtain ⟨_, F1, F2, _, h1, h2⟩ := h
    exact ⟨iha hm.1 h1, ihb hm.2 h2⟩
  | slc e ih => intro m H v cs F hm; simp [Ty.flat] at hm
  | ptr e ih => intro m H v cs F hm; simp [Ty.flat] at hm
  | arr n e ih => intro m H v cs F hm h; exact h.2
  | map k v => intro m H v cs F hm; simp [Ty.flat] at hm
  | _ => intro m H v cs F hm h; exact h

/-- Less is owned: the rest is what nobody turns from now on. -/
theorem Rep.fits : ∀ (t : Ty) {m m1 : Md} {v : t.den} {cs : List Value} {F : FP}, fits m m1 = true → Rep P w A t m [] v cs F → (∀ b i, F b i ≤ 1) →
    ∃ F1 : FP, (∀ b i, F1 b i ≤ F b i) ∧ ∀ A' : Cells, (∀ b i, A b i → A' b i) → (∀ b i, 1 ≤ F b i → F1 b i = 0 → A' b i) → Rep P w A' t m1 [] v cs F1 := by
  intro t
  induction t with
  | pair a b iha ihb =>
    intro m m1 v cs F hf h hF
    obtain ⟨_, Fa, Fb, hs, h1, h2⟩ := h
    obtain ⟨G1, hG1, k1⟩ := iha (fits_l hf) h1 (fun b i => by have := hs b i; have := hF b i; omega)
    obtain ⟨G2, hG2, k2⟩ := ihb (fits_r hf) h2 (fun b i => by have := hs b i; have := hF b i; omega)
    refine ⟨fun b i => G1 b i + G2 b i, fun b i => by have := hs b i; have := hG1 b i; have := hG2 b i; show G1 b i + G2 b i ≤ _; omega, fun A' hA hfr => ⟨rfl, G1, G2, fun _ _ => Nat.le_refl _, k1 A' hA fun b i hp hz => ?_, k2 A' hA fun b i hp hz => ?_⟩⟩
    · have := hs b i; have := hF b i; have := hG2 b i
      exact hfr b i (by omega) (by show G1 b i + G2 b i = 0; omega)
    · have := hs b i; have := hF b i; have := hG1 b i
      exact hfr b i (by omega) (by show G1 b i + G2 b i = 0; omega)
  | slc e ih =>
    intro m m1 v cs F hf h hF
    by_cases hm1 : m1.own = true
    · have hm := fits_own hf hm1
      simp only [Rep, hole, List.any_nil, Bool.false_eq_true, if_false, hm, if_true] at h
      obtain ⟨a, cap, h1, h2, h3, h4, h5⟩ := h
      cases a with
      | none =>
        refine ⟨fun _ _ => 0, fun _ _ => Nat.zero_le _, fun A' hA hfr => ?_⟩
        simp only [Rep, hole, List.any_nil, Bool.false_eq_true, if_false, hm1, if_true]
        exact ⟨none, cap, h1, h2, h3, h4, fun ad had => by cases had⟩
      | some ad =>
        obtain ⟨g1, g2, g3, Fi, g4, g5⟩ := h5 ad rfl
        have each : ∀ i, ∃ Gi : FP, (∀ b k, Gi b k ≤ Fi i b k) ∧ ∀ A' : Cells, (∀ b i, A b i → A' b i) → (∀ b k, 1 ≤ Fi i b k → Gi b k = 0 → A' b k) →
            ∀ x, v[i]? = some x → ∃ L : List Value, L.length = e.sz ∧ Has w ad.block (i * e.sz) L ∧ Rep P w A' e m1.e (([] : List Path).filterMap (stripI i)) x L Gi := by
          intro i
          cases hx : (v : List e.den)[i]? with
          | none => exact ⟨fun _ _ => 0, fun _ _ => Nat.zero_le _, fun A' _ _ x hx' => by cases hx'⟩
          | some x =>
            obtain ⟨L, hl, hL, hr⟩ := g5 i x hx
            have hi : i < List.length v := (List.getElem?_eq_some_iff.1 hx).1
            obtain ⟨G, hG, k⟩ := ih (fits_e hf) hr (fun b k => by have := le_sumF Fi hi b k; have := g4 b k; have := hF b k; omega)
            exact ⟨G, hG, fun A' hA hfr x' hx' => by injection hx' with hx'; subst hx'; exact ⟨L, hl, hL, k A' hA hfr⟩⟩
        have ⟨Gi, hGi⟩ := Classical.axiomOfChoice each
        refine ⟨fun b k => rng ad.block 0 (cap * e.sz) b k + sumF (List.length v) Gi b k, fun b k => ?_, fun A' hA hfr => ?_⟩
        · have := g4 b k; have := sumF_le b k (f := Gi) (g := Fi) (n := List.length v) fun j _ => (hGi j).1 b k
          show rng ad.block 0 (cap * e.sz) b k + sumF (List.length v) Gi b k ≤ _; omega
        · simp only [Rep, hole, List.any_nil, Bool.false_eq_true, if_false, hm1, if_true]
          refine ⟨some ad, cap, h1, h2, h3, h4, fun ad' had' => ?_⟩
          injection had' with had'; subst had'
          refine ⟨g1, g2, g3, Gi, fun _ _ => Nat.le_refl _, fun i x hx => (hGi i).2 A' hA (fun b k hp hz => ?_) x hx⟩
          have hi : i < List.length v := (List.getElem?_eq_some_iff.1 hx).1
          have h1 := g4 b k; have h2 := hF b k; have h3 := le_sumF Fi hi b k
          refine hfr b k (by omega) ?_
          show rng ad.block 0 (cap * e.sz) b k + sumF (List.length v) Gi b k = 0
          have : sumF (List.length v) Gi b k = 0 := by
            rcases Nat.eq_zero_or_pos (sumF (List.length v) Gi b k) with h0 | h0
            · exact h0
            · obtain ⟨j, hj, hp'⟩ := sumF_pos h0
              have := (hGi j).1 b k
              by_cases hji : j = i
              · subst hji; omega
              · have := le_sumF2 Fi hj hi hji b k; omega
          omega
    · have hm1' : m1.own = false := by simpa using hm1
      have hno : m1.e.noOwn = true := by
        rcases fits_no hf hm1' with h | ⟨e', rfl⟩
        · exact h
        · cases m <;> simp [OT.fits] at hf
          simp only [Rep, hole, List.any_nil, Bool.false_eq_true, if_false, Md.own] at h
          exact fits_noOwn hf h.2.1
      refine ⟨fun _ _ => 0, fun _ _ => Nat.zero_le _, fun A' hA hfr => ?_⟩
      have hro := Rep.toRo hA _ h (fun b i hp => hfr b i hp rfl)
      simp only [Rep, hole, List.any_nil, Bool.false_eq_true, if_false, hm1']
      exact ⟨trivial, hno, hro⟩
  | ptr e ih =>
    intro m m1 v cs F hf h hF
    by_cases hm1 : m1.own = true
    · have hm := fits_own hf hm1
      simp only [Rep, hole, List.any_nil, Bool.false_eq_true, if_false, hm, if_true] at h
      obtain ⟨b, h1, h2, L, F1, h3, h4, h5, h6⟩ := h
      obtain ⟨G, hG, k⟩ := ih (fits_e hf) h6 (fun b' i => by have := h5 b' i; have := hF b' i; omega)
      refine ⟨fun b' k => rng b 0 e.sz b' k + G b' k, fun b' k => by have := h5 b' k; have := hG b' k; show rng b 0 e.sz b' k + G b' k ≤ _; omega, fun A' hA hfr => ?_⟩
      simp only [Rep, hole, List.any_nil, Bool.false_eq_true, if_false, hm1, if_true]
      refine ⟨b, h1, h2, L, G, h3, h4, fun _ _ => Nat.le_refl _, k A' hA fun b' i hp hz => hfr b' i ?_ ?_⟩
      · have := h5 b' i; omega
      · have := h5 b' i; have := hF b' i
        show rng b 0 e.sz b' i + G b' i = 0
        omega
    · have hm1' : m1.own = false := by simpa using hm1
      have hno : m1.e.noOwn = true := by
        rcases fits_no hf hm1' with h | ⟨e', rfl⟩
        · exact h
        · cases m <;> simp [OT.fits] at hf
          simp only [Rep, hole, List.any_nil, Bool.false_eq_true, if_false, Md.own] at h
          exact fits_noOwn hf h.2.1
      refine ⟨fun _ _ => 0, fun _ _ => Nat.zero_le _, fun A' hA hfr => ?_⟩
      have hro := Rep.toRo hA _ h (fun b i hp => hfr b i hp rfl)
      simp only [Rep, hole, List.any_nil, Bool.false_eq_true, if_false, hm1']
      exact ⟨trivial, hno, hro⟩
  | arr n e ih => intro m m1 v cs F hf h hF; exact ⟨fun _ _ => 0, fun _ _ => Nat.zero_le _, fun A' hA hfr => ⟨rfl, Ro.mono (fun _ _ _ _ h => h) hA _ h.2⟩⟩
  | map k v ihk ihv =>
    intro m m1 x cs F hf h hF
    by_cases hm1 : m1.own = true
    · have hm := fits_own hf hm1
      simp only [Rep, hole, List.any_nil, Bool.false_eq_true, if_false, hm, if_true] at h
      obtain ⟨h1, h2, r, kvs, h3, h4, h5, h6, h7⟩ := h
      refine ⟨F, fun _ _ => Nat.le_refl _, fun A' hA hfr => ?_⟩
      simp only [Rep, hole, List.any_nil, Bool.false_eq_true, if_false, hm1, if_true]
      refine ⟨h1, h2, r, kvs, h3, h4, h5, h6, fun i y hy => ?_⟩
      obtain ⟨kc, vc, g1, g2, g3⟩ := h7 i y hy
      exact ⟨kc, vc, g1, Ro.mono (fun _ _ _ _ h => h) hA k g2, Ro.mono (fun _ _ _ _ h => h) hA v g3⟩
    · have hm1' : m1.own = false := by simpa using hm1
      have hno : m1.e.noOwn = true := by
        rcases fits_no hf hm1' with h | ⟨e', rfl⟩
        · exact h
        · cases m <;> simp [OT.fits] at hf
          simp only [Rep, hole, List.any_nil, Bool.false_eq_true, if_false, Md.own] at h
          exact fits_noOwn hf h.2.1
      refine ⟨fun _ _ => 0, fun _ _ => Nat.zero_le _, fun A' hA hfr => ?_⟩
      have hro := Rep.toRo hA _ h (fun b i hp => hfr b i hp rfl)
      simp only [Rep, hole, List.any_nil, Bool.false_eq_true, if_false, hm1']
      exact ⟨trivial, hno, hro⟩
  | _ => intro m m1 v cs F hf h hF; exact ⟨fun _ _ => 0, fun _ _ => Nat.zero_le _, fun A' hA hfr => Ro.mono (fun _ _ _ _ h => h) hA _ h⟩
end
end OT
