/- A root's content turns: taken, frozen, set. -/
import Derived.Test.YtkimdiobckckiaaOTi
set_option linter.unusedVariables false
set_option linter.unusedSimpArgs false
namespace OT
open Go

def rngO (ad : Option (Nat × Nat)) (n : Nat) : FP := fun b i => match ad with
  | some (b', o) => rng b' o n b i
  | none => 0

section
variable {P : Program} {C : Ctx} {A : Cells} {X : FP} {σ : St} {a : Act} {w : World} {F : Nat → FP} {R : Type} {x : R}

theorem rootK_some {r : Nat} {K : (t : Ty) → Md → List Path → t.den → Option R} (h : rootK σ r K = some x) :
    r < σ.n ∧ ∃ t m H v, (σ.get r = .own t m H v ∨ σ.get r = .box t m H v) ∧ K t m H v = some x := by
  unfold rootK at h
  rcases Nat.lt_or_ge r σ.n with hr | hr
  · refine ⟨hr, ?_⟩
    split at h
    · rename_i t m H v hg; exact ⟨t, m, H, v, .inl hg, h⟩
    · rename_i t m H v hg; exact ⟨t, m, H, v, .inr hg, h⟩
    · cases h
  · rw [get_out (Nat.not_lt.2 hr)] at h; cases h

/-- A root, its cells and what of them is owned. -/
structure RootOk (P : Program) (A : Cells) (σ : St) (a : Act) (w : World) (r : Nat) (G : FP) (t : Ty) (m : Md) (H : List Path) (v : t.den) (cs : List Value) (ad : Option (Nat × Nat)) (F1 : FP) : Prop where
  root : rootPl w (tmp a r) (σ.get r) = some ⟨t, H, cs, ad⟩
  rep : Rep P w A t m H v cs F1
  le : ∀ b i, rngO ad t.sz b i + F1 b i ≤ G b i
  has : ∀ b o, ad = some (b, o) → Has w b o cs
  froz : ∀ b o, ad = some (b, o) → ∀ j, j < t.sz → w.frozen? ⟨b, o + j, none⟩ = false
  val : ad = none → tmp a r = mkV t cs ∧ σ.get r = .own t m H v
  ptr : ∀ b o, ad = some (b, o) → tmp a r = .pointer (some ⟨b, o, none⟩) ∧ σ.get r = .box t m H v

theorem SlotRel.root {r : Nat} {G : FP} (h : SlotRel P A σ a w (tmp a r) (σ.get r) G) {t : Ty} {m : Md} {H : List Path} {v : t.den} (hg : σ.get r = .own t m H v ∨ σ.get r = .box t m H v) :
    ∃ cs ad F1, RootOk P A σ a w r G t m H v cs ad F1 := by
  rcases hg with hg | hg
  · rw [hg] at h
    obtain ⟨cs, h1, h2⟩ := h
    refine ⟨cs, none, G, by rw [hg]; simp only [rootPl, h1, mkV_cells (Rep.length t h2) (Rep.one t h2)], h2, fun b i => by simp [rngO], (fun b o h => by cases h), (fun b o h => by cases h), fun _ => ⟨h1, hg⟩, (fun b o h => by cases h)⟩
  · rw [hg] at h
    obtain ⟨b, o, L, F1, h1, h2, h3, h4, h5, h6⟩ := h
    refine ⟨L, some (b, o), F1, by rw [hg, h1]; simp only [rootPl, rd_of_has h3 h2], h6, fun b i => h5 b i, ?_, ?_, (fun h => by cases h), ?_⟩
    · intro b' o' e; simp only [Option.some.injEq, Prod.mk.injEq] at e; obtain ⟨rfl, rfl⟩ := e; exact h3
    · intro b' o' e; simp only [Option.some.injEq, Prod.mk.injEq] at e; obtain ⟨rfl, rfl⟩ := e; exact h4
    · intro b' o' e; simp only [Option.some.injEq, Prod.mk.injEq] at e; obtain ⟨rfl, rfl⟩ := e; exact ⟨h1, hg⟩

theorem at_ok (h : Rel P C A X σ a w F) {r : Nat} {p : Path} {K : (t : Ty) → Md → List Path → t.den → Option R} (hk : atK σ r p K = some x) :
    r < σ.n ∧ ∃ (t' : Ty) (m' : Md) (H' : List Path) (v' : t'.den) (cs' : List Value) (ad' : Option (Nat × Nat)) (F' : FP), K t' m' H' v' = some x ∧ (∀ {S : Type} (K0 : (t : Ty) → Md → List Path → t.den → Option S), atK σ r p K0 = K0 t' m' H' v') ∧ place σ a w r p = some ⟨t', H', cs', ad'⟩ ∧ Rep P w A t' m' H' v' cs' F' ∧
      (∀ b i, F' b i ≤ F r b i) ∧ (∀ b o, ad' = some (b, o) → Has w b o cs') := by
  obtain ⟨hr, t, m, H, v, hg, hk⟩ := rootK_some hk
  obtain ⟨cs, ad, F1, RO⟩ := (h.slots r hr).root hg
  obtain ⟨t', m', H', v', cs', ad', F', h1, hn, h2, h3, h4, h5, _⟩ := nav_ok p t hk RO.rep (ad := ad) RO.has
  refine ⟨hr, t', m', H', v', cs', ad', F', h1, fun K0 => ?_, ?_, h3, fun b i => by have := h4 b i; have := RO.le b i; omega, h5⟩
  · unfold atK rootK
    rcases hg with hg | hg <;> rw [hg] <;> exact hn K0
  unfold place
  rw [RO.root]; exact h2

theorem get_setRoot (r : Nat) (t : Ty) (m : Md) (H : List Path) (v : t.den) (i : Nat) (h : i ≠ r) : (σ.setRoot r t m H v).get i = σ.get i := by
  unfold St.setRoot
  split <;> rw [get_upd, if_neg (fun e => h e.1.symm)]
theorem get_setRoot_own {r : Nat} (hr : r < σ.n) {t t0 : Ty} {m m0 : Md} {H H0 : List Path} {v0 : t0.den} (v : t.den) (h : σ.get r = .own t0 m0 H0 v0) : (σ.setRoot r t m H v).get r = .own t m H v := by
  unfold St.setRoot
  rw [h]; simp only []; rw [get_upd, if_pos ⟨rfl, hr⟩]
theorem get_setRoot_box {r : Nat} (hr : r < σ.n) {t t0 : Ty} {m m0 : Md} {H H0 : List Path} {v0 : t0.den} (v : t.den) (h : σ.get r = .box t0 m0 H0 v0) : (σ.setRoot r t m H v).get r = .box t m H v := by
  unfold St.setRoot
  rw [h]; simp only []; rw [get_upd, if_pos ⟨rfl, hr⟩]
theorem n_setRoot (r : Nat) (t : Ty) (m : Md) (H : List Path) (v : t.den) : (σ.setRoot r t m H v).n = σ.n := by unfold St.setRoot; split <;> rfl
theorem ver_setRoot (r : Nat) (t : Ty) (m : Md) (H : List Path) (v : t.den) (i : Nat) : (σ.setRoot r t m H v).ver i = σ.ver i := by unfold St.setRoot; split <;> rfl
theorem lent_setRoot (r : Nat) (t : Ty) (m : Md) (H : List Path) (v : t.den) : (σ.setRoot r t m H v).lent = σ.lent := by unfold St.setRoot; split <;> rfl
theorem gh_setRoot (r : Nat) (t : Ty) (m : Md) (H : List Path) (v : t.den) : (σ.setRoot r t m H v).gh = σ.gh := by unfold St.setRoot; split <;> rfl

/-- The roots there are were there. -/
def Roots (σ σ' : St) : Prop := ∀ (w : World) (tv : Value) (i : Nat) (R : Pl), rootPl w tv (σ'.get i) = some R → ∃ H, rootPl w tv (σ.get i) = some ⟨R.t, H, R.cs, R.ad⟩
theorem Roots.refl (σ : St) : Roots σ σ := fun w tv i R h => ⟨R.H, h⟩
theorem Roots.trans {σ σ' σ'' : St} (h : Roots σ σ') (h' : Roots σ' σ'') : Roots σ σ'' := by
  intro w tv i R0 hR
  obtain ⟨H, h1⟩ := h' w tv i R0 hR
  exact h w tv i ⟨R0.t, H, R0.cs, R0.ad⟩ h1
theorem roots_setRoot {r : Nat} (hr : r < σ.n) {t : Ty} {m m0 : Md} {H H0 : List Path} {v0 : t.den} (v : t.den) (h : σ.get r = .own t m0 H0 v0 ∨ σ.get r = .box t m0 H0 v0) {σ' : St} (hg : ∀ i, σ'.get i = (σ.setRoot r t m H v).get i) : Roots σ σ' := by
  intro w tv i R hR
  rw [hg] at hR
  by_cases hi : i = r
  · subst hi
    rcases h with h | h
    · rw [get_setRoot_own hr v h] at hR
      rw [h]
      simp only [rootPl, Option.some.injEq] at hR ⊢
      subst hR
      exact ⟨H0, rfl⟩
    · rw [get_setRoot_box hr v h] at hR
      rw [h]
      simp only [rootPl] at hR ⊢
      split at hR
      · injection hR with hR; subst hR; exact ⟨H0, rfl⟩
      · cases hR
  · rw [get_setRoot r t m H v i hi] at hR
    exact ⟨R.H, hR⟩

/-- How a state goes on from one in which a root's content was turned. -/
structure Onto (σ : St) (r : Nat) (s : Slot) (lentOk : Prop) (σ' : St) : Prop where
  n : σ'.n = σ.n
  get : ∀ i, i ≠ r → σ'.get i = σ.get i
  root : σ'.get r = s
  ver : ∀ i, i ≠ r → σ'.ver i = σ.ver i
  below : Below (σ.ver r) (σ'.ver r)
  vlen : (σ'.ver r).length = 5
  lent : ∀ e, e ∈ σ'.lent → e ∈ σ.lent
  lentF : ∀ j k, (j, k, false) ∈ σ.lent → (j, k, false) ∈ σ'.lent
  gh : ∀ e, e ∈ σ'.gh → e ∈ σ.gh
  head : ∀ k, (r, k, true) ∈ σ'.lent → lentOk

/-- A root's content turns at a place. -/
theorem Rel.turn (h : Rel P C A X σ a w F) {r : Nat} {p : Path} {f : (t' : Ty) → Md → List Path → t'.den → (Md → List Path → t'.den → Option R) → Option R}
    {Kf : (t : Ty) → Md → List Path → t.den → Option R} (hk : rootK σ r (fun t0 m0 H0 v0 => modK p t0 m0 H0 v0 f fun m' H' v' => Kf t0 m' H' v') = some x) :
    r < σ.n ∧ ∃ (t' : Ty) (m' : Md) (H' : List Path) (v' : t'.den) (cs' : List Value) (ad' : Option (Nat × Nat)) (F' : FP) (kk : Md → List Path → t'.den → Option R),
      f t' m' H' v' kk = some x ∧ (∀ {S : Type} (K0 : (t : Ty) → Md → List Path → t.den → Option S), atK σ r p K0 = K0 t' m' H' v') ∧ place σ a w r p = some ⟨t', H', cs', ad'⟩ ∧ Rep P w A t' m' H' v' cs' F' ∧
      (∀ b i, rngO ad' t'.sz b i + F' b i ≤ F r b i) ∧ (∀ b o, ad' = some (b, o) → Has w b o cs') ∧ (∀ b o, ad' = some (b, o) → ∀ j, j < t'.sz → w.frozen? ⟨b, o + j, none⟩ = false) ∧
      ∀ m2 H2 (v2 : t'.den), kk m2 H2 v2 = some x → ∀ (w2 : World) (A2 : Cells) (cs2 : List Value) (F2 X2 : FP),
        Ext w w2 (fun b i => X b i + (F' b i + rngO ad' t'.sz b i)) → (∀ b i, A b i → A2 b i) → (∀ b i, A2 b i → A b i ∨ (1 ≤ X b i + F' b i ∧ X2 b i + F2 b i = 0)) →
        (∀ b i, X2 b i + F2 b i ≤ X b i + F' b i) → (∀ b o, ad' = some (b, o) → Has w2 b o cs2) → (ad' = none → cs2 = cs') → Rep P w2 A2 t' m2 H2 v2 cs2 F2 →
        ∃ (t0 : Ty) (m3 : Md) (H3 : List Path) (v3 : t0.den) (Fr : FP) (A3 : Cells), Kf t0 m3 H3 v3 = some x ∧ (∃ (m0 : Md) (H0 : List Path) (v0 : t0.den), σ.get r = .own t0 m0 H0 v0 ∨ σ.get r = .box t0 m0 H0 v0) ∧ (∀ b i, A2 b i → A3 b i) ∧ (∀ b i, Fr b i ≤ F r b i + X b i) ∧
          ∀ σ', Onto σ r ((σ.setRoot r t0 m3 H3 v3).get r) (1 ≤ nidx p ∨ cs2 = cs') σ' →
            (∀ (p' : Path) (snap : List Nat), Below snap (σ.ver r) → σ'.ok r snap = true → (snap.length = min 5 (1 + nidx p') ∨ snap.length = min 5 (2 + nidx p') ∨ snap.length = 5) →
              ∃ D full, nidx p' ≤ D + nidx p ∧ (snap.length = min 5 (2 + nidx p') → nidx p' < D + nidx p ∨ full) ∧ (snap.length = 5 → full) ∧ Stab D full w t' H' cs' ad' w2 H2 cs2) →
            Rel P C A3 X2 σ' a w2 (updF F r Fr) := by
  obtain ⟨hr, t, m, H, v, hg, hk⟩ := rootK_some hk
  obtain ⟨cs, ad, F1, RO⟩ := (h.slots r hr).root hg
  have hFr : ∀ b i, X b i + F r b i ≤ 1 := fun b i => by have := h.tot b i; have := le_sumF F hr b i; omega
  have hdis : ∀ b o, ad = some (b, o) → ∀ j, j < t.sz → F1 b (o + j) = 0 := fun b o e j hj => by
    have h1 := RO.le b (o + j); have h2 := hFr b (o + j)
    rw [e] at h1
    simp [rngO, rng, hj] at h1
    omega
  obtain ⟨t', m', H', v', cs', ad', F', G, kk, loc, M⟩ := mod_ok p t hk RO.rep (fun b i => by have := hFr b i; have := RO.le b i; omega) RO.has hdis
  have hlen := Rep.length t RO.rep
  -- where the place lies
  have hplace : ∀ b i, rngO ad' t'.sz b i + F' b i ≤ F r b i ∧ (1 ≤ rngO ad' t'.sz b i → 1 ≤ G b i ∨ 1 ≤ rngO ad t.sz b i) ∧ rngO ad' t'.sz b i ≤ 1 := fun b i => by
    have h1 := M.sum b i; have h2 := RO.le b i; have h3 := hFr b i
    cases had : ad' with
    | none => simp only [rngO]; omega
    | some bo =>
      obtain ⟨b0, o0⟩ := bo
      simp only [rngO, rng]
      split
      · rename_i hin
        obtain ⟨rfl, hin1, hin2⟩ := hin
        cases loc with
        | none =>
          obtain ⟨b', o', e1, e2⟩ := M.out rfl
          rw [had] at e1
          simp only [Option.some.injEq, Prod.mk.injEq] at e1
          obtain ⟨rfl, rfl⟩ := e1
          have := (e2 (i - o0) (by omega)).1
          rw [show o0 + (i - o0) = i by omega] at this
          omega
        | some off =>
          obtain ⟨e1, e2, e3⟩ := M.inn off rfl
          cases hadr : ad with
          | none => rw [had, hadr] at e3; cases e3
          | some y =>
            rw [had, hadr] at e3
            simp only [shiftA, Option.map_some, Option.some.injEq, Prod.mk.injEq] at e3
            obtain ⟨rfl, rfl⟩ := e3
            have hr1 : rng y.1 y.2 t.sz y.1 i = 1 := by simp [rng]; omega
            rw [hadr] at h2
            simp only [rngO, hr1] at h2 ⊢
            simp only [rng] at hr1
            omega
      · omega
  refine ⟨hr, t', m', H', v', cs', ad', F', kk, M.run, fun K0 => ?_, by unfold place; rw [RO.root]; exact M.place, M.rep, fun b i => (hplace b i).1, M.has, fun b o e j hj => ?_, ?_⟩
  · unfold atK rootK
    rcases hg with hg | hg <;> rw [hg] <;> exact M.nav K0
  · cases loc with
    | none =>
      obtain ⟨b', o', e1, e2⟩ := M.out rfl
      rw [e] at e1
      simp only [Option.some.injEq, Prod.mk.injEq] at e1
      obtain ⟨rfl, rfl⟩ := e1
      exact (e2 j hj).2
    | some off =>
      obtain ⟨e1, e2, e3⟩ := M.inn off rfl
      cases hadr : ad with
      | none => rw [e, hadr] at e3; cases e3
      | some y =>
        rw [e, hadr] at e3
        simp only [shiftA, Option.map_some, Option.some.injEq, Prod.mk.injEq] at e3
        obtain ⟨rfl, rfl⟩ := e3
        have := RO.froz y.1 y.2 hadr (off + j) (by omega)
        rwa [← Nat.add_assoc] at this
  intro m2 H2 v2 hkk w2 A2 cs2 F2 X2 hext hA hA2 hX hhas hnone hrep2
  have hl2 := Rep.length t' hrep2
  have hcA : ∀ b i, A b i → ∀ u, ce w b i = some u → ce w2 b i = some u := fun b i ha u hu => by
    refine hext.cell b i (h.bnd b i (.inr ha)) ?_ u hu
    have h1 := (hplace b i).1
    have h2 := le_sumF F hr b i
    have h3 := h.dis b i
    show X b i + (F' b i + rngO ad' t'.sz b i) = 0
    rcases Nat.eq_zero_or_pos (X b i + sumF σ.n F b i) with h0 | h0
    · omega
    · exact absurd ha (h3 h0)
  have hGc : ∀ b i, 1 ≤ G b i ∨ 1 ≤ rngO ad t.sz b i → (∀ o, ad' = some (b, o) → ¬ (o ≤ i ∧ i < o + t'.sz)) → ∀ u, ce w b i = some u → ce w2 b i = some u := fun b i hp hn u hu => by
    have h1 := hplace b i; have h2 := hFr b i; have h3 := M.sum b i; have h4 := RO.le b i
    refine hext.cell b i (h.bnd b i (.inl (by have := le_sumF F hr b i; omega))) ?_ u hu
    show X b i + (F' b i + rngO ad' t'.sz b i) = 0
    have h5 : rngO ad' t'.sz b i = 0 := by
      cases had : ad' with
      | none => rfl
      | some bo =>
        obtain ⟨b0, o0⟩ := bo
        simp only [rngO, rng]
        split
        · rename_i hin
          obtain ⟨rfl, hin1, hin2⟩ := hin
          exact absurd ⟨hin1, hin2⟩ (hn o0 had)
        · rfl
    omega
  have hsum2 : ∀ b i, F2 b i + G b i ≤ 1 := fun b i => by
    have := hX b i; have := M.sum b i; have := RO.le b i; have := hFr b i; omega
  obtain ⟨m3, H3, v3, F3, k1, k2, k3, k4⟩ := M.back m2 H2 v2 hkk w2 A2 cs2 F2 hext.blk hA hcA (fun b i hp hn => hGc b i (.inl hp) hn) hhas hrep2 hsum2
  have hrepl3 : (repl loc cs t'.sz cs2).length = t.sz := by
    cases loc with
    | none => exact hlen
    | some off => have := (M.inn off rfl).1; simp only [repl]; rw [spl_length (by omega) hl2, hlen]
  have hsame : cs2 = cs' → repl loc cs t'.sz cs2 = cs := fun e => by
    cases loc with
    | none => rfl
    | some off =>
      obtain ⟨e1, e2, _⟩ := M.inn off rfl
      rw [e, e2]; exact spl_self (by omega)
  have hroot : ∀ b o, ad = some (b, o) → Has w2 b o (repl loc cs t'.sz cs2) := fun b o e => by
    have cells : ∀ j u, cs[j]? = some u → (∀ o', ad' = some (b, o') → ¬ (o' ≤ o + j ∧ o + j < o' + t'.sz)) → ce w2 b (o + j) = some u := fun j u hu hn => by
      have hj : j < t.sz := hlen ▸ (List.getElem?_eq_some_iff.1 hu).1
      exact hGc b (o + j) (.inr (by rw [e]; simp [rngO, rng, hj])) hn u (RO.has b o e j u hu)
    cases hloc : loc with
    | none =>
      intro j u hu
      refine cells j u hu fun o' he hin => ?_
      have hj : j < t.sz := hlen ▸ (List.getElem?_eq_some_iff.1 hu).1
      obtain ⟨b', o'', e1, e2⟩ := M.out hloc
      rw [he] at e1
      simp only [Option.some.injEq, Prod.mk.injEq] at e1
      obtain ⟨rfl, rfl⟩ := e1
      have h1 := (e2 (o + j - o') (by omega)).1
      rw [show o' + (o + j - o') = o + j by omega] at h1
      have h2 := RO.le b (o + j); have h3 := hFr b (o + j); have h4 := M.sum b (o + j)
      rw [e] at h2
      simp [rngO, rng, hj] at h2
      omega
    | some off =>
      obtain ⟨e1, e2, e3⟩ := M.inn off hloc
      rw [e] at e3
      simp only [shiftA, Option.map_some] at e3
      exact has_spl (by omega) hl2 (hhas b (o + off) e3) (fun j u hu hn => cells j u hu fun o' he hin => by
        rw [e3] at he
        simp only [Option.some.injEq, Prod.mk.injEq] at he
        omega)
  refine ⟨t, m3, H3, v3, fun b i => rngO ad t.sz b i + F3 b i, fun b i => A2 b i ∨ (1 ≤ F2 b i + G b i ∧ F3 b i = 0), k1, ⟨m, H, v, hg⟩, fun _ _ h => .inl h, fun b i => ?_, fun σ' on hst => ?_⟩
  · have h1 := k2 b i; have h2 := hX b i; have h3 := M.sum b i; have h4 := RO.le b i
    show rngO ad t.sz b i + F3 b i ≤ _
    omega
  have hrep3 := k3 (fun b i => A2 b i ∨ (1 ≤ F2 b i + G b i ∧ F3 b i = 0)) (fun _ _ h => .inl h) (fun b i h1 h2 => .inr ⟨h1, h2⟩)
  have hslot : SlotRel P (fun b i => A2 b i ∨ (1 ≤ F2 b i + G b i ∧ F3 b i = 0)) σ' a w2 (tmp a r) (σ'.get r) (fun b i => rngO ad t.sz b i + F3 b i) ∧ rootPl w2 (tmp a r) (σ'.get r) = some ⟨t, H3, repl loc cs t'.sz cs2, ad⟩ := by
    rw [on.root]
    cases hadr : ad with
    | none =>
      obtain ⟨e1, e2⟩ := RO.val hadr
      have e3 : repl loc cs t'.sz cs2 = cs := by
        cases hloc : loc with
        | none => rfl
        | some off =>
          have := (M.inn off hloc).2.2
          rw [hadr] at this
          rw [← hloc]; exact hsame (hnone this)
      rw [get_setRoot_own hr v3 e2]
      rw [e3] at hrep3 ⊢
      exact ⟨⟨cs, e1, Rep.le hrep3 (fun b i => by show F3 b i ≤ rngO none t.sz b i + F3 b i; omega)⟩, by simp only [rootPl, e1, mkV_cells hlen (Rep.one t RO.rep)]⟩
    | some bo =>
      obtain ⟨b, o⟩ := bo
      obtain ⟨e1, e2⟩ := RO.ptr b o hadr
      rw [get_setRoot_box hr v3 e2, e1]
      have hh := hroot b o hadr
      refine ⟨⟨b, o, _, F3, rfl, hrepl3, hh, fun j hj => ?_, fun b' i => ?_, hrep3⟩, by simp only [rootPl, rd_of_has hh hrepl3]⟩
      · have hb : b < w.heap.size := h.bnd b (o + j) (.inl (by
          have h1 := RO.le b (o + j); have h2 := le_sumF F hr b (o + j)
          rw [hadr] at h1
          simp [rngO, rng, hj] at h1
          omega))
        rw [hext.froz b (o + j) hb]
        exact RO.froz b o hadr j hj
      · exact Nat.le_refl _
  refine h.chg hr on.n on.get on.ver on.below on.vlen on.lent on.lentF on.gh hslot.1 RO.root hslot.2 (fun p' snap h1 h2 h3 => ?_) (fun b i ha => .inl (hA b i ha)) (fun b i ha => ?_) (fun b i => ?_) (hext.mono fun b i hz => ?_) (fun t5 m5 H5 v5 hg5 => ?_) (fun k hm => ?_)
  · obtain ⟨D, full, q1, q2, q3, q4⟩ := hst p' snap h1 h2 h3
    exact ⟨D + nidx p, full, q1, q2, q3, k4 D full q4⟩
  · have h1 := hX b i; have h2 := k2 b i; have h3 := M.sum b i; have h4 := RO.le b i; have h5 := hFr b i
    rcases ha with ha | ⟨ha1, ha2⟩
    · rcases hA2 b i ha with ha | ⟨ha1, ha2⟩
      · exact .inl ha
      · right; omega
    · right; omega
  · have h1 := hX b i; have h2 := k2 b i; have h3 := M.sum b i; have h4 := RO.le b i
    show X2 b i + (rngO ad t.sz b i + F3 b i) ≤ _
    omega
  · have h1 := (hplace b i).1
    show X b i + (F' b i + rngO ad' t'.sz b i) = 0
    omega
  · rw [on.root] at hg5
    rcases hg with hg | hg
    · rw [get_setRoot_own hr v3 hg] at hg5; cases hg5
    · rw [get_setRoot_box hr v3 hg] at hg5
      injection hg5 with e1 e2 e3 e4
      subst e1
      exact ⟨_, _, _, hg⟩
  · rcases on.head k hm with hp | he
    · rw [M.locn hp]; rfl
    · exact hsame he
end
end OT
