/- Data taken, frozen, set, read and used. -/
import Derived.Test.YtkimdiobckckiaaOTj
set_option linter.unusedVariables false
set_option linter.unusedSimpArgs false
namespace OT
open Go

theorem Rep.holes {P : Program} {w : World} {A : Cells} : ∀ (t : Ty) {m : Md} {v : t.den} {cs : List Value} {F : FP}, Rep P w A t m [] v cs F → Rep P w A t m (holesOf t) v cs (fun _ _ => 0) := by
  intro t
  induction t with
  | pair a b iha ihb =>
    intro m v cs F h
    obtain ⟨_, F1, F2, hs, h1, h2⟩ := h
    refine ⟨by rw [holesOf, hole_append, hole_map, hole_map]; rfl, fun _ _ => 0, fun _ _ => 0, fun _ _ => Nat.le_refl _, ?_, ?_⟩
    · rw [holesOf, List.filterMap_append, strip_map_fst, strip_map_fs, List.append_nil]; exact iha h1
    · rw [holesOf, List.filterMap_append, strip_map_sf, strip_map_snd, List.nil_append]; exact ihb h2
  | slc e ih =>
    intro m v cs F h
    have h1 := Rep.length _ h
    have h2 := Rep.one _ h
    match cs, h1 with
    | [y], _ => simp only [Rep, holesOf, hole, List.any_cons, List.isEmpty_nil, Bool.true_or, if_true]; exact ⟨y, rfl, h2 y (by simp)⟩
  | ptr e ih =>
    intro m v cs F h
    have h1 := Rep.length _ h
    have h2 := Rep.one _ h
    match cs, h1 with
    | [y], _ => simp only [Rep, holesOf, hole, List.any_cons, List.isEmpty_nil, Bool.true_or, if_true]; exact ⟨y, rfl, h2 y (by simp)⟩
  | arr n e ih => intro m v cs F h; rw [holesOf, h.2.1]; exact h
  | map k v =>
    intro m v cs F h
    have h1 := Rep.length _ h
    have h2 := Rep.one _ h
    match cs, h1 with
    | [y], _ => simp only [Rep, holesOf, hole, List.any_cons, List.isEmpty_nil, Bool.true_or, if_true]; exact ⟨y, rfl, h2 y (by simp)⟩
  | _ => intro m v cs F h; exact h

section
variable {P : Program} {C : Ctx} {A : Cells} {X : FP} {σ : St} {a : Act} {w : World} {F : Nat → FP} {R : Type} {x : R}

/-- What was found at a place. -/
structure At (σ : St) (r : Nat) (p : Path) (t : Ty) (m : Md) (H : List Path) (v : t.den) : Prop where
  eq : ∀ {S : Type} (K0 : (t : Ty) → Md → List Path → t.den → Option S), atK σ r p K0 = K0 t m H v

theorem At.inj {r : Nat} {p : Path} {t t' : Ty} {m m' : Md} {H H' : List Path} {v : t.den} {v' : t'.den} (h : At σ r p t m H v) (h' : At σ r p t' m' H' v') : t = t' ∧ m = m' ∧ H = H' ∧ HEq v v' := by
  have h1 := h.eq (fun t m H v => some (⟨t, m, H, v⟩ : (t : Ty) × Md × List Path × t.den))
  rw [h'.eq] at h1
  injection h1 with h1
  injection h1 with h1 h2
  subst h1
  have h2 := eq_of_heq h2
  simp only [Prod.mk.injEq] at h2
  exact ⟨rfl, h2.1.symm, h2.2.1.symm, heq_of_eq h2.2.2.symm⟩

theorem n_head (σ : St) (r d : Nat) : (σ.head r d).n = σ.n := by unfold St.head; split <;> rfl
theorem get_head (σ : St) (r d i : Nat) : (σ.head r d).get i = σ.get i := by unfold St.head; split <;> rfl
theorem ver_head (σ : St) (r d i : Nat) : (σ.head r d).ver i = σ.ver i := by unfold St.head; split <;> rfl
theorem gh_head (σ : St) (r d : Nat) : (σ.head r d).gh = σ.gh := by unfold St.head; split <;> rfl

theorem onto_set {r d : Nat} {f : List Nat → List Nat} (h1 : Below (σ.ver r) (f (σ.ver r))) (h2 : (f (σ.ver r)).length = 5) {t : Ty} {m : Md} {H : List Path} {v : t.den} {q : Prop} (hq : 1 ≤ d → q) :
    Onto σ r ((σ.setRoot r t m H v).get r) q (((σ.setRoot r t m H v).setVer r f).head r d) where
  n := by rw [n_head]; exact n_setRoot r t m H v
  get i hi := by rw [get_head]; exact get_setRoot r t m H v i hi
  root := by rw [get_head]; rfl
  ver i hi := by rw [ver_head, ver_setVer, if_neg (fun e => hi e.symm), ver_setRoot]
  below := by rw [ver_head, ver_setVer, if_pos rfl, ver_setRoot]; exact h1
  vlen := by rw [ver_head, ver_setVer, if_pos rfl, ver_setRoot]; exact h2
  lent e he := by
    unfold St.head at he
    split at he
    · have := (mem_unhead he).1; simp only [St.setVer, lent_setRoot] at this; exact this
    · simp only [St.setVer, lent_setRoot] at he; exact he
  lentF j k hm := by
    unfold St.head
    split
    · refine unhead_mem ?_; simp only [St.setVer, lent_setRoot]; exact hm
    · simp only [St.setVer, lent_setRoot]; exact hm
  gh e he := by rw [gh_head] at he; simp only [St.setVer, gh_setRoot] at he; exact he
  head k hm := by
    unfold St.head at hm
    split at hm
    · exact absurd ⟨rfl, rfl⟩ (mem_unhead hm).2
    · rename_i hd; exact hq (Nat.pos_of_ne_zero hd)

theorem take_ok (h : Rel P C A X σ a w F) {r : Nat} {p : Path} {K : St → Option R} (hk : takeK σ r p K = some x) {t' : Ty} {m' : Md} {v' : t'.den} (hn : At σ r p t' m' [] v') :
    ∃ (A' : Cells) (σ' : St) (F' : Nat → FP) (cs : List Value) (ad : Option (Nat × Nat)) (Fv : FP), K σ' = some x ∧ (∀ b i, A b i → A' b i) ∧ Rel P C A' (fun b i => X b i + Fv b i) σ' a w F' ∧ σ'.n = σ.n ∧ Roots σ σ' ∧
      place σ a w r p = some ⟨t', [], cs, ad⟩ ∧ Rep P w A t' m' [] v' cs Fv := by
  obtain ⟨hr, t1, m1, H1, v1, cs, ad, Fv, kk, h1, h2, h3, h4, h5, h6, h7, h8⟩ := h.turn hk
  obtain ⟨e1, e2, e3, e4⟩ := hn.inj ⟨h2⟩
  subst e1; subst e2; subst e3
  have e4 := eq_of_heq e4
  subst e4
  obtain ⟨t0, m3, H3, v3, Fr, A3, k1, ⟨m0, H0, v0, k0⟩, k2, k3, k4⟩ := h8 _ _ _ h1 w A cs (fun _ _ => 0) (fun b i => X b i + Fv b i) (Ext.refl _ _) (fun _ _ h => h) (fun _ _ h => .inl h) (fun b i => Nat.le_refl _) h6 (fun _ => rfl) (Rep.holes _ h4)
  refine ⟨A3, _, _, cs, ad, Fv, k1, k2, k4 _ (onto_set (below_bumpAt _ (h.vlen r)) (len_bumpAt _ (h.vlen r)) .inl) (fun p' snap hb hok hl => ?_), ?_, roots_setRoot hr v3 k0 (fun i => by rw [get_head]; rfl), h3, h4⟩
  · refine ⟨0, False, ?_, ?_, ?_, Stab.zero (A := A) ad (Rep.holes _ h4)⟩
    all_goals
      unfold St.ok at hok
      rw [ver_head, ver_setVer, if_pos rfl, ver_setRoot] at hok
      have := ok_bumpAt (nidx p) (h.vlen r) hb hok
    · omega
    · intro; left; omega
    · omega
  · rw [n_head]; exact n_setRoot _ _ _ _ _

theorem onto_same {r : Nat} (hv : (σ.ver r).length = 5) {t : Ty} {m : Md} {H : List Path} {v : t.den} {q : Prop} (hq : q) : Onto σ r ((σ.setRoot r t m H v).get r) q (σ.setRoot r t m H v) :=
  ⟨n_setRoot _ _ _ _ _, fun i hi => get_setRoot _ _ _ _ _ i hi, rfl, fun i _ => ver_setRoot _ _ _ _ _ i, by rw [ver_setRoot]; exact Below.refl _, by rw [ver_setRoot]; exact hv,
    fun e he => by rw [lent_setRoot] at he; exact he, fun j k hm => by rw [lent_setRoot]; exact hm, fun e he => by rw [gh_setRoot] at he; exact he, fun _ _ => hq⟩

theorem freezeTo_ok (h : Rel P C A X σ a w F) {r : Nat} {p : Path} {m2 : Md} {K : St → Option R} (hk : freezeToK σ r p m2 K = some x) :
    ∃ (A' : Cells) (σ' : St) (F' : Nat → FP), K σ' = some x ∧ (∀ b i, A b i → A' b i) ∧ Rel P C A' X σ' a w F' ∧ σ'.n = σ.n ∧ Roots σ σ' := by
  obtain ⟨hr, t1, m1, H1, v1, cs, ad, Fv, kk, h1, h2, h3, h4, h5, h6, h7, h8⟩ := h.turn hk
  have hFr : ∀ b i, X b i + F r b i ≤ 1 := fun b i => by have := h.tot b i; have := le_sumF F hr b i; omega
  split at h1
  · rename_i hc
    simp only [Bool.and_eq_true, List.isEmpty_iff] at hc
    obtain ⟨rfl, hc⟩ := hc
    obtain ⟨F1, hF1, hrep⟩ := Rep.fits _ hc h4 (fun b i => by have := h5 b i; have := hFr b i; omega)
    have hrep' := hrep (fun b i => A b i ∨ (1 ≤ Fv b i ∧ F1 b i = 0)) (fun _ _ h => .inl h) (fun b i h1 h2 => .inr ⟨h1, h2⟩)
    obtain ⟨t0, m3, H3, v3, Fr, A3, k1, ⟨m0, H0, v0, k0⟩, k2, k3, k4⟩ := h8 _ _ _ h1 w (fun b i => A b i ∨ (1 ≤ Fv b i ∧ F1 b i = 0)) cs F1 X (Ext.refl _ _) (fun _ _ h => .inl h)
      (fun b i ha => ha.imp id fun ⟨h1, h2⟩ => ⟨by omega, by have := h5 b i; have := hFr b i; omega⟩) (fun b i => by have := hF1 b i; omega) h6 (fun _ => rfl) hrep'
    exact ⟨A3, _, _, k1, fun b i ha => k2 b i (.inl ha), k4 _ (onto_same (h.vlen r) (.inr rfl)) (fun p' snap hb hok hl => ⟨nidx p' + 1, True, by omega, fun _ => .inr trivial, fun _ => trivial,
      Stab.same ad h4 (fun _ _ _ _ h => h) (fun _ _ _ _ h => h) _ True⟩), n_setRoot _ _ _ _ _, roots_setRoot hr v3 k0 (fun i => rfl)⟩
  · cases h1

theorem freeze_ok (h : Rel P C A X σ a w F) {r : Nat} {p : Path} {K : St → Option R} (hk : freezeK σ r p K = some x) :
    ∃ (A' : Cells) (σ' : St) (F' : Nat → FP) (t' : Ty) (m' : Md) (v' : t'.den) (cs : List Value) (ad : Option (Nat × Nat)), K σ' = some x ∧ (∀ b i, A b i → A' b i) ∧ Rel P C A' X σ' a w F' ∧ σ'.n = σ.n ∧ Roots σ σ' ∧
      At σ r p t' m' [] v' ∧ place σ a w r p = some ⟨t', [], cs, ad⟩ ∧ Ro P w A' t' v' cs := by
  obtain ⟨hr, t1, m1, H1, v1, cs, ad, Fv, kk, h1, h2, h3, h4, h5, h6, h7, h8⟩ := h.turn hk
  have hFr : ∀ b i, X b i + F r b i ≤ 1 := fun b i => by have := h.tot b i; have := le_sumF F hr b i; omega
  split at h1
  · rename_i hc
    simp only [Bool.and_eq_true, List.isEmpty_iff] at hc
    obtain ⟨rfl, hc⟩ := hc
    have hro : Ro P w (fun b i => A b i ∨ 1 ≤ Fv b i) t1 v1 cs := Rep.toRo (fun _ _ h => .inl h) t1 h4 (fun b i hp => .inr hp)
    obtain ⟨t0, m3, H3, v3, Fr, A3, k1, ⟨m0, H0, v0, k0⟩, k2, k3, k4⟩ := h8 _ _ _ h1 w (fun b i => A b i ∨ 1 ≤ Fv b i) cs (fun _ _ => 0) X (Ext.refl _ _) (fun _ _ h => .inl h)
      (fun b i ha => ha.imp id fun h1 => ⟨by omega, by have := h5 b i; have := hFr b i; omega⟩) (fun b i => by omega) h6 (fun _ => rfl) (Ro.rep _ _ (roMd_noOwn _) hro)
    exact ⟨A3, _, _, t1, m1, v1, cs, ad, k1, fun b i ha => k2 b i (.inl ha), k4 _ (onto_same (h.vlen r) (.inr rfl)) (fun p' snap hb hok hl => ⟨nidx p' + 1, True, by omega, fun _ => .inr trivial, fun _ => trivial,
      Stab.same ad h4 (fun _ _ _ _ h => h) (fun _ _ _ _ h => h) _ True⟩), n_setRoot _ _ _ _ _, roots_setRoot hr v3 k0 (fun i => rfl), ⟨h2⟩, h3, Ro.mono (fun _ _ _ _ h => h) k2 _ hro⟩
  · cases h1

theorem castK_some {t t' : Ty} {v : t.den} {K : t'.den → Option R} (h : castK t t' v K = some x) : ∃ e : t = t', K (e ▸ v) = some x := by
  unfold castK at h
  split at h
  · rename_i e; exact ⟨e, h⟩
  · cases h

/-- A place in memory is given new data. 'Fv': what these own, which floats before. -/
theorem set_ok (h : Rel P C A X σ a w F) {r : Nat} {p : Path} {t : Ty} {m : Md} {v : t.den} {K : St → Option R} (hk : setK σ r p t m v K = some x) :
    r < σ.n ∧ ∃ (m' : Md) (H' : List Path) (v' : t.den) (cs : List Value) (ad : Option (Nat × Nat)) (F' : FP), At σ r p t m' H' v' ∧ place σ a w r p = some ⟨t, H', cs, ad⟩ ∧ Rep P w A t m' H' v' cs F' ∧
      (∀ b i, rngO ad t.sz b i + F' b i ≤ F r b i) ∧ (∀ b o, ad = some (b, o) → Has w b o cs ∧ ∀ j, j < t.sz → w.frozen? ⟨b, o + j, none⟩ = false) ∧
      ∀ (w2 : World) (A2 : Cells) (cs2 : List Value) (Fv X2 : FP), Ext w w2 (fun b i => X b i + (F' b i + rngO ad t.sz b i)) → (∀ b i, A b i → A2 b i) → (∀ b i, A2 b i → A b i ∨ (1 ≤ X b i + F' b i ∧ X2 b i + Fv b i = 0)) →
        (∀ b i, X2 b i + Fv b i ≤ X b i + F' b i) → (∀ b o, ad = some (b, o) → Has w2 b o cs2) → (ad = none → cs2 = cs) → Rep P w2 A2 t m [] v cs2 Fv →
        ∃ (A3 : Cells) (σ' : St) (Fr : FP), K σ' = some x ∧ (∀ b i, A2 b i → A3 b i) ∧ Rel P C A3 X2 σ' a w2 (updF F r Fr) ∧ σ'.n = σ.n ∧
          ∀ g : List Nat → List Nat, Below (σ.ver r) (g (σ.ver r)) → (g (σ.ver r)).length = 5 → cs2 = cs →
            (∀ (p' : Path) (snap : List Nat), Below snap (σ.ver r) → preB snap (g (σ.ver r)) = true → (snap.length = min 5 (1 + nidx p') ∨ snap.length = min 5 (2 + nidx p') ∨ snap.length = 5) →
              ∃ D full, nidx p' ≤ D + nidx p ∧ (snap.length = min 5 (2 + nidx p') → nidx p' < D + nidx p ∨ full) ∧ (snap.length = 5 → full) ∧ Stab D full w t H' cs ad w2 [] cs2) →
            Rel P C A3 X2 { σ' with vr := (σ.setVer r g).vr, lent := σ.lent } a w2 (updF F r Fr) := by
  obtain ⟨hr, t1, m1, H1, v1, cs, ad, Fv, kk, h1, h2, h3, h4, h5, h6, h7, h8⟩ := h.turn hk
  obtain ⟨e, h1⟩ := castK_some h1
  subst e
  refine ⟨hr, m1, H1, v1, cs, ad, Fv, ⟨h2⟩, h3, h4, h5, fun b o e => ⟨h6 b o e, h7 b o e⟩, fun w2 A2 cs2 Fv2 X2 g1 g2 g3 g4 g5 g6 g7 => ?_⟩
  obtain ⟨t0, m3, H3, v3, Fr, A3, k1, ⟨m0, H0, v0, k0⟩, k2, k3, k4⟩ := h8 m [] v h1 w2 A2 cs2 Fv2 X2 g1 g2 g3 g4 g5 g6 g7
  refine ⟨A3, _, Fr, k1, k2, k4 _ (onto_set ?_ ?_ .inl) (fun p' snap hb hok hl => ?_), ?_, fun g hg1 hg2 hcs hst => ?_⟩
  · split
    · exact below_bumpW (h.vlen r)
    · exact below_bumpAt _ (h.vlen r)
  · split
    · exact len_bumpW (h.vlen r)
    · exact len_bumpAt _ (h.vlen r)
  · unfold St.ok at hok
    rw [ver_head, ver_setVer, if_pos rfl, ver_setRoot] at hok
    by_cases hf : t.flat = true
    · rw [if_pos hf] at hok
      have := ok_bumpW (h.vlen r) hb hok
      exact ⟨nidx p' + 1, False, by omega, fun _ => .inl (by omega), fun _ => by omega, Stab.flat (A := A) ad g7 hf _⟩
    · rw [if_neg hf] at hok
      have := ok_bumpAt (nidx p) (h.vlen r) hb hok
      exact ⟨0, False, by omega, fun _ => .inl (by omega), fun _ => by omega, Stab.zero (A := A) ad g7⟩
  · rw [n_head]; exact n_setRoot _ _ _ _ _
  · refine k4 _ ⟨by rw [n_head]; exact n_setRoot _ _ _ _ _, fun i hi => ?_, ?_, fun i hi => ?_, ?_, ?_, fun e he => he, fun j k hm => hm, fun e he => ?_, fun _ _ => .inr hcs⟩ (fun p' snap hb hok hl => hst p' snap hb ?_ hl)
    · show (((σ.setRoot r t0 m3 H3 v3).setVer r _).head r _).get i = _
      rw [get_head]; exact get_setRoot r t0 m3 H3 v3 i hi
    · show (((σ.setRoot r t0 m3 H3 v3).setVer r _).head r _).get r = _
      rw [get_head]; rfl
    · show (σ.setVer r g).ver i = σ.ver i
      rw [ver_setVer, if_neg (fun e => hi e.symm)]
    · show Below _ ((σ.setVer r g).ver r)
      rw [ver_setVer, if_pos rfl]; exact hg1
    · show ((σ.setVer r g).ver r).length = 5
      rw [ver_setVer, if_pos rfl]; exact hg2
    · have he : e ∈ (((σ.setRoot r t0 m3 H3 v3).setVer r _).head r _).gh := he
      rw [gh_head] at he; simp only [St.setVer, gh_setRoot] at he; exact he
    · have hok : preB snap ((σ.setVer r g).ver r) = true := hok
      rw [ver_setVer, if_pos rfl] at hok; exact hok
end
end OT
