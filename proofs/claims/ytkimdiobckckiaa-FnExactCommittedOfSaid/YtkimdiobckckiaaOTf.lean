/- Places in data: what is there, and what becomes of the whole when it turns. -/
import Derived.Test.YtkimdiobckckiaaOTe
set_option linter.unusedVariables false
set_option linter.unusedSimpArgs false
namespace OT
open Go

def rd (w : World) (b o n : Nat) : List Value := (List.range n).map fun j => (ce w b (o + j)).getD undef
theorem rd_length (w : World) (b o n : Nat) : (rd w b o n).length = n := by simp [rd]
theorem rd_of_has {w : World} {b o : Nat} {L : List Value} {n : Nat} (h : Has w b o L) (hn : L.length = n) : rd w b o n = L := by
  subst hn
  apply List.ext_getElem?
  intro j
  unfold rd
  rw [List.getElem?_map]
  by_cases hj : j < L.length
  · rw [List.getElem?_range hj]
    have := h j L[j] (List.getElem?_eq_getElem hj)
    simp [this, List.getElem?_eq_getElem hj]
  · simp [List.getElem?_eq_none (Nat.le_of_not_lt hj), List.getElem?_eq_none (l := List.range L.length) (by simpa using Nat.le_of_not_lt hj)]

structure Pl where
  t : Ty
  H : List Path
  cs : List Value
  ad : Option (Nat × Nat)
def shiftA (ad : Option (Nat × Nat)) (k : Nat) : Option (Nat × Nat) := ad.map fun x => (x.1, x.2 + k)

/-- A place in data that lie in memory. -/
def plc (w : World) : Path → Ty → List Path → List Value → Option (Nat × Nat) → Option Pl
  | [], t, H, cs, ad => some ⟨t, H, cs, ad⟩
  | .fst :: p, .pair a _, H, cs, ad => if hole H then none else plc w p a (H.filterMap stripF) (cs.take a.sz) ad
  | .snd :: p, .pair a b, H, cs, ad => if hole H then none else plc w p b (H.filterMap stripS) (cs.drop a.sz) (shiftA ad a.sz)
  | .idx i :: p, .slc e, H, cs, _ => if hole H then none else match cs with
    | [.slice (some a) n _] => if i < n then plc w p e (H.filterMap (stripI i)) (rd w a.block (a.off + i * e.sz) e.sz) (some (a.block, a.off + i * e.sz)) else none
    | _ => none
  | .aix i :: p, .arr n e, H, cs, ad => if H.isEmpty then (if i < n then plc w p e [] ((cs.drop (i * e.sz)).take e.sz) (shiftA ad (i * e.sz)) else none) else none
  | _, _, _, _, _ => none

def isSlc : Ty → Bool
  | .slc _ | .map _ _ => true
  | _ => false

/-- Places whose paths go through no more than 'd' heads of slices stay where they are. 'full': and hold what they held. -/
def Stab (d : Nat) (full : Prop) (w : World) (t : Ty) (H : List Path) (cs : List Value) (ad : Option (Nat × Nat)) (w2 : World) (H2 : List Path) (cs2 : List Value) : Prop :=
  ∀ q pl, nidx q ≤ d → plc w q t H cs ad = some pl → ∃ H' cs', plc w2 q t H2 cs2 ad = some ⟨pl.t, H', cs', pl.ad⟩ ∧ ((nidx q < d ∧ isSlc pl.t = true) ∨ full → cs' = pl.cs)

theorem holeAtK_some {R : Type} {H : List Path} {i : Nat} {K : List Path → Option R} {r : R} (h : holeAtK H i K = some r) :
    K (H.filterMap (stripI i)) = some r ∧ (∀ j, j ≠ i → H.filterMap (stripI j) = []) ∧ hole H = false := by
  unfold holeAtK at h
  split at h
  · exact ⟨h, fun _ _ => rfl, rfl⟩
  · rename_i j q
    split at h
    · rename_i hij; subst hij
      refine ⟨by simpa [stripI] using h, fun j hj => by simp [stripI, hj], rfl⟩
    · cases h
  · cases h

theorem holeAtK_eq {R S : Type} {H : List Path} {i : Nat} {K : List Path → Option R} {r : R} (h : holeAtK H i K = some r) (K2 : List Path → Option S) :
    holeAtK H i K2 = K2 (H.filterMap (stripI i)) := by
  unfold holeAtK at h ⊢
  split at h
  · rfl
  · rename_i j q
    split at h
    · rename_i hij; subst hij
      simp [stripI]
    · cases h
  · cases h

theorem strip_map_fst (H : List Path) : (H.map (.fst :: ·)).filterMap stripF = H := by
  induction H with
  | nil => rfl
  | cons a H ih => simp only [List.map_cons, List.filterMap_cons, stripF, ih]
theorem strip_map_snd (H : List Path) : (H.map (.snd :: ·)).filterMap stripS = H := by
  induction H with
  | nil => rfl
  | cons a H ih => simp only [List.map_cons, List.filterMap_cons, stripS, ih]
theorem strip_map_fs (H : List Path) : (H.map (.snd :: ·)).filterMap stripF = [] := by
  induction H with
  | nil => rfl
  | cons a H ih => simp [stripF] at *
theorem strip_map_sf (H : List Path) : (H.map (.fst :: ·)).filterMap stripS = [] := by
  induction H with
  | nil => rfl
  | cons a H ih => simp [stripS] at *
theorem strip_map_idx (i : Nat) (H : List Path) : (H.map (.idx i :: ·)).filterMap (stripI i) = H := by
  induction H with
  | nil => rfl
  | cons a H ih => simp only [List.map_cons, List.filterMap_cons, stripI, if_true, ih]
theorem strip_map_idx_ne {i j : Nat} (h : j ≠ i) (H : List Path) : (H.map (.idx i :: ·)).filterMap (stripI j) = [] := by
  induction H with
  | nil => rfl
  | cons a H ih => simp [stripI, h] at *
theorem hole_map (s : Step) (H : List Path) : hole (H.map (s :: ·)) = false := by
  induction H with
  | nil => rfl
  | cons a H ih => simp [hole] at *
theorem hole_append (H1 H2 : List Path) : hole (H1 ++ H2) = (hole H1 || hole H2) := by simp [hole]

/-- Where a place lies does not hang on what was moved. -/
theorem plc_H {w : World} : ∀ (q : Path) (t : Ty) {H H2 : List Path} {cs : List Value} {ad : Option (Nat × Nat)} {pl pl2 : Pl}, plc w q t H cs ad = some pl → plc w q t H2 cs ad = some pl2 → pl2.t = pl.t ∧ pl2.cs = pl.cs ∧ pl2.ad = pl.ad := by
  intro q
  induction q with
  | nil => intro t H H2 cs ad pl pl2 h h2; simp only [plc, Option.some.injEq] at h h2; subst h; subst h2; exact ⟨rfl, rfl, rfl⟩
  | cons s q ih =>
    intro t H H2 cs ad pl pl2 h h2
    cases t with
    | pair a b =>
      cases s with
      | fst => simp only [plc] at h h2; split at h; cases h; split at h2; cases h2; exact ih a h h2
      | snd => simp only [plc] at h h2; split at h; cases h; split at h2; cases h2; exact ih b h h2
      | _ => simp [plc] at h
    | slc e =>
      cases s with
      | idx i =>
        simp only [plc] at h h2
        split at h
        · cases h
        · split at h2
          · cases h2
          · split at h
            · split at h
              · rename_i hi; simp only [hi, if_true] at h2; exact ih e h h2
              · cases h
            · cases h
      | _ => simp [plc] at h
    | arr n e =>
      cases s with
      | aix i =>
        simp only [plc] at h h2
        split at h
        · split at h
          · split at h2
            · exact ih e h h2
            · cases h2
          · cases h
        · cases h
      | _ => simp [plc] at h
    | _ => cases s <;> simp [plc] at h

section
variable {P : Program}

/-- Places in data that nobody has turned. -/
theorem plc_frame {w w2 : World} {A : Cells} (hA : ∀ b i, A b i → ∀ u, ce w b i = some u → ce w2 b i = some u) :
    ∀ (q : Path) (t : Ty) {m : Md} {H : List Path} {v : t.den} {cs : List Value} {F : FP} {ad : Option (Nat × Nat)} {pl : Pl}, Rep P w A t m H v cs F → (∀ b i, 1 ≤ F b i → ∀ u, ce w b i = some u → ce w2 b i = some u) →
    plc w q t H cs ad = some pl → plc w2 q t H cs ad = some pl := by
  intro q
  induction q with
  | nil => intro t m H v cs F ad pl _ _ h; exact h
  | cons s q ih =>
    intro t m H v cs F ad pl hr hF h
    cases t with
    | pair a b =>
      obtain ⟨h0, F1, F2, hs, h1, h2⟩ := hr
      cases s with
      | fst => simp only [plc, h0, if_false] at h ⊢; exact ih a h1 (fun b i hp => hF b i (by have := hs b i; omega)) h
      | snd => simp only [plc, h0, if_false] at h ⊢; exact ih b h2 (fun b i hp => hF b i (by have := hs b i; omega)) h
      | idx i => simp [plc] at h
      | aix i => simp [plc] at h
    | slc e =>
      cases s with
      | fst => simp [plc] at h
      | snd => simp [plc] at h
      | aix i => simp [plc] at h
      | idx i =>
        simp only [Rep] at hr
        simp only [plc] at h ⊢
        split at h
        · cases h
        · rename_i hh
          rw [if_neg hh]
          rw [if_neg hh] at hr
          split at hr
          · obtain ⟨a, cap, rfl, h2, h3, h4, h5⟩ := hr
            cases a with
            | none => cases h
            | some ad0 =>
              obtain ⟨g1, g2, g3, Fi, g4, g5⟩ := h5 ad0 rfl
              simp only at h ⊢
              split at h
              · rename_i hi
                rw [if_pos hi]
                obtain ⟨L, hl, hL, hrep⟩ := g5 i _ (List.getElem?_eq_getElem hi)
                have hlt : (i + 1) * e.sz ≤ cap * e.sz := Nat.mul_le_mul_right _ (by omega)
                rw [Nat.add_mul] at hlt
                have hL2 : Has w2 ad0.block (i * e.sz) L := fun j u hu => by
                  have hj : j < e.sz := hl ▸ (List.getElem?_eq_some_iff.1 hu).1
                  refine hF _ _ ?_ u (hL j u hu)
                  have := g4 ad0.block (i * e.sz + j)
                  have h0 : i * e.sz + j < cap * e.sz := by omega
                  simp [rng, h0] at this; omega
                rw [g1, Nat.zero_add, rd_of_has hL hl] at h
                rw [g1, Nat.zero_add, rd_of_has hL2 hl]
                exact ih e hrep (fun b k hp => hF b k (by have := g4 b k; have := le_sumF Fi hi b k; omega)) h
              · cases h
          · obtain ⟨rfl, hno, a, cap, rfl, h2, h3, h4⟩ := hr
            cases a with
            | none => cases h
            | some ad0 =>
              simp only at h ⊢
              split at h
              · rename_i hi
                rw [if_pos hi]
                obtain ⟨L, hl, hL, hrep⟩ := (h4 ad0 rfl).2 i _ (List.getElem?_eq_getElem hi)
                rw [rd_of_has (fun j u hu => (hL j u hu).1) hl] at h
                rw [rd_of_has (fun j u hu => hA _ _ (hL j u hu).2 u (hL j u hu).1) hl]
                exact ih e (Ro.rep e (fun _ _ => 0) hno hrep) (fun b k hp => by simp at hp) h
              · cases h
    | arr n e =>
      cases s with
      | fst => simp [plc] at h
      | snd => simp [plc] at h
      | idx i => simp [plc] at h
      | aix i =>
        obtain ⟨rfl, hf, hl, hlen, hr⟩ := hr
        simp only [plc, List.isEmpty_nil, if_true] at h ⊢
        split at h
        · rename_i hi
          rw [if_pos hi]
          exact ih e (Ro.flat e (m := .leaf) (fun _ _ => 0) hf (hr i _ (List.getElem?_eq_getElem (by rw [hl]; exact hi)))) (fun b k hp => by simp at hp) h
        · cases h
    | _ => cases s <;> simp [plc] at h

/-- The cells of a place are owned, or nobody's to turn. -/
theorem plc_cells {w : World} {A : Cells} {S : Nat → Nat → Prop} (hA : ∀ b i, A b i → S b i) :
    ∀ (q : Path) (t : Ty) {m : Md} {H : List Path} {v : t.den} {cs : List Value} {F : FP} {ad : Option (Nat × Nat)} {pl : Pl}, Rep P w A t m H v cs F → (∀ b i, 1 ≤ F b i → S b i) →
    (∀ b o, ad = some (b, o) → ∀ j, j < t.sz → S b (o + j)) → plc w q t H cs ad = some pl → ∀ b o, pl.ad = some (b, o) → ∀ j, j < pl.t.sz → S b (o + j) := by
  intro q
  induction q with
  | nil => intro t m H v cs F ad pl _ _ had h; simp only [plc, Option.some.injEq] at h; subst h; exact had
  | cons s q ih =>
    intro t m H v cs F ad pl hr hF had h
    cases t with
    | pair a b =>
      obtain ⟨h0, F1, F2, hs, h1, h2⟩ := hr
      cases s with
      | fst => simp only [plc, h0, if_false] at h; exact ih a h1 (fun b i hp => hF b i (by have := hs b i; omega)) (fun b' o e j hj => had b' o e j (by simp only [Ty.sz]; omega)) h
      | snd =>
        simp only [plc, h0, if_false] at h
        refine ih b h2 (fun b i hp => hF b i (by have := hs b i; omega)) (fun b' o e j hj => ?_) h
        cases ad with
        | none => cases e
        | some y =>
          simp only [shiftA, Option.map_some, Option.some.injEq, Prod.mk.injEq] at e
          obtain ⟨rfl, rfl⟩ := e
          have := had y.1 y.2 rfl (a.sz + j) (by simp only [Ty.sz]; omega)
          rwa [Nat.add_assoc]
      | idx i => simp [plc] at h
      | aix i => simp [plc] at h
    | slc e =>
      cases s with
      | fst => simp [plc] at h
      | snd => simp [plc] at h
      | aix i => simp [plc] at h
      | idx i =>
        simp only [Rep] at hr
        simp only [plc] at h
        split at h
        · cases h
        · rename_i hh
          rw [if_neg hh] at hr
          split at hr
          · obtain ⟨a, cap, rfl, h2, h3, h4, h5⟩ := hr
            cases a with
            | none => cases h
            | some ad0 =>
              obtain ⟨g1, g2, g3, Fi, g4, g5⟩ := h5 ad0 rfl
              simp only at h
              split at h
              · rename_i hi
                obtain ⟨L, hl, hL, hrep⟩ := g5 i _ (List.getElem?_eq_getElem hi)
                have hlt : (i + 1) * e.sz ≤ cap * e.sz := Nat.mul_le_mul_right _ (by omega)
                rw [Nat.add_mul] at hlt
                rw [g1, Nat.zero_add, rd_of_has hL hl] at h
                refine ih e hrep (fun b k hp => hF b k (by have := g4 b k; have := le_sumF Fi hi b k; omega)) (fun b' o e' j hj => ?_) h
                simp only [Option.some.injEq, Prod.mk.injEq] at e'
                obtain ⟨rfl, rfl⟩ := e'
                refine hF _ _ ?_
                have := g4 ad0.block (i * e.sz + j)
                have h0 : i * e.sz + j < cap * e.sz := by omega
                simp [rng, h0] at this; omega
              · cases h
          · obtain ⟨rfl, hno, a, cap, rfl, h2, h3, h4⟩ := hr
            cases a with
            | none => cases h
            | some ad0 =>
              simp only at h
              split at h
              · rename_i hi
                obtain ⟨L, hl, hL, hrep⟩ := (h4 ad0 rfl).2 i _ (List.getElem?_eq_getElem hi)
                rw [rd_of_has (fun j u hu => (hL j u hu).1) hl] at h
                refine ih e (Ro.rep e (fun _ _ => 0) hno hrep) (fun b k hp => by simp at hp) (fun b' o e' j hj => ?_) h
                simp only [Option.some.injEq, Prod.mk.injEq] at e'
                obtain ⟨rfl, rfl⟩ := e'
                exact hA _ _ (hL j _ (List.getElem?_eq_getElem (by omega))).2
              · cases h
    | arr n e =>
      cases s with
      | fst => simp [plc] at h
      | snd => simp [plc] at h
      | idx i => simp [plc] at h
      | aix i =>
        obtain ⟨rfl, hf, hl, hlen, hr⟩ := hr
        simp only [plc, List.isEmpty_nil, if_true] at h
        split at h
        · rename_i hi
          refine ih e (Ro.flat e (m := .leaf) (fun _ _ => 0) hf (hr i _ (List.getElem?_eq_getElem (by rw [hl]; exact hi)))) (fun b k hp => by simp at hp) (fun b' o e' j hj => ?_) h
          cases ad with
          | none => cases e'
          | some y =>
            simp only [shiftA, Option.map_some, Option.some.injEq, Prod.mk.injEq] at e'
            obtain ⟨rfl, rfl⟩ := e'
            have hlt : (i + 1) * e.sz ≤ n * e.sz := Nat.mul_le_mul_right _ hi
            rw [Nat.add_mul] at hlt
            have := had y.1 y.2 rfl (i * e.sz + j) (by simp only [Ty.sz]; omega)
            rwa [Nat.add_assoc]
        · cases h
    | _ => cases s <;> simp [plc] at h

/-- Data of a type have the same places above all heads. -/
theorem plc_typed {w w2 : World} {A A2 : Cells} :
    ∀ (q : Path) (t : Ty) {m m2 : Md} {H H2 : List Path} {v v2 : t.den} {cs cs2 : List Value} {F F2 : FP} {ad : Option (Nat × Nat)} {pl : Pl},
    Rep P w2 A2 t m2 H2 v2 cs2 F2 → (nidx q = 0 ∨ t.flat = true) →
    plc w q t H cs ad = some pl → ∃ H' cs', plc w2 q t H2 cs2 ad = some ⟨pl.t, H', cs', pl.ad⟩ ∧ (t.flat = true → isSlc pl.t = false) := by
  intro q
  induction q with
  | nil =>
    intro t m m2 H H2 v v2 cs cs2 F F2 ad pl hr hq h
    simp only [plc, Option.some.injEq] at h
    subst h
    exact ⟨_, _, rfl, fun hf => by cases t <;> simp_all [Ty.flat, isSlc]⟩
  | cons s q ih =>
    intro t m m2 H H2 v v2 cs cs2 F F2 ad pl hr hq h
    cases t with
    | pair a b =>
      obtain ⟨h0, F1, F2, hs, h1, h2⟩ := hr
      simp only [Ty.flat, Bool.and_eq_true] at hq ⊢
      cases s with
      | fst =>
        simp only [plc, h0, if_false] at h ⊢
        split at h
        · cases h
        · obtain ⟨H', cs', h3, h4⟩ := ih a (v := v.1) (m := .leaf) (F := F) h1 (hq.imp (fun h => by simpa [nidx] using h) (·.1)) h
          exact ⟨H', cs', by simpa using h3, fun hf => h4 hf.1⟩
      | snd =>
        simp only [plc, h0, if_false] at h ⊢
        split at h
        · cases h
        · obtain ⟨H', cs', h3, h4⟩ := ih b (v := v.2) (m := .leaf) (F := F) h2 (hq.imp (fun h => by simpa [nidx] using h) (·.2)) h
          exact ⟨H', cs', by simpa using h3, fun hf => h4 hf.2⟩
      | idx i => simp [plc] at h
      | aix i => simp [plc] at h
    | slc e =>
      cases s with
      | fst => simp [plc] at h
      | snd => simp [plc] at h
      | aix i => simp [plc] at h
      | idx i => simp [nidx, Ty.flat] at hq
    | arr n e =>
      cases s with
      | fst => simp [plc] at h
      | snd => simp [plc] at h
      | idx i => simp [plc] at h
      | aix i =>
        obtain ⟨rfl, hf, hl, hlen, hr⟩ := hr
        simp only [plc, List.isEmpty_nil, if_true] at h ⊢
        split at h
        · split at h
          · rename_i hi
            rw [if_pos hi]
            obtain ⟨H', cs', h3, h4⟩ := ih e (v := e.zero) (m := .leaf) (F := F) (Ro.flat e (m := .leaf) (fun _ _ => 0) hf (hr i _ (List.getElem?_eq_getElem (by rw [hl]; exact hi)))) (.inr hf) h
            exact ⟨H', cs', h3, fun _ => h4 hf⟩
          · cases h
        · cases h
    | _ => cases s <;> simp [plc] at h

theorem Stab.zero {w w2 : World} {A A2 : Cells} {t : Ty} {m2 : Md} {H H2 : List Path} {v2 : t.den} {cs cs2 : List Value} {F2 : FP} (ad : Option (Nat × Nat)) (h : Rep P w2 A2 t m2 H2 v2 cs2 F2) : Stab 0 False w t H cs ad w2 H2 cs2 := by
  intro q pl hq hp
  obtain ⟨H', cs', h1, _⟩ := plc_typed (A := A) (m := m2) (v := v2) (F := F2) q t h (.inl (by omega)) hp
  exact ⟨H', cs', h1, fun h => by rcases h with h | h; omega; exact h.elim⟩
theorem Stab.flat {w w2 : World} {A A2 : Cells} {t : Ty} {m2 : Md} {H H2 : List Path} {v2 : t.den} {cs cs2 : List Value} {F2 : FP} (ad : Option (Nat × Nat)) (h : Rep P w2 A2 t m2 H2 v2 cs2 F2) (hf : t.flat = true) (d : Nat) : Stab d False w t H cs ad w2 H2 cs2 := by
  intro q pl hq hp
  obtain ⟨H', cs', h1, h2⟩ := plc_typed (A := A) (m := m2) (v := v2) (F := F2) q t h (.inr hf) hp
  exact ⟨H', cs', h1, fun h => by rcases h with ⟨_, hs⟩ | h; rw [h2 hf] at hs; cases hs; exact h.elim⟩
theorem Stab.same {w w2 : World} {A : Cells} {t : Ty} {m : Md} {H : List Path} {v : t.den} {cs : List Value} {F : FP} (ad : Option (Nat × Nat)) (h : Rep P w A t m H v cs F)
    (hA : ∀ b i, A b i → ∀ u, ce w b i = some u → ce w2 b i = some u) (hF : ∀ b i, 1 ≤ F b i → ∀ u, ce w b i = some u → ce w2 b i = some u) (d : Nat) (full : Prop) : Stab d full w t H cs ad w2 H cs := by
  intro q pl hq hp
  exact ⟨pl.H, pl.cs, plc_frame hA q t h hF hp, fun _ => rfl⟩
end
end OT
