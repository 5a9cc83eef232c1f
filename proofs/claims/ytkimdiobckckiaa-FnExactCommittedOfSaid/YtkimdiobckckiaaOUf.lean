/- What is kept at a loop's head and behind a block. -/
import Derived.Test.YtkimdiobckckiaaOUe
set_option linter.unusedVariables false
set_option linter.unusedSimpArgs false
namespace OT
open Go

section
variable {P : Program} {C : Ctx} {A : Cells} {X : FP} {σ : St} {a : Act} {w : World} {F : Nat → FP} {R : Type} {x : R} {E : Env}

theorem look_map (f : Nat → Slot) : ∀ (live : List Nat) (i : Nat), lookN (live.map fun j => (j, f j)) i = if live.any (Nat.beq i) then some (f i) else none
  | [], i => rfl
  | j :: live, i => by
    simp only [List.map_cons, lookN, List.any_cons]
    by_cases hij : i = j
    · subst hij; simp
    · have h1 : Nat.beq j i = false := by
        cases hb : Nat.beq j i with
        | false => rfl
        | true => exact absurd (Nat.eq_of_beq_eq_true hb).symm hij
      have h2 : Nat.beq i j = false := by
        cases hb : Nat.beq i j with
        | false => rfl
        | true => exact absurd (Nat.eq_of_beq_eq_true hb) hij
      simp only [h1, h2, Bool.false_eq_true, if_false, Bool.false_or, look_map f live i]

theorem get_keep (live : List Nat) (fr : List (Nat × Md)) (σ : St) (i : Nat) : (keepF live fr σ).get i = if i < σ.n ∧ live.any (Nat.beq i) = true then fro fr i (keepSlot live fr σ i) else .dead := by
  unfold St.get keepF
  simp only [look_map]
  by_cases hi : i < σ.n
  · have h1 : Nat.blt i σ.n = true := by simpa [Nat.blt_eq] using hi
    simp only [h1, if_true, hi, true_and]
    split <;> simp_all
  · have h1 : Nat.blt i σ.n = false := by
      cases hb : Nat.blt i σ.n with
      | false => rfl
      | true => rw [Nat.blt_eq] at hb; exact absurd hb hi
    simp [h1, hi]

theorem ver_keep (live : List Nat) (fr : List (Nat × Md)) (σ : St) (i : Nat) : (keepF live fr σ).ver i = [0, 0, 0, 0, 0] := rfl

theorem zero_below {s : List Nat} (h : s.length ≤ 5) : Below (s.map fun _ => 0) [0, 0, 0, 0, 0] := by
  intro j y hj
  rw [List.getElem?_map] at hj
  cases hs : s[j]? with
  | none => rw [hs] at hj; cases hj
  | some z =>
    rw [hs] at hj
    injection hj with hj
    have := (List.getElem?_eq_some_iff.1 hs).1
    subst hj
    match j, this with
    | 0, _ | 1, _ | 2, _ | 3, _ | 4, _ => exact ⟨0, rfl, Nat.le_refl _⟩
    | j + 5, h' => omega

/-- A root that is kept as it is. -/
theorem place_keep {live : List Nat} {fr : List (Nat × Md)} {r : Nat} (hr : rootIn live fr r = true) {p : Path} {pl : Pl} (hp : place σ a w r p = some pl) : place (keepF live fr σ) a w r p = some pl := by
  have hlt := place_lt hp
  simp only [rootIn, Bool.and_eq_true] at hr
  unfold place at hp ⊢
  rw [get_keep, if_pos ⟨hlt, hr.1⟩]
  have hfr : lookN fr r = none := by
    cases hf : lookN fr r with
    | none => rfl
    | some m => have := hr.2; rw [hf] at this; cases this
  have : fro fr r (keepSlot live fr σ r) = keepSlot live fr σ r := by simp only [fro, hfr]
  rw [this]
  unfold keepSlot
  cases hg : σ.get r <;> rw [hg] at hp <;> first | exact hp | (simp [rootPl] at hp; done)

/-- One slot. -/
theorem slot_keep {live : List Nat} {fr : List (Nat × Md)} {i : Nat} {G : FP} (hs : SlotRel P A σ a w (tmp a i) (σ.get i) G) (hG : ∀ b k, G b k ≤ 1) :
    ∃ G' : FP, (∀ b k, G' b k ≤ G b k) ∧ ∀ A' : Cells, (∀ b k, A b k → A' b k) → (∀ b k, 1 ≤ G b k → G' b k = 0 → A' b k) → SlotRel P A' (keepF live fr σ) a w (tmp a i) (fro fr i (keepSlot live fr σ i)) G' := by
  have same : ∀ b k, A b k → ∀ u, ce w b k = some u → ce w b k = some u := fun _ _ _ _ h => h
  have dead : fro fr i .dead = .dead := by unfold fro; split <;> rfl
  have none0 : ∀ {s : Slot}, (∀ t m H v, s ≠ .own t m H v) → (∀ t m H v, s ≠ .box t m H v) → fro fr i s = s := fun {s} h1 h2 => by
    unfold fro
    split
    · rfl
    · cases s <;> first | rfl | exact absurd rfl (h1 _ _ _ _) | exact absurd rfl (h2 _ _ _ _)
  cases hg : σ.get i with
  | dead => exact ⟨fun _ _ => 0, fun _ _ => Nat.zero_le _, fun A' _ _ => by simp only [keepSlot, hg, dead]; trivial⟩
  | nils =>
    rw [hg] at hs
    exact ⟨fun _ _ => 0, fun _ _ => Nat.zero_le _, fun A' _ _ => by simp only [keepSlot, hg]; rw [none0 (by intros; simp) (by intros; simp)]; exact hs⟩
  | val t v =>
    rw [hg] at hs
    obtain ⟨cs, h1, h2⟩ := hs
    exact ⟨fun _ _ => 0, fun _ _ => Nat.zero_le _, fun A' hA _ => by simp only [keepSlot, hg]; rw [none0 (by intros; simp) (by intros; simp)]; exact ⟨cs, h1, Ro.mono same hA t h2⟩⟩
  | cp t v =>
    rw [hg] at hs
    exact ⟨fun _ _ => 0, fun _ _ => Nat.zero_le _, fun A' hA _ => by simp only [keepSlot, hg]; rw [none0 (by intros; simp) (by intros; simp)]; exact Ro.mono same hA (.ptr t) hs⟩
  | own t m H v =>
    rw [hg] at hs
    obtain ⟨cs, h1, h2⟩ := hs
    have hk : keepSlot live fr σ i = .own t m H v := by simp only [keepSlot, hg]
    rw [hk]
    unfold fro
    split
    · exact ⟨G, fun _ _ => Nat.le_refl _, fun A' hA _ => ⟨cs, h1, Rep.mono hA same (fun _ _ h => h) t h2 (fun _ _ => Nat.le_refl _) (fun _ _ _ _ h => h)⟩⟩
    · rename_i m1 hm
      simp only
      split
      · rename_i hc
        simp only [Bool.and_eq_true, List.isEmpty_iff] at hc
        obtain ⟨hH, hf⟩ := hc
        subst hH
        obtain ⟨G1, g1, g2⟩ := Rep.fits t hf h2 hG
        refine ⟨G1, g1, fun A' hA hgv => ?_⟩
        have hr := g2 A' hA hgv
        split
        · rename_i e; subst e; exact ⟨cs, h1, Rep.ro t (roMd_noOwn t) hr⟩
        · exact ⟨cs, h1, hr⟩
      · exact ⟨fun _ _ => 0, fun _ _ => Nat.zero_le _, fun A' _ _ => trivial⟩
  | box t m H v =>
    rw [hg] at hs
    obtain ⟨b, o, L, F1, s1, s2, s3, s4, s5, s6⟩ := hs
    have hk : keepSlot live fr σ i = .box t m H v := by simp only [keepSlot, hg]
    rw [hk]
    unfold fro
    split
    · exact ⟨G, fun _ _ => Nat.le_refl _, fun A' hA _ => ⟨b, o, L, F1, s1, s2, s3, s4, s5, Rep.mono hA same (fun _ _ h => h) t s6 (fun _ _ => Nat.le_refl _) (fun _ _ _ _ h => h)⟩⟩
    · rename_i m1 hm
      simp only
      split
      · rename_i hc
        simp only [Bool.and_eq_true, List.isEmpty_iff] at hc
        obtain ⟨hH, hf⟩ := hc
        subst hH
        obtain ⟨G1, g1, g2⟩ := Rep.fits t hf s6 (fun b' k => by have := s5 b' k; have := hG b' k; omega)
        refine ⟨fun b' k => rng b o t.sz b' k + G1 b' k, fun b' k => by have := s5 b' k; have := g1 b' k; show rng b o t.sz b' k + G1 b' k ≤ G b' k; omega, fun A' hA hgv => ⟨b, o, L, G1, s1, s2, s3, s4, fun _ _ => Nat.le_refl _, g2 A' hA fun b' k hp hz => ?_⟩⟩
        have h5 := s5 b' k; have h6 := hG b' k
        exact hgv b' k (by omega) (by show rng b o t.sz b' k + G1 b' k = 0; omega)
      · exact ⟨fun _ _ => 0, fun _ _ => Nat.zero_le _, fun A' _ _ => trivial⟩
  | ref r p snap =>
    rw [hg] at hs
    refine ⟨fun _ _ => 0, fun _ _ => Nat.zero_le _, fun A' _ _ => ?_⟩
    simp only [keepSlot, hg]
    split
    · rename_i hc
      simp only [Bool.and_eq_true] at hc
      rw [none0 (by intros; simp) (by intros; simp)]
      obtain ⟨pl, h1, h2, h3⟩ := hs.2 hc.1
      have hl : snap.length ≤ 5 := by rcases h3 with h3 | h3 <;> omega
      exact ⟨by rw [ver_keep]; exact zero_below hl, fun _ => ⟨pl, place_keep hc.2 h1, h2, by simpa using h3⟩⟩
    · rw [dead]; trivial
  | ptr r p snap =>
    rw [hg] at hs
    refine ⟨fun _ _ => 0, fun _ _ => Nat.zero_le _, fun A' _ _ => ?_⟩
    simp only [keepSlot, hg]
    split
    · rename_i hc
      simp only [Bool.and_eq_true] at hc
      rw [none0 (by intros; simp) (by intros; simp)]
      obtain ⟨pl, b, o, h1, h2, h3, h4⟩ := hs.2 hc.1
      have hl : snap.length ≤ 5 := by omega
      exact ⟨by rw [ver_keep]; exact zero_below hl, fun _ => ⟨pl, b, o, place_keep hc.2 h1, h2, h3, by simpa using h4⟩⟩
    · rw [dead]; trivial
  | sub r p snap lo hi =>
    rw [hg] at hs
    refine ⟨fun _ _ => 0, fun _ _ => Nat.zero_le _, fun A' _ _ => ?_⟩
    simp only [keepSlot, hg]
    split
    · rename_i hc
      simp only [Bool.and_eq_true] at hc
      rw [none0 (by intros; simp) (by intros; simp)]
      obtain ⟨pl, e, xa, n, cap, xa', cap', h1, h2, h3, h4, h5, h6, h7, h8, h9, h10, h11⟩ := hs.2 hc.1
      have hl : snap.length ≤ 5 := by rcases h11 with h11 | h11 <;> omega
      exact ⟨by rw [ver_keep]; exact zero_below hl, fun _ => ⟨pl, e, xa, n, cap, xa', cap', place_keep hc.2 h1, h2, h3, h4, h5, h6, h7, h8, h9, h10, by simpa using h11⟩⟩
    · rw [dead]; trivial
  | tup xs =>
    rw [hg] at hs
    obtain ⟨vs, Fi, h1, h2, h3⟩ := hs
    refine ⟨G, fun _ _ => Nat.le_refl _, fun A' hA _ => ?_⟩
    simp only [keepSlot, hg]
    rw [none0 (by intros; simp) (by intros; simp)]
    exact ⟨vs, Fi, h1, h2, fun j y hy => by
      obtain ⟨v, g1, g2⟩ := h3 j y hy
      exact ⟨v, g1, g2.imp id fun ⟨cs, g3, g4⟩ => ⟨cs, g3, Rep.mono hA same (fun _ _ h => h) _ g4 (fun _ _ => Nat.le_refl _) (fun _ _ _ _ h => h)⟩⟩⟩

theorem keepF_ok (h : Rel0 P C A σ a w F) (live : List Nat) (fr : List (Nat × Md)) : RelE P C (keepF live fr σ) a w := by
  have hle : ∀ i, i < σ.n → ∀ b k, F i b k ≤ 1 := fun i hi b k => by have := h.tot b k; have := le_sumF F hi b k; omega
  -- what each slot keeps
  have each : ∀ i, ∃ G' : FP, (∀ b k, i < σ.n → G' b k ≤ F i b k) ∧ (¬ i < σ.n → ∀ b k, G' b k = 0) ∧ ∀ A' : Cells, (∀ b k, A b k → A' b k) → (∀ b k, 1 ≤ F i b k → G' b k = 0 → A' b k) → i < σ.n → SlotRel P A' (keepF live fr σ) a w (tmp a i) ((keepF live fr σ).get i) G' := by
    intro i
    by_cases hi : i < σ.n
    · by_cases hl : live.any (Nat.beq i) = true
      · obtain ⟨G', g1, g2⟩ := slot_keep (live := live) (fr := fr) (h.slots i hi) (hle i hi)
        exact ⟨G', fun b k _ => g1 b k, fun hn => absurd hi hn, fun A' hA hgv _ => by rw [get_keep, if_pos ⟨hi, hl⟩]; exact g2 A' hA hgv⟩
      · exact ⟨fun _ _ => 0, fun _ _ _ => Nat.zero_le _, fun _ _ _ => rfl, fun A' _ _ _ => by rw [get_keep, if_neg (fun hc => hl hc.2)]; trivial⟩
    · exact ⟨fun _ _ => 0, fun _ _ _ => Nat.zero_le _, fun _ _ _ => rfl, fun A' _ _ hi' => absurd hi' hi⟩
  obtain ⟨F', hF'⟩ := Classical.axiomOfChoice each
  have hsum : ∀ b k, sumF σ.n F' b k ≤ sumF σ.n F b k := fun b k => sumF_le b k fun j hj => (hF' j).1 b k hj
  refine ⟨fun b k => A b k ∨ ∃ j, j < σ.n ∧ 1 ≤ F j b k ∧ F' j b k = 0, F', ?_⟩
  have hold : ∀ {b k j}, j < σ.n → 1 ≤ F j b k → 1 ≤ 0 + sumF σ.n F b k := fun {b k j} hj hp => by have := le_sumF F hj b k; omega
  refine ⟨h.size, h.defers, fun i hi => (hF' i).2.2 _ (fun _ _ h => .inl h) (fun b k hp hz => .inr ⟨i, hi, hp, hz⟩) hi, (fun d r p snap hm => by cases hm), fun b k => by have := h.tot b k; have := hsum b k; show 0 + sumF σ.n F' b k ≤ 1; omega, fun b k hp ha => ?_, fun b k hp => ?_,
    fun i => by rw [ver_keep]; rfl, h.ext, fun b k hp => h.own b k (by have := hsum b k; have hp : 1 ≤ 0 + sumF σ.n F' b k := hp; show 1 ≤ 0 + sumF σ.n F b k; omega), fun b k ha => .inl (h.a0 b k ha), fun b k ha => ?_, h.lentP, fun r t m H v hg hl => ?_, fun j k hm R' hR' => ?_⟩
  · have hp : 1 ≤ 0 + sumF σ.n F' b k := hp
    rcases ha with ha | ⟨j, hj, h1, h2⟩
    · exact h.dis b k (by have := hsum b k; show 1 ≤ 0 + sumF σ.n F b k; omega) ha
    · obtain ⟨i, hi, hpi⟩ := sumF_pos (show 1 ≤ sumF σ.n F' b k by omega)
      have hne : i ≠ j := fun e => by subst e; omega
      have := le_sumF2 F hi hj hne b k
      have := (hF' i).1 b k hi
      have := h.tot b k
      omega
  · rcases hp with hp | (ha | ⟨j, hj, h1, _⟩)
    · exact h.bnd b k (.inl (by have := hsum b k; have hp : 1 ≤ 0 + sumF σ.n F' b k := hp; show 1 ≤ 0 + sumF σ.n F b k; omega))
    · exact h.bnd b k (.inr ha)
    · exact h.bnd b k (.inl (hold hj h1))
  · rcases ha with ha | ⟨j, hj, h1, _⟩
    · exact h.a1 b k ha
    · exact .inr (h.own b k (hold hj h1))
  · rw [get_keep] at hg
    split at hg
    · have : ∃ m0 H0 v0, σ.get r = .box t m0 H0 v0 := by
        unfold fro at hg
        split at hg
        · unfold keepSlot at hg
          cases hgr : σ.get r <;> rw [hgr] at hg <;> simp only at hg <;> first
            | (cases hg; done)
            | (split at hg <;> cases hg; done)
            | (injection hg with e1; subst e1; exact ⟨_, _, _, rfl⟩)
        · split at hg
          · split at hg
            · split at hg <;> cases hg
            · cases hg
          · rename_i t0 m0 H0 v0 hk
            split at hg
            · injection hg with e1
              subst e1
              unfold keepSlot at hk
              cases hgr : σ.get r <;> rw [hgr] at hk <;> simp only at hk <;> first
                | (cases hk; done)
                | (split at hk <;> cases hk; done)
                | (injection hk with e1; subst e1; exact ⟨_, _, _, rfl⟩)
            · cases hg
          · rename_i hn1 hn2
            exact absurd hg (hn2 _ _ _ _)
      obtain ⟨m0, H0, v0, hg0⟩ := this
      exact h.whole r t m0 H0 v0 hg0 hl
    · cases hg
  · have hroot : rootPl w (tmp a j) (σ.get j) = some R' ∨ ∃ H0, rootPl w (tmp a j) (σ.get j) = some { R' with H := H0 } := by
      rw [get_keep] at hR'
      split at hR'
      · unfold fro at hR'
        split at hR'
        · left
          unfold keepSlot at hR'
          cases hgr : σ.get j <;> rw [hgr] at hR' <;> simp only at hR' <;> first
            | exact hR'
            | (simp [rootPl] at hR'; done)
            | (split at hR' <;> simp [rootPl] at hR'; done)
        · split at hR'
          · rename_i t0 m0 H0 v0 hk
            have hgr : σ.get j = .own t0 m0 H0 v0 := by
              unfold keepSlot at hk
              cases hgr : σ.get j <;> rw [hgr] at hk <;> simp only at hk <;> first
                | (cases hk; done)
                | (split at hk <;> cases hk; done)
                | exact hk
            split at hR'
            · split at hR'
              · simp [rootPl] at hR'
              · right
                rw [hgr]
                simp only [rootPl, Option.some.injEq] at hR' ⊢
                subst hR'
                exact ⟨H0, rfl⟩
            · simp [rootPl] at hR'
          · rename_i t0 m0 H0 v0 hk
            have hgr : σ.get j = .box t0 m0 H0 v0 := by
              unfold keepSlot at hk
              cases hgr : σ.get j <;> rw [hgr] at hk <;> simp only at hk <;> first
                | (cases hk; done)
                | (split at hk <;> cases hk; done)
                | exact hk
            split at hR'
            · right
              rw [hgr]
              simp only [rootPl] at hR' ⊢
              split at hR'
              · simp only [Option.some.injEq] at hR' ⊢
                subst hR'
                exact ⟨H0, rfl⟩
              · cases hR'
            · simp [rootPl] at hR'
          · rename_i hn1 hn2
            left
            unfold keepSlot at hR' hn1 hn2
            cases hgr : σ.get j <;> rw [hgr] at hR' hn1 hn2 <;> simp only at hR' hn1 hn2 <;> first
              | exact hR'
              | (simp [rootPl] at hR'; done)
              | (split at hR' <;> simp [rootPl] at hR'; done)
      · simp [rootPl] at hR'
    rcases hroot with hr | ⟨H0, hr⟩
    · exact h.lentS j k hm R' hr
    · have := h.lentS j k hm _ hr
      exact this

theorem keep_eq (live : List Nat) (σ : St) : keep live σ = keepF live [] σ := rfl
theorem keep_ok (h : Rel0 P C A σ a w F) (live : List Nat) : RelE P C (keep live σ) a w := by rw [keep_eq]; exact keepF_ok h live []
end
end OT
