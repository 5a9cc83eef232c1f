/- Calls, second part: arguments. -/
import Derived.Test.YtkimdiobckckiaaOUa
set_option linter.unusedVariables false
set_option linter.unusedSimpArgs false
namespace OT
open Go

section
variable {P : Program} {C : Ctx} {A : Cells} {X : FP} {σ : St} {a : Act} {w : World} {F : Nat → FP} {R : Type} {x : R}

theorem trim_ok {K : St → Option R} : ∀ (ps : List (PM × Ty)) (xs : List Operand) {σ : St} {A : Cells} {F : Nat → FP}, Rel0 P C A σ a w F → trimK σ ps xs K = some x →
    ∃ (A' : Cells) (σ' : St) (F' : Nat → FP), K σ' = some x ∧ (∀ b i, A b i → A' b i) ∧ Rel0 P C A' σ' a w F' ∧ σ'.n = σ.n := by
  intro ps
  induction ps with
  | nil => intro xs σ A F h hk; exact ⟨A, σ, F, by cases xs <;> exact hk, fun _ _ h => h, h, rfl⟩
  | cons p ps ih =>
    intro xs σ A F h hk
    cases xs with
    | nil => obtain ⟨pm, t⟩ := p; exact ⟨A, σ, F, by cases pm <;> exact hk, fun _ _ h => h, h, rfl⟩
    | cons y xs =>
      obtain ⟨pm, t⟩ := p
      have fin : ∀ {m' m : Md} {r : Nat} {p : Path}, (if m' = m then trimK σ ps xs K else freezeToK σ r p m fun σ => trimK σ ps xs K) = some x →
          ∃ (A' : Cells) (σ' : St) (F' : Nat → FP), K σ' = some x ∧ (∀ b i, A b i → A' b i) ∧ Rel0 P C A' σ' a w F' ∧ σ'.n = σ.n := fun hk => by
        split at hk
        · exact ih xs h hk
        · obtain ⟨A1, σ1, F1, k1, k2, k3, k4, _⟩ := freezeTo_ok h hk
          obtain ⟨A2, σ2, F2, q1, q2, q3, q4⟩ := ih xs k3 k1
          exact ⟨A2, σ2, F2, q1, fun b i ha => q2 b i (k2 b i ha), q3, q4.trans k4⟩
      cases pm with
      | ro => exact ih xs h hk
      | fix f => exact ih xs h hk
      | mutp m =>
        simp only [trimK] at hk
        split at hk
        · split at hk
          · obtain ⟨hr, t', m', H', v', cs', ad', F', h1, _⟩ := at_ok h hk
            exact fin h1
          · cases hk
        · cases hk
      | muts m =>
        simp only [trimK] at hk
        split at hk
        · split at hk
          · obtain ⟨hr, t', m', H', v', cs', ad', F', h1, _⟩ := at_ok h hk
            exact fin h1
          · cases hk
        · cases hk

/-- A variable that nobody turns any more. -/
theorem box_cp (h : Rel0 P C A σ a w F) {r : Nat} {t : Ty} {m : Md} {v : t.den} (hg : σ.get r = .box t m [] v) : ∃ (A' : Cells) (F' : Nat → FP), (∀ b i, A b i → A' b i) ∧ Rel0 P C A' ((σ.put r .dead).put r (.cp t v)) a w F' := by
  have hi : r < σ.n := by
    rcases Nat.lt_or_ge r σ.n with hi | hi
    · exact hi
    · rw [get_out (Nat.not_lt.2 hi)] at hg; cases hg
  have hs := h.slots r hi
  rw [hg] at hs
  obtain ⟨b, off, L, F1, s1, s2, s3, s4, s5, s6⟩ := hs
  have h1 := h.put hi (s := .dead) (v := tmp a r) (Fd := fun _ _ => 0) (X' := F r) trivial (fun b k => by omega) (fun _ _ _ _ e => by cases e)
  rw [put_same] at h1
  have h2 := h1.giveUp (A1 := fun b' i' => A b' i' ∨ 1 ≤ F r b' i') (X1 := fun _ _ => 0) (fun _ _ h => .inl h) (fun b' i' ha => ha.imp id fun hp => ⟨hp, rfl⟩) (fun _ _ => Nat.zero_le _)
  have h3 := h2.put (d := r) hi (s := .cp t v) (v := tmp a r) (Fd := fun _ _ => 0) (X' := fun _ _ => 0)
    ⟨⟨b, off, none⟩, by rw [s1], rfl, L, s2, (fun j u hu => ⟨s3 j u hu, .inr (by
      have hj := (List.getElem?_eq_some_iff.1 hu).1
      have h9 : rng b off t.sz b (off + j) = 1 := by simp only [rng]; rw [if_pos ⟨trivial, by omega, by omega⟩]
      have := s5 b (off + j)
      show 1 ≤ F r b (off + j)
      omega)⟩), Rep.toRo (fun _ _ h => .inl h) t s6 (fun b' i' hp => .inr (by have := s5 b' i'; omega))⟩ (fun b k => by omega) (fun _ _ _ _ e => by cases e)
  rw [put_same] at h3
  exact ⟨_, _, fun b i ha => .inl ha, h3⟩

theorem frz_ok {K : St → Option R} : ∀ (ps : List (PM × Ty)) (xs : List Operand) {σ : St} {A : Cells} {F : Nat → FP}, Rel0 P C A σ a w F → frzK σ ps xs K = some x →
    ∃ (A' : Cells) (σ' : St) (F' : Nat → FP), K σ' = some x ∧ (∀ b i, A b i → A' b i) ∧ Rel0 P C A' σ' a w F' ∧ σ'.n = σ.n := by
  intro ps
  induction ps with
  | nil => intro xs σ A F h hk; exact ⟨A, σ, F, by cases xs <;> exact hk, fun _ _ h => h, h, rfl⟩
  | cons p ps ih =>
    intro xs σ A F h hk
    cases xs with
    | nil => obtain ⟨pm, t⟩ := p; exact ⟨A, σ, F, by cases pm <;> exact hk, fun _ _ h => h, h, rfl⟩
    | cons y xs =>
      obtain ⟨pm, t⟩ := p
      have fin : ∀ {r : Nat} {p : Path}, (freezeK σ r p fun σ => frzK σ ps xs K) = some x →
          ∃ (A' : Cells) (σ' : St) (F' : Nat → FP), K σ' = some x ∧ (∀ b i, A b i → A' b i) ∧ Rel0 P C A' σ' a w F' ∧ σ'.n = σ.n := fun hk => by
        obtain ⟨A1, σ1, F1, _, _, _, _, _, k1, k2, k3, k4, _⟩ := freeze_ok h hk
        obtain ⟨A2, σ2, F2, q1, q2, q3, q4⟩ := ih xs k3 k1
        exact ⟨A2, σ2, F2, q1, fun b i ha => q2 b i (k2 b i ha), q3, q4.trans k4⟩
      cases pm with
      | fix f => exact ih xs h hk
      | mutp m => exact ih xs h hk
      | muts m => exact ih xs h hk
      | ro =>
        simp only [frzK] at hk
        split at hk
        · exact ih xs h hk
        · split at hk
          · split at hk
            · exact fin hk
            · cases hk
          · split at hk
            · exact fin hk
            · cases hk
          · rename_i r p snap hop
            split at hk
            · rename_i hok
              split at hk
              · rename_i t m H v hg
                split at hk
                · rename_i hc
                  simp only [Bool.and_eq_true, List.isEmpty_iff] at hc
                  obtain ⟨hH, hfit⟩ := hc
                  subst hH
                  obtain ⟨A1, F1, hA1, h3⟩ := box_cp h hg
                  obtain ⟨A2, σ2, F2, q1, q2, q3, q4⟩ := ih xs h3 hk
                  exact ⟨A2, σ2, F2, q1, fun b i ha => q2 b i (hA1 b i ha), q3, q4⟩
                · cases hk
              · cases hk
            · cases hk
          · exact ih xs h hk

/-- What roots hold that are not turned. -/
def AX (A : Cells) (F : Nat → FP) (n r0 : Nat) (ow : Bool) : Cells := fun b i => A b i ∨ (ow = true ∧ ∃ j, j < n ∧ j ≠ r0 ∧ 1 ≤ F j b i)

def ArgOk (P : Program) (A : Cells) (σ : St) (a : Act) (w : World) (F : Nat → FP) (ow : Bool) (pm : PM) (t : Ty) (v : t.den) (s : Slot) (tv : Value) (wp : Option (Nat × Path)) : Prop :=
  match pm with
  | .ro => wp = none ∧ ∃ cs, tv = mkV t cs ∧ Ro P w (fun b i => A b i ∨ (ow = true ∧ ∃ r ∈ slotRoot s, r < σ.n ∧ 1 ≤ F r b i)) t v cs
  | .fix f => wp = none ∧ (∃ cs, tv = mkV t cs ∧ Ro P w A t v cs) ∧ ∀ e : t = .fn, (e ▸ v : Ty.fn.den).1 = f
  | .mutp m => ∃ r p snap b o cs, s = .ptr r p snap ∧ wp = some (r, p) ∧ At σ r p t m [] v ∧ tv = .pointer (some ⟨b, o, none⟩) ∧ place σ a w r p = some ⟨t, [], cs, some (b, o)⟩
  | .muts m => ∃ r p snap cs ad, s = .ref r p snap ∧ wp = some (r, p) ∧ At σ r p t m [] v ∧ tv = mkV t cs ∧ place σ a w r p = some ⟨t, [], cs, ad⟩

def ArgsOk (P : Program) (A : Cells) (σ : St) (a : Act) (w : World) (F : Nat → FP) (ow : Bool) : (ps : List (PM × Ty)) → (tupT (ps.map (·.2))).den → List Slot → List Value → List (Nat × Path) → Prop
  | [], _, ss, tvs, ws => ss = [] ∧ tvs = [] ∧ ws = []
  | (pm, t) :: ps, v, ss, tvs, ws => ∃ s ss' tv tvs' wp ws', ss = s :: ss' ∧ tvs = tv :: tvs' ∧ ws = (match (generalizing := false) wp with | some x => x :: ws' | none => ws') ∧ ArgOk P A σ a w F ow pm t v.1 s tv wp ∧ ArgsOk P A σ a w F ow ps v.2 ss' tvs' ws'

def SlotsRel (P : Program) (A : Cells) (σ : St) (a : Act) (w : World) : List Slot → List Value → Prop
  | [], [] => True
  | s :: ss, tv :: tvs => (SlotRel P A σ a w tv s (fun _ _ => 0) ∨ ∃ xs, s = .tup xs) ∧ SlotsRel P A σ a w ss tvs
  | _, _ => False

theorem slots_opds (h : Rel0 P C A σ a w F) : ∀ (xs : List Operand) {ss : List Slot} {tvs : List Value}, xs.all (opdOk P) = true → SlotsRel P A σ a w ss tvs → SlotsRel P A σ a w (xs.map (opd σ) ++ ss) (xs.map a.eval ++ tvs)
  | [], _, _, _, h2 => h2
  | y :: xs, _, _, hok, h2 => by
    simp only [List.all_cons, Bool.and_eq_true] at hok
    exact ⟨opd_ok h hok.1, slots_opds h xs hok.2 h2⟩

theorem ro_ok (h : Rel0 P C A σ a w F) {s : Slot} {tv : Value} {G : FP} (hs : SlotRel P A σ a w tv s G) {t : Ty} {K : t.den → Option R} (hk : roK σ s t K = some x) :
    ∃ (v : t.den) (cs : List Value), K v = some x ∧ tv = mkV t cs ∧ Ro P w A t v cs := by
  cases s with
  | val t' v =>
    obtain ⟨e, hk⟩ := castK_some hk; subst e
    obtain ⟨cs, h1, h2⟩ := hs
    exact ⟨v, cs, hk, h1, h2⟩
  | cp t' v =>
    obtain ⟨e, hk⟩ := castK_some hk; subst e
    exact ⟨v, [tv], hk, (mkV_one _ _ rfl).symm, hs⟩
  | nils =>
    simp only [roK] at hk
    split at hk
    · rename_i t e
      have hs : tv = .slice none 0 0 := hs
      subst hs
      exact ⟨[], _, hk, (mkV_one _ _ rfl).symm, none, 0, rfl, Nat.le_refl _, fun _ => rfl, fun ad had => by cases had⟩
    · cases hk
  | ref r p snap =>
    simp only [roK] at hk
    split at hk
    · rename_i hok
      obtain ⟨hr, t', m', H', v', cs', ad', F', h1, h2, h3, h4, h5, h6⟩ := at_ok h hk
      obtain ⟨pl, g1, g2, g3⟩ := hs.2 hok
      rw [h3] at g1
      injection g1 with g1
      subst g1
      split at h1
      · rename_i hc
        simp only [Bool.and_eq_true, List.isEmpty_iff, Bool.or_eq_true, decide_eq_true_eq] at hc
        obtain ⟨hH, hm⟩ := hc
        subst hH
        obtain ⟨e, h1⟩ := castK_some h1; subst e
        refine ⟨v', cs', h1, g2, ?_⟩
        rcases hm with hm | hm
        · exact Rep.flat _ hm h4
        · subst hm; exact Rep.ro _ (roMd_noOwn _) h4
      · cases h1
    · cases hk
  | sub r p snap lo hi =>
    simp only [roK] at hk
    split at hk
    · rename_i hok
      obtain ⟨hr, t', m', H', v', cs', ad', F', h1, h2, h3, h4, h5, h6⟩ := at_ok h hk
      obtain ⟨pl, e, xa, n, cap, xa', cap', g1, g2, g3, g4, g5, g6, g7, g7', g8, g9, g10⟩ := hs.2 hok
      rw [h3] at g1
      injection g1 with g1
      subst g1
      simp only at g2 g3
      subst g2; subst g3
      split at h1
      · rename_i hc
        simp only [Bool.and_eq_true, List.isEmpty_iff, decide_eq_true_eq] at hc
        obtain ⟨hH, hm⟩ := hc
        subst hH; subst hm
        obtain ⟨e', h1⟩ := castK_some h1; subst e'
        exact ⟨_, _, h1, by rw [mkV_one _ _ rfl]; exact g6, Ro.piece (Rep.ro _ (roMd_noOwn _) h4) g4 g5 g7 g8 g9⟩
      · cases h1
    · cases hk
  | _ => simp [roK] at hk

theorem arg_ok (h : Rel0 P C A σ a w F) {ow : Bool} {pm : PM} {t : Ty} {s : Slot} {tv : Value} (hs : SlotRel P A σ a w tv s (fun _ _ => 0) ∨ ∃ xs, s = .tup xs) {K : t.den → Option (Nat × Path) → Option R} (hk : argK σ ow pm t s K = some x) :
    ∃ v wp, K v wp = some x ∧ ArgOk P A σ a w F ow pm t v s tv wp := by
  rcases hs with hs | ⟨xs, rfl⟩
  rotate_left
  · cases pm with
    | ro => cases ow <;> simp [argK, readK, roK] at hk
    | _ => simp [argK] at hk
  cases pm with
  | ro =>
    cases ow with
    | true =>
      simp only [argK] at hk
      have hlt := slot_root_lt h hk
      obtain ⟨v, cs, h1, h2, h3⟩ := read_root h hs hk
      exact ⟨v, none, h1, rfl, cs, h2, Ro.mono (fun _ _ _ _ h => h) (fun b i ha => ha.imp id fun ⟨r, hr, hp⟩ => ⟨rfl, r, hr, hlt r hr, hp⟩) t h3⟩
    | false =>
      simp only [argK] at hk
      obtain ⟨v, cs, h1, h2, h3⟩ := ro_ok h hs hk
      exact ⟨v, none, h1, rfl, cs, h2, Ro.mono (fun _ _ _ _ h => h) (fun b i ha => .inl ha) t h3⟩
  | fix f =>
    simp only [argK] at hk
    split at hk
    · rename_i v
      split at hk
      · rename_i hf
        obtain ⟨e, hk⟩ := castK_some hk
        subst e
        obtain ⟨cs, h1, h2⟩ := hs
        exact ⟨v, none, hk, rfl, ⟨cs, h1, h2⟩, fun e => by simpa using hf⟩
      · cases hk
    · cases hk
  | mutp m =>
    simp only [argK] at hk
    split at hk
    · rename_i r p snap
      split at hk
      · rename_i hok
        obtain ⟨hr, t', m', H', v', cs', ad', F', h1, h2, h3, h4, h5, h6⟩ := at_ok h hk
        obtain ⟨pl, b, o, g1, g2, g3, g4⟩ := hs.2 hok
        rw [h3] at g1
        injection g1 with g1
        subst g1
        simp only at g2
        subst g2
        split at h1
        · rename_i hc
          simp only [Bool.and_eq_true, List.isEmpty_iff, decide_eq_true_eq] at hc
          obtain ⟨hH, hm⟩ := hc
          subst hH; subst hm
          obtain ⟨e, h1⟩ := castK_some h1
          subst e
          exact ⟨v', _, h1, r, p, snap, b, o, cs', rfl, rfl, ⟨h2⟩, g3, h3⟩
        · cases h1
      · cases hk
    · cases hk
  | muts m =>
    simp only [argK] at hk
    split at hk
    · rename_i r p snap
      split at hk
      · rename_i hok
        obtain ⟨hr, t', m', H', v', cs', ad', F', h1, h2, h3, h4, h5, h6⟩ := at_ok h hk
        obtain ⟨pl, g1, g2, g3⟩ := hs.2 hok
        rw [h3] at g1
        injection g1 with g1
        subst g1
        split at h1
        · rename_i hc
          simp only [Bool.and_eq_true, List.isEmpty_iff, decide_eq_true_eq] at hc
          obtain ⟨hH, hm⟩ := hc
          subst hH; subst hm
          obtain ⟨e, h1⟩ := castK_some h1
          subst e
          exact ⟨v', _, h1, r, p, snap, cs', ad', rfl, rfl, ⟨h2⟩, g2, h3⟩
        · cases h1
      · cases hk
    · cases hk

theorem args_ok (h : Rel0 P C A σ a w F) {ow : Bool} : ∀ (ps : List (PM × Ty)) {ss : List Slot} {tvs : List Value} {K : (tupT (ps.map (·.2))).den → List (Nat × Path) → Option R}, SlotsRel P A σ a w ss tvs → argsK σ ow ps ss K = some x →
    ∃ v ws, K v ws = some x ∧ ArgsOk P A σ a w F ow ps v ss tvs ws := by
  intro ps
  induction ps with
  | nil =>
    intro ss tvs K hs hk
    cases ss with
    | nil =>
      cases tvs with
      | nil => exact ⟨(), [], hk, rfl, rfl, rfl⟩
      | cons _ _ => exact hs.elim
    | cons _ _ => cases hk
  | cons p ps ih =>
    intro ss tvs K hs hk
    obtain ⟨pm, t⟩ := p
    cases ss with
    | nil => cases hk
    | cons s ss =>
      cases tvs with
      | nil => exact hs.elim
      | cons tv tvs =>
        simp only [argsK] at hk
        obtain ⟨v, wp, h1, h2⟩ := arg_ok h hs.1 hk
        obtain ⟨vs, ws, h3, h4⟩ := ih hs.2 h1
        exact ⟨(v, vs), _, h3, s, ss, tv, tvs, wp, ws, rfl, rfl, rfl, h2, h4⟩

theorem argsOk_none {ow : Bool} {A0 : Cells} (hA : ∀ b i, A b i → A0 b i) {r0 : Nat} (hX : ow = true → ∀ b i j, j < σ.n → j ≠ r0 → 1 ≤ F j b i → A0 b i) : ∀ (ps : List (PM × Ty)) {v : (tupT (ps.map (·.2))).den} {ss : List Slot} {tvs : List Value},
    ArgsOk P A σ a w F ow ps v ss tvs [] → (∀ r ∈ ss.flatMap slotRoot, r < σ.n → r ≠ r0) → ArgsRel P w A0 ps v tvs (fun _ _ => 0) ∧ (∀ (σ' : St) (K : St → Option R) (out : (tupT (mutTys ps)).den), backK σ' ps [] out K = K σ') := by
  intro ps
  induction ps with
  | nil => intro v ss tvs h hr; exact ⟨h.2.1, fun σ' K out => rfl⟩
  | cons p ps ih =>
    intro v ss tvs h hr
    obtain ⟨pm, t⟩ := p
    obtain ⟨s, ss', tv, tvs', wp, ws', rfl, rfl, hw, hao, hrest⟩ := h
    have hcs : ∀ b i, A b i → ∀ u, ce w b i = some u → ce w b i = some u := fun _ _ _ _ h => h
    cases wp with
    | some y => cases hw
    | none =>
      have hw : [] = ws' := hw
      subst hw
      obtain ⟨i1, i2⟩ := ih hrest (fun r hm => hr r (by simp only [List.flatMap_cons, List.mem_append]; exact .inr hm))
      cases pm with
      | ro =>
        obtain ⟨_, cs, h1, h2⟩ := hao
        refine ⟨⟨tv, tvs', fun _ _ => 0, fun _ _ => 0, rfl, fun _ _ => Nat.le_refl _, ⟨cs, h1, Ro.mono (fun _ _ _ _ h => h) (fun b i ha => ?_) t h2⟩, i1⟩, fun σ' K out => i2 σ' K out⟩
        rcases ha with ha | ⟨how, r, hm, hlt, hp⟩
        · exact hA b i ha
        · exact hX how b i r hlt (hr r (by simp only [List.flatMap_cons, List.mem_append]; exact .inl hm) hlt) hp
      | fix f =>
        obtain ⟨_, ⟨cs, h1, h2⟩, h3⟩ := hao
        exact ⟨⟨tv, tvs', fun _ _ => 0, fun _ _ => 0, rfl, fun _ _ => Nat.le_refl _, ⟨⟨cs, h1, Ro.mono (fun _ _ _ _ h => h) hA t h2⟩, h3⟩, i1⟩, fun σ' K out => i2 σ' K out⟩
      | mutp m => obtain ⟨r, p, snap, b, o, cs, _, e, _⟩ := hao; cases e
      | muts m => obtain ⟨r, p, snap, cs, ad, _, e, _⟩ := hao; cases e

theorem mkV_inj {t : Ty} {cs cs' : List Value} (h1 : cs.length = t.sz) (h2 : ∀ x ∈ cs, x.oneCell' = true) (h3 : cs'.length = t.sz) (h4 : ∀ x ∈ cs', x.oneCell' = true) (h : mkV t cs = mkV t cs') : cs = cs' := by
  rw [← mkV_cells h1 h2, ← mkV_cells h3 h4, h]

/-- One argument is turned: which, and what becomes of it. -/
theorem argsOk_one {ow : Bool} {r : Nat} {p : Path} : ∀ (ps : List (PM × Ty)) {v : (tupT (ps.map (·.2))).den} {ss : List Slot} {tvs : List Value},
    ArgsOk P A σ a w F ow ps v ss tvs [(r, p)] → (ss.flatMap slotRoot).count r ≤ 1 →
    1 ≤ (ss.flatMap slotRoot).count r ∧ ∃ (isP : Bool) (t : Ty) (m : Md) (v1 : t.den) (cs : List Value) (ad : Option (Nat × Nat)), At σ r p t m [] v1 ∧ place σ a w r p = some ⟨t, [], cs, ad⟩ ∧ (isP = true → ∃ b o, ad = some (b, o)) ∧
      (allOwnP ps = true → (t.flat || decide (m = ownMd t)) = true ∧ t.nofn = true) ∧
      (∀ (A0 : Cells) (F0 Fp : FP), (∀ b i, A b i → A0 b i) → (ow = true → ∀ b i j, j < σ.n → j ≠ r → 1 ≤ F j b i → A0 b i) → Rep P w A0 t m [] v1 cs Fp →
        (isP = true → ∀ b o, ad = some (b, o) → Has w b o cs ∧ (∀ j, j < t.sz → w.frozen? ⟨b, o + j, none⟩ = false) ∧ ∀ b' i, rng b o t.sz b' i + Fp b' i ≤ F0 b' i) → (isP = false → ∀ b i, Fp b i ≤ F0 b i) → ArgsRel P w A0 ps v tvs F0) ∧
      ∀ out : (tupT (mutTys ps)).den, ∃ o1 : t.den,
        (∀ (σ' : St) (K : St → Option R), backK σ' ps [(r, p)] out K = setK σ' r p t m o1 fun σ'' => K (match isP with | true => σ'' | false => { σ'' with vr := (σ'.setVer r (bumpAt (nidx p + 1))).vr, lent := σ'.lent })) ∧
        ∀ (w' : World) (A' : Cells) (GM : FP), MutsRel P w' A' ps out tvs GM → ∃ cs' F3, Rep P w' A' t m [] o1 cs' F3 ∧ (∀ b i, F3 b i ≤ GM b i) ∧ (isP = true → ∀ b o, ad = some (b, o) → Has w' b o cs' ∧ ∀ b' i, rng b o t.sz b' i + F3 b' i ≤ GM b' i) ∧
          (isP = false → mkV t cs' = mkV t cs) := by
  intro ps
  induction ps with
  | nil => intro v ss tvs h hc; cases h.2.2
  | cons p0 ps ih =>
    intro v ss tvs h hc
    obtain ⟨pm, t⟩ := p0
    obtain ⟨s, ss', tv, tvs', wp, ws', rfl, rfl, hw, hao, hrest⟩ := h
    simp only [List.flatMap_cons, List.count_append] at hc ⊢
    cases pm with
    | ro =>
      obtain ⟨hwp, cs, h1, h2⟩ := hao
      subst hwp
      have hw : [(r, p)] = ws' := hw
      subst hw
      obtain ⟨c1, isP, t1, m1, v1, cs1, ad1, q1, q2, q3, q4, q5, q6⟩ := ih hrest (by omega)
      refine ⟨by omega, isP, t1, m1, v1, cs1, ad1, q1, q2, q3, q4, fun A0 F0 Fp a1 a2 a3 a4 a5 => ⟨tv, tvs', fun _ _ => 0, F0, rfl, fun b i => by simp, ⟨cs, h1, Ro.mono (fun _ _ _ _ h => h) (fun b i ha => ?_) t h2⟩, q5 A0 F0 Fp a1 a2 a3 a4 a5⟩, fun out => q6 out⟩
      rcases ha with ha | ⟨how, r', hm, hlt, hp⟩
      · exact a1 b i ha
      · refine a2 how b i r' hlt (fun e => ?_) hp
        subst e
        have := List.count_pos_iff.2 hm
        omega
    | fix f =>
      obtain ⟨hwp, ⟨cs, h1, h2⟩, h3⟩ := hao
      subst hwp
      have hw : [(r, p)] = ws' := hw
      subst hw
      obtain ⟨c1, isP, t1, m1, v1, cs1, ad1, q1, q2, q3, q4, q5, q6⟩ := ih hrest (by omega)
      exact ⟨by omega, isP, t1, m1, v1, cs1, ad1, q1, q2, q3, q4, fun A0 F0 Fp a1 a2 a3 a4 a5 => ⟨tv, tvs', fun _ _ => 0, F0, rfl, fun b i => by simp, ⟨⟨cs, h1, Ro.mono (fun _ _ _ _ h => h) a1 t h2⟩, h3⟩, q5 A0 F0 Fp a1 a2 a3 a4 a5⟩, fun out => q6 out⟩
    | mutp m =>
      obtain ⟨r1, p1, snap, b, o, cs, rfl, hwp, hat, htv, hpl⟩ := hao
      subst hwp
      have hw : [(r, p)] = (r1, p1) :: ws' := hw
      injection hw with hw1 hw2
      injection hw1 with hw1 hw3
      subst hw1; subst hw2; subst hw3
      have hself : (slotRoot (.ptr r p snap)).count r = 1 := by simp [slotRoot]
      obtain ⟨n1, n2⟩ := argsOk_none (R := R) (P := P) (A0 := fun b i => True) (fun _ _ _ => trivial) (r0 := r) (fun _ _ _ _ _ _ _ => trivial) ps hrest (fun r' hm _ e => by subst e; have := List.count_pos_iff.2 hm; omega)
      refine ⟨by omega, true, t, m, v.1, cs, some (b, o), hat, hpl, fun _ => ⟨b, o, rfl⟩, fun ho => ?_, fun A0 F0 Fp a1 a2 a3 a4 a5 => ?_, fun out => ⟨out.1, fun σ' K => ?_, fun w' A' GM hm => ?_⟩⟩
      · simp only [allOwnP, Bool.and_eq_true] at ho; exact ho.1
      · obtain ⟨b1, b2, b3⟩ := a4 rfl b o rfl
        obtain ⟨k1, _⟩ := argsOk_none (R := R) (P := P) a1 (r0 := r) a2 ps hrest (fun r' hm _ e => by subst e; have := List.count_pos_iff.2 hm; omega)
        exact ⟨tv, tvs', F0, fun _ _ => 0, rfl, fun b i => Nat.le_refl _, ⟨b, o, cs, Fp, htv, Rep.length _ a3, b1, b2, b3, a3⟩, k1⟩
      · show setK σ' r p t m out.1 (fun σ => backK σ ps [] out.2 K) = _
        congr 1
        funext σ''
        exact n2 σ'' K out.2
      · obtain ⟨F1, F2, h1, ⟨b', o', L, F3, h2, h3, h4, h5, h6⟩, h7⟩ := hm
        simp only [List.head?_cons, Option.some.injEq, htv, Value.pointer.injEq, Addr.mk.injEq, and_true] at h2
        obtain ⟨rfl, rfl⟩ := h2
        refine ⟨L, F3, h6, fun b' i => by have := h5 b' i; have := h1 b' i; omega, fun _ b2 o2 e => ?_, fun e => by cases e⟩
        simp only [Option.some.injEq, Prod.mk.injEq] at e
        obtain ⟨rfl, rfl⟩ := e
        exact ⟨h4, fun b' i => by have := h5 b' i; have := h1 b' i; omega⟩
    | muts m =>
      obtain ⟨r1, p1, snap, cs, ad, rfl, hwp, hat, htv, hpl⟩ := hao
      subst hwp
      have hw : [(r, p)] = (r1, p1) :: ws' := hw
      injection hw with hw1 hw2
      injection hw1 with hw1 hw3
      subst hw1; subst hw2; subst hw3
      have hself : (slotRoot (.ref r p snap)).count r = 1 := by simp [slotRoot]
      obtain ⟨n1, n2⟩ := argsOk_none (R := R) (P := P) (A0 := fun b i => True) (fun _ _ _ => trivial) (r0 := r) (fun _ _ _ _ _ _ _ => trivial) ps hrest (fun r' hm _ e => by subst e; have := List.count_pos_iff.2 hm; omega)
      refine ⟨by omega, false, t, m, v.1, cs, ad, hat, hpl, (fun e => by cases e), fun ho => ?_, fun A0 F0 Fp a1 a2 a3 a4 a5 => ?_, fun out => ⟨out.1, fun σ' K => ?_, fun w' A' GM hm => ?_⟩⟩
      · simp only [allOwnP, Bool.and_eq_true] at ho; exact ho.1
      · obtain ⟨k1, _⟩ := argsOk_none (R := R) (P := P) a1 (r0 := r) a2 ps hrest (fun r' hm _ e => by subst e; have := List.count_pos_iff.2 hm; omega)
        exact ⟨tv, tvs', F0, fun _ _ => 0, rfl, fun b i => Nat.le_refl _, ⟨cs, htv, a3.le (a5 rfl)⟩, k1⟩
      · show setK σ' r p t m out.1 (fun σ'' => backK { σ'' with vr := (σ'.setVer r (bumpAt (nidx p + 1))).vr, lent := σ'.lent } ps [] out.2 K) = _
        congr 1
        funext σ''
        exact n2 _ K out.2
      · obtain ⟨F1, F2, h1, ⟨cs', h2, h3⟩, h7⟩ := hm
        simp only [List.head?_cons, Option.some.injEq, htv] at h2
        exact ⟨cs', F1, h3, fun b' i => by have := h1 b' i; omega, (fun e => by cases e), fun _ => h2.symm⟩

/-- What is returned is laid. -/
theorem ret_ok {rs : List Res} {rv : Value} {G : FP} (h : RetRel P w A rs rv G) : SlotRel P A σ a w rv (resSlot rs) G ∧ ∀ t m H v, resSlot rs = .box t m H v → ∃ b, rv = .pointer (some ⟨b, 0, none⟩) ∧ OwnBlk w b t.sz := by
  match rs, h with
  | [], _ => exact ⟨trivial, fun _ _ _ _ e => by cases e⟩
  | [x], h =>
    obtain ⟨cs, rfl, h2⟩ := h
    exact laid_ok h2
  | x :: y :: rs, h =>
    obtain ⟨vs, Fi, h1, h2, h3⟩ := h
    exact ⟨⟨vs, Fi, h1, h2, fun j z hz => by
      obtain ⟨v, cs, g1, g2, g3⟩ := h3 j z hz
      exact ⟨v, g1, .inr ⟨cs, g2, g3⟩⟩⟩, fun _ _ _ _ e => by cases e⟩

theorem RetRel.free {A' : Cells} : ∀ {rs : List Res} {rv : Value} {G : FP}, (∀ x ∈ rs, (x.t.flat || decide (x.m = ownMd x.t)) = true ∧ x.t.nofn = true) → RetRel P w A rs rv G → RetRel P w A' rs rv G
  | [], _, _, _, _ => trivial
  | [x], _, _, ho, ⟨cs, h1, h2⟩ => ⟨cs, h1, Rep.free (ho x (by simp)).1 (ho x (by simp)).2 h2⟩
  | x :: y :: rs, _, _, ho, ⟨vs, Fi, h1, h2, h3⟩ => ⟨vs, Fi, h1, h2, fun j z hz => by
    obtain ⟨v, cs, g1, g2, g3⟩ := h3 j z hz
    have hm : z ∈ x :: y :: rs := List.mem_of_getElem? hz
    exact ⟨v, cs, g1, g2, Rep.free (ho z hm).1 (ho z hm).2 g3⟩⟩

theorem split_own : ∀ (rs : List (Ty × Md)) {ts : List Ty} (out : (tupT (rs.map (·.1) ++ ts)).den), allOwn rs = true → ∀ x ∈ (splitR rs out).1, (x.t.flat || decide (x.m = ownMd x.t)) = true ∧ x.t.nofn = true
  | [], _, _, _ => fun x hx => by cases hx
  | (t, m) :: rs, _, out, h => fun x hx => by
    simp only [allOwn, Bool.and_eq_true] at h
    simp only [splitR, List.mem_cons] at hx
    rcases hx with rfl | hx
    · exact h.1
    · exact split_own rs out.2 h.2 x hx

theorem RetRel.mono {A' : Cells} (hA : ∀ b i, A b i → A' b i) : ∀ {rs : List Res} {rv : Value} {G : FP}, RetRel P w A rs rv G → RetRel P w A' rs rv G
  | [], _, _, _ => trivial
  | [x], _, _, ⟨cs, h1, h2⟩ => ⟨cs, h1, Rep.mono hA (fun _ _ _ _ h => h) (fun _ _ h => h) _ h2 (fun _ _ => Nat.le_refl _) (fun _ _ _ _ h => h)⟩
  | x :: y :: rs, _, _, ⟨vs, Fi, h1, h2, h3⟩ => ⟨vs, Fi, h1, h2, fun j z hz => by
    obtain ⟨v, cs, g1, g2, g3⟩ := h3 j z hz
    exact ⟨v, cs, g1, g2, Rep.mono hA (fun _ _ _ _ h => h) (fun _ _ h => h) _ g3 (fun _ _ => Nat.le_refl _) (fun _ _ _ _ h => h)⟩⟩
end
end OT
