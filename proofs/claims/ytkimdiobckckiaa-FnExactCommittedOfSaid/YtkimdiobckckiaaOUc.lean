/- Calls, third part. -/
import Derived.Test.YtkimdiobckckiaaOUb
set_option linter.unusedVariables false
set_option linter.unusedSimpArgs false
namespace OT
open Go

section
variable {P : Program} {C : Ctx} {A : Cells} {X : FP} {σ : St} {a : Act} {w : World} {F : Nat → FP} {R : Type} {x : R} {Q : Exit → Act → World → Prop} {o : Oper} {E : Env}

def pickN (b : Bool) (n : Nat) : Nat := match b with
  | true => n
  | false => 0

/-- The heads stay, what is behind them turns. -/
theorem plc_head {w2 : World} {A2 : Cells} : ∀ (q : Path) (t : Ty) {m' : Md} {v' : t.den} {cs : List Value} {G' : FP} {ad : Option (Nat × Nat)} {pl : Pl}, Rep P w2 A2 t m' [] v' cs G' → nidx q ≤ 1 → plc w q t [] cs ad = some pl →
    ∃ H' cs', plc w2 q t [] cs ad = some ⟨pl.t, H', cs', pl.ad⟩ ∧ (nidx q < 1 → isSlc pl.t = true → cs' = pl.cs) := by
  intro q
  induction q with
  | nil =>
    intro t m' v' cs G' ad pl h2 hq hp
    simp only [plc, Option.some.injEq] at hp
    subst hp
    exact ⟨_, _, rfl, fun _ _ => rfl⟩
  | cons s q ih =>
    intro t m' v' cs G' ad pl h2 hq hp
    cases t with
    | pair a b =>
      obtain ⟨h0, F1, F2, hs, r1, r2⟩ := h2
      cases s with
      | fst =>
        simp only [plc, h0, if_false] at hp ⊢
        exact ih a r1 (by simpa [nidx] using hq) (by simpa using hp)
      | snd =>
        simp only [plc, h0, if_false] at hp ⊢
        exact ih b r2 (by simpa [nidx] using hq) (by simpa using hp)
      | idx i => simp [plc] at hp
      | aix i => simp [plc] at hp
    | slc e =>
      cases s with
      | idx i =>
        obtain ⟨xa, cap, news, Fi, r1, r2, r3, r4, r5, r6, r7, r8⟩ := slc_elems h2
        subst r1
        cases xa with
        | none => simp [plc, hole] at hp
        | some ad' =>
          simp only [plc, hole, List.any_nil, Bool.false_eq_true, if_false, List.filterMap_nil] at hp ⊢
          split at hp
          · rename_i hi
            rw [if_pos hi]
            have hrep := r6 i _ (List.getElem?_eq_getElem hi)
            obtain ⟨g1, g2⟩ := r3 ad' rfl
            have hl := Rep.length _ hrep
            have hh : Has w2 ad'.block (ad'.off + i * e.sz) ((news.drop (i * e.sz)).take e.sz) := fun j u hu => by
              rw [List.getElem?_take] at hu
              split at hu
              · rw [List.getElem?_drop] at hu
                rw [Nat.add_assoc]; exact g2 _ u hu
              · cases hu
            rw [rd_of_has hh hl]
            obtain ⟨H', cs', h1, h2⟩ := plc_typed (A := fun _ _ => True) (m := .leaf) (v := v'[i]) (F := fun _ _ => 0) q e hrep (.inl (by simp only [nidx] at hq; omega)) hp
            exact ⟨H', cs', h1, fun h => by simp only [nidx] at h; omega⟩
          · cases hp
      | _ => simp [plc] at hp
    | arr n e =>
      cases s with
      | fst => simp [plc] at hp
      | snd => simp [plc] at hp
      | idx i => simp [plc] at hp
      | aix i =>
        obtain ⟨_, hf, hl, hlen, hr⟩ := h2
        simp only [plc, List.isEmpty_nil, if_true] at hp ⊢
        split at hp
        · rename_i hi
          rw [if_pos hi]
          exact ih e (Ro.flat e (m := .leaf) (fun _ _ => 0) hf (hr i _ (List.getElem?_eq_getElem (by rw [hl]; exact hi)))) (by simpa [nidx] using hq) hp
        · cases hp
    | _ => cases s <;> simp [plc] at hp
theorem stab_head {t : Ty} {m' : Md} {v' : t.den} {cs : List Value} {G' : FP} {w2 : World} {A2 : Cells} (ad : Option (Nat × Nat)) (h2 : Rep P w2 A2 t m' [] v' cs G') : Stab 1 False w t [] cs ad w2 [] cs := by
  intro q pl hq hp
  obtain ⟨H', cs', h1, h3⟩ := plc_head q t h2 hq hp
  exact ⟨H', cs', h1, fun h => by rcases h with ⟨h, hs⟩ | h; exact h3 h hs; exact h.elim⟩

theorem ax_bnd (h : Rel0 P C A σ a w F) {r : Nat} {ow : Bool} {b i : Nat} (ha : AX A F σ.n r ow b i) : b < w.heap.size := by
  rcases ha with ha | ⟨_, j, hj, _, hp⟩
  · exact h.bnd b i (.inr ha)
  · exact h.bnd b i (.inl (by have := le_sumF F hj b i; show 1 ≤ 0 + sumF σ.n F b i; omega))

def noMut : List (PM × Ty) → Bool
  | [] => true
  | (.mutp _, _) :: _ => false
  | (.muts _, _) :: _ => false
  | _ :: ps => noMut ps
theorem argsOk_mut {ow : Bool} {y : Nat × Path} {ws : List (Nat × Path)} : ∀ (ps : List (PM × Ty)) {v : (tupT (ps.map (·.2))).den} {ss : List Slot} {tvs : List Value}, noMut ps = true → ArgsOk P A σ a w F ow ps v ss tvs (y :: ws) → False
  | [], _, _, _, _, h => by cases h.2.2
  | (pm, t) :: ps, _, _, _, hm, h => by
    obtain ⟨s, ss', tv, tvs', wp, ws', _, _, hw, hao, hrest⟩ := h
    cases pm with
    | ro => obtain ⟨hwp, _⟩ := hao; subst hwp; have hw : _ = ws' := hw; subst hw; exact argsOk_mut ps hm hrest
    | fix f => obtain ⟨hwp, _⟩ := hao; subst hwp; have hw : _ = ws' := hw; subst hw; exact argsOk_mut ps hm hrest
    | mutp m => cases hm
    | muts m => cases hm

theorem callGo_ok (h : Rel0 P C A σ a w F) {f : FuncId} {g : Sig} (hs : Sound P f g) {ow : Bool} (how : ow = true → (allOwn g.rs && allOwnP g.ps) = true) {xs : List Operand} {ex : List Slot} {exv : List Value} (hok : xs.all (opdOk P) = true)
    (hex : ∀ (A' : Cells) (σ' : St), (∀ b i, A b i → A' b i) → SlotsRel P A' σ' a w ex exv) {d : Option Tmp} {K : St → Option R} (hk : callGo g ow σ xs ex d K = some x) :
    Calls P f (xs.map a.eval ++ exv).toArray w fun e w' => ∃ rv, e = .returned rv ∧ Nx P C K x (a.put d rv) w' ∧ (noMut g.ps = true → Ext w w' (fun _ _ => 0)) := by
  unfold callGo at hk
  obtain ⟨A1, σ1, F1, k1, k2, k3, k4⟩ := trim_ok g.ps xs h hk
  have hsl := slots_opds k3 xs hok (hex A1 σ1 k2)
  obtain ⟨v, ws, q1, q2⟩ := args_ok k3 g.ps hsl k1
  split at q1
  rotate_left
  · cases q1
  rename_i hc
  simp only [Bool.and_eq_true, Nat.ble_eq] at hc
  obtain ⟨hlen, hap⟩ := hc
  cases hF : g.F v with
  | none => rw [hF] at q1; cases q1
  | some out =>
  rw [hF] at q1
  simp only [Option.bind_some] at q1
  match ws, hlen with
  | [], _ =>
    obtain ⟨n1, n2⟩ := argsOk_none (R := R) (A0 := AX A1 F1 σ1.n σ1.n ow) (fun b i h => .inl h) (r0 := σ1.n) (fun how b i j hj hne hp => .inr ⟨how, j, hj, hne, hp⟩) g.ps q2 (fun r _ hlt => by omega)
    rw [n2] at q1
    refine (hs w _ (fun _ _ => 0) v _ n1 (fun _ _ => Nat.zero_le _) (fun b i hp => by omega) (fun b i hp => ?_) out hF).mono fun e w' hpost => ?_
    · rcases hp with hp | hp
      · omega
      · exact ax_bnd k3 hp
    · obtain ⟨rv, rfl, hext, A', G, GR, GM, g1, g2, g3, g4, g5, g6, g7, g8, g9⟩ := hpost
      have hX : ∀ b i, GR b i ≤ 0 ∨ (w.heap.size ≤ b ∧ b < w'.heap.size ∧ GR b i ≤ 1) := fun b i => by
        rcases Nat.eq_zero_or_pos (GR b i) with h0 | h0
        · left; omega
        · have h7 := g7 b i
          right
          refine ⟨?_, g6 b i (.inl (by omega)), by have := g4 b i; omega⟩
          rcases g3 b i (by omega) with h1 | h1
          · omega
          · exact h1
      refine ⟨rv, rfl, ?_⟩
      cases ow with
      | true =>
        have ho := how rfl
        simp only [Bool.and_eq_true] at ho
        have hgr := k3.grow hext (A1 := A1) (X1 := GR) (fun _ _ h => h) (fun _ _ h => .inl h) hX
        have hret := ret_ok (σ := σ1) (a := a) (RetRel.free (A' := A1) (split_own g.rs out ho.1) g8)
        exact ⟨fin_val hgr q1 hret.1 (fun _ _ => Nat.le_refl _) hret.2, fun _ => hext⟩
      | false =>
        have hgr := k3.grow hext (A1 := A') (X1 := GR) (fun b i ha => g1 b i (.inl ha)) (fun b i ha => by
          rcases g2 b i ha with (ha' | ⟨e, _⟩) | h0 | hn
          · exact .inl ha'
          · cases e
          · omega
          · refine .inr ⟨hn, g6 b i (.inr ha), ?_⟩
            rcases Nat.eq_zero_or_pos (GR b i) with h0 | h0
            · exact h0
            · exact absurd ha (g5 b i (by have := g7 b i; omega))) hX
        have hret := ret_ok (σ := σ1) (a := a) g8
        exact ⟨fin_val hgr q1 hret.1 (fun _ _ => Nat.le_refl _) hret.2, fun _ => hext⟩
  | [(r, p)], _ =>
    simp only [apart, Bool.and_eq_true, Nat.ble_eq, and_true] at hap
    obtain ⟨_, isP, t, m, v1, cs, ad, b1, b2, b3, b4, b5, b6⟩ := argsOk_one g.ps q2 hap
    obtain ⟨o1, e1, e2⟩ := b6 (splitR g.rs out).2
    rw [e1] at q1
    have q1' := q1
    obtain ⟨hr, m2, H2, v2, cs2, ad2, F2, s1, s2, s3, s4, s5, _⟩ := set_ok k3 q1
    obtain ⟨_, e3, e4, e5⟩ := b1.inj s1
    subst e3; subst e4
    have e5 := eq_of_heq e5
    subst e5
    rw [b2] at s2
    simp only [Option.some.injEq, Pl.mk.injEq, true_and] at s2
    obtain ⟨rfl, rfl⟩ := s2
    obtain ⟨fp1, fp2⟩ := Rep.fp t s3
    obtain ⟨F0, hF0⟩ : ∃ F0 : FP, ∀ b i, F0 b i = pickN isP (rngO ad t.sz b i) + fpOf w t m [] cs b i := ⟨fun b i => pickN isP (rngO ad t.sz b i) + fpOf w t m [] cs b i, fun _ _ => rfl⟩
    have hF0r : ∀ b i, F0 b i ≤ rngO ad t.sz b i + fpOf w t m [] cs b i := fun b i => by
      rw [hF0]; cases isP <;> simp [pickN]
    have hF0F : ∀ b i, F0 b i ≤ F1 r b i := fun b i => by have := hF0r b i; have := fp2 b i; have := s4 b i; omega
    have hsum : ∀ b i, F1 r b i ≤ sumF σ1.n F1 b i := fun b i => le_sumF F1 hr b i
    have htot : ∀ b i, sumF σ1.n F1 b i ≤ 1 := fun b i => by have := k3.tot b i; omega
    have hA0 : ∀ b i, A1 b i → AX A1 F1 σ1.n r ow b i := fun b i h => .inl h
    have hargs := b5 (AX A1 F1 σ1.n r ow) F0 (fpOf w t m [] cs) hA0 (fun how b i j hj hne hp => .inr ⟨how, j, hj, hne, hp⟩)
      (Rep.mono hA0 (fun _ _ _ _ h => h) (fun _ _ h => h) t fp1 (fun _ _ => Nat.le_refl _) (fun _ _ _ _ h => h))
      (fun hP b o e => ⟨(s5 b o e).1, (s5 b o e).2, fun b' i => by rw [hF0, hP, e]; exact Nat.le_refl _⟩) (fun hP b i => by rw [hF0, hP]; simp [pickN])
    refine (hs w _ F0 v _ hargs (fun b i => by have := hF0F b i; have := hsum b i; have := htot b i; omega) (fun b i hp ha => ?_) (fun b i hp => ?_) out hF).mono fun e w' hpost => ?_
    · have h1 := hF0F b i; have h2 := hsum b i
      rcases ha with ha | ⟨_, j, hj, hne, hpj⟩
      · exact k3.dis b i (by show 1 ≤ 0 + _; omega) ha
      · have := le_sumF2 F1 hj hr hne b i; have := htot b i; omega
    · rcases hp with hp | hp
      · exact k3.bnd b i (.inl (by have := hF0F b i; have := hsum b i; show 1 ≤ 0 + _; omega))
      · exact ax_bnd k3 hp
    · obtain ⟨rv, rfl, hext, A', G, GR, GM, g1, g2, g3, g4, g5, g6, g7, g8, g9⟩ := hpost
      refine ⟨rv, rfl, ?_⟩
      obtain ⟨cs3, F3, t1, t2, t3, t4⟩ := e2 w' A' GM g9
      obtain ⟨x1, x2⟩ := ext_news hext
      -- what stays in the end, and of the old world
      obtain ⟨A2f, A2, a1, a2, a3, a4, a5, a6⟩ : ∃ A2f A2 : Cells, (∀ b i, A1 b i → A2f b i) ∧ (∀ b i, A2f b i → A1 b i ∨ (w.heap.size ≤ b ∧ b < w'.heap.size ∧ G b i = 0)) ∧ (∀ b i, A2f b i → A2 b i) ∧ (∀ b i, A2 b i → A2f b i ∨ (1 ≤ F0 b i ∧ G b i = 0)) ∧
          Rep P w' A2 t m [] o1 cs3 F3 ∧ RetRel P w' A2 (splitR g.rs out).1 rv GR := by
        cases ow with
        | true =>
          have ho := how rfl
          simp only [Bool.and_eq_true] at ho
          exact ⟨A1, A1, fun _ _ h => h, fun _ _ h => .inl h, fun _ _ h => h, fun _ _ h => .inl h, Rep.free (b4 ho.2).1 (b4 ho.2).2 t1, RetRel.free (split_own g.rs out ho.1) g8⟩
        | false =>
          have hno : ∀ b i, A' b i → G b i = 0 := fun b i ha => by
            rcases Nat.eq_zero_or_pos (G b i) with h0 | h0
            · exact h0
            · exact absurd ha (g5 b i h0)
          refine ⟨fun b i => A1 b i ∨ (w.heap.size ≤ b ∧ A' b i), A', fun _ _ h => .inl h, fun b i ha => ha.imp id fun ⟨h1, h2⟩ => ⟨h1, g6 b i (.inr h2), hno b i h2⟩, fun b i ha => ?_, fun b i ha => ?_, t1, g8⟩
          · rcases ha with ha | ⟨_, ha⟩
            · exact g1 b i (.inl ha)
            · exact ha
          · rcases g2 b i ha with (ha' | ⟨e, _⟩) | h0 | hn
            · exact .inl (.inl ha')
            · cases e
            · exact .inr ⟨h0, hno b i ha⟩
            · exact .inl (.inr ⟨hn, ha⟩)
      have hszn := news_size hext.size
      have hgr := k3.grow x1 (A1 := A2f) (X1 := fun b i => if w.heap.size ≤ b then G b i else 0) a1 (fun b i ha => ?_) (fun b i => ?_)
      rotate_left
      · rcases a2 b i ha with ha | ⟨h1, h2, h3⟩
        · exact .inl ha
        · exact .inr ⟨h1, by rw [hszn]; exact h2, by rw [if_pos h1]; exact h3⟩
      · by_cases hb : w.heap.size ≤ b
        · rw [if_pos hb]
          rcases Nat.eq_zero_or_pos (G b i) with h0 | h0
          · left; omega
          · exact .inr ⟨hb, by rw [hszn]; exact g6 b i (.inl h0), g4 b i⟩
        · rw [if_neg hb]; left; omega
      obtain ⟨_, m4, H4, v4, cs4, ad4, F4, u1, u2, u3, u4, u5, u6⟩ := set_ok hgr q1'
      obtain ⟨_, e3, e4, e5⟩ := b1.inj u1
      subst e3; subst e4
      have e5 := eq_of_heq e5
      subst e5
      have hbn : ∀ b i, 1 ≤ F1 r b i → b < w.heap.size := fun b i hp => k3.bnd b i (.inl (by have := hsum b i; show 1 ≤ 0 + _; omega))
      have hpl := place_frame (σ' := σ1) (a' := a) (w2 := World.news w w') (k3.slots r hr) rfl rfl (fun b i ha u hu => x1.cell b i (k3.bnd b i (.inr ha)) rfl u hu) (fun b i hp u hu => x1.cell b i (hbn b i hp) rfl u hu) b2
      rw [hpl] at u2
      simp only [Option.some.injEq, Pl.mk.injEq, true_and] at u2
      obtain ⟨rfl, rfl⟩ := u2
      have hfr : fpOf (World.news w w') t m [] cs = fpOf w t m [] cs := fpOf_frame t s3 (fun b i hp u hu => x1.cell b i (hbn b i (by have := s4 b i; omega)) rfl u hu)
      have hfp : ∀ b i, fpOf w t m [] cs b i ≤ F4 b i := fun b i => by have := (Rep.fp t u3).2 b i; rw [hfr] at this; exact this
      have hl3 := Rep.length _ t1
      have hl := Rep.length _ s3
      have hcs : isP = false → cs3 = cs := fun hP => mkV_inj hl3 (Rep.one _ t1) hl (Rep.one _ s3) (t4 hP)
      -- where the place itself lies nothing is that was owned in it
      have hself : ∀ b i, 1 ≤ rngO ad t.sz b i → F4 b i = 0 := fun b i hp => by
        have := u4 b i; have := hsum b i; have := htot b i; omega
      have hkey : ∀ b i, b < w.heap.size → 1 ≤ G b i → 1 ≤ rngO ad t.sz b i ∨ 1 ≤ F4 b i := fun b i hb hp => by
        rcases g3 b i hp with h1 | h1
        · have := hF0r b i; have := hfp b i; omega
        · omega
      have hsumG : ∀ b i, GR b i + F3 b i ≤ (if w.heap.size ≤ b then G b i else 0) + F4 b i := fun b i => by
        have h7 := g7 b i; have h2 := t2 b i
        by_cases hb : w.heap.size ≤ b
        · rw [if_pos hb]; omega
        · rw [if_neg hb]
          rcases Nat.eq_zero_or_pos (GR b i + F3 b i) with h0 | h0
          · omega
          · have h4 := g4 b i
            rcases g3 b i (by omega) with h1 | h1
            · rw [hF0] at h1
              cases hP : isP with
              | true =>
                obtain ⟨b', o', had⟩ := b3 hP
                obtain ⟨_, h8⟩ := t3 hP b' o' had
                have h9 := h8 b i
                rw [hP, had] at h1
                simp only [pickN, rngO] at h1
                have := hfp b i
                omega
              | false =>
                rw [hP] at h1
                simp only [pickN, Nat.zero_add] at h1
                have := hfp b i
                omega
            · omega
      obtain ⟨A3, σ3, Fr, n1, n2, n3, n4, n5⟩ := u6 w' A2 cs3 F3 GR (x2.mono fun b i hz => by
          have hz : (if w.heap.size ≤ b then G b i else 0) + (F4 b i + rngO ad t.sz b i) = 0 := hz
          have := hF0r b i; have := hfp b i; omega) a3 (fun b i ha => by
          rcases a4 b i ha with ha | ⟨h1, h2⟩
          · exact .inl ha
          · refine .inr ⟨?_, by have := g7 b i; have := t2 b i; omega⟩
            have hb : b < w.heap.size := hbn b i (by have := hF0F b i; omega)
            rw [if_neg (by omega)]
            rw [hF0] at h1
            cases hP : isP with
            | true =>
              obtain ⟨b', o', had⟩ := b3 hP
              obtain ⟨_, h8⟩ := t3 hP b' o' had
              have h9 := h8 b i
              rw [hP, had] at h1
              simp only [pickN, rngO] at h1
              have := hfp b i; have := g7 b i
              omega
            | false =>
              rw [hP] at h1
              simp only [pickN, Nat.zero_add] at h1
              have := hfp b i
              omega) hsumG (fun b o e => by
          cases hP : isP with
          | true => exact (t3 hP b o e).1
          | false =>
            rw [hcs hP]
            intro j u hu
            have hj := (List.getElem?_eq_some_iff.1 hu).1
            have h9 : rngO ad t.sz b (o + j) = 1 := by rw [e]; simp only [rngO, rng]; rw [if_pos ⟨trivial, by omega, by omega⟩]
            have h8 := hself b (o + j) (by omega)
            refine x2.cell b (o + j) ?_ ?_ u ((u5 b o e).1 j u hu)
            · rw [hszn]; exact Nat.lt_of_lt_of_le (hbn b (o + j) (by have := u4 b (o + j); omega)) hext.size
            · rw [hF0, hP]
              have := hfp b (o + j)
              simp only [pickN, Nat.zero_add]; omega) (fun e => by
          cases hP : isP with
          | true => obtain ⟨b', o', had⟩ := b3 hP; rw [e] at had; cases had
          | false => exact hcs hP) a5
      have hret := ret_ok (σ := σ3) (a := a) (RetRel.mono n2 a6)
      cases hP : isP with
      | true =>
        subst hP
        exact ⟨fin_val n3 n1 hret.1 (fun _ _ => Nat.le_refl _) hret.2, fun hm => (argsOk_mut g.ps hm q2).elim⟩
      | false =>
        subst hP
        have hc := hcs rfl
        subst hc
        have h5 := n5 (bumpAt (nidx p + 1)) (below_bumpAt _ (k3.vlen r)) (len_bumpAt _ (k3.vlen r)) rfl (fun p' snap hb hok hlen => by
          have := ok_bumpAt (nidx p + 1) (k3.vlen r) hb hok
          exact ⟨1, False, by omega, fun _ => .inl (by omega), fun _ => by omega, stab_head ad a5⟩)
        have hret' := ret_ok (σ := { σ3 with vr := (σ1.setVer r (bumpAt (nidx p + 1))).vr, lent := σ1.lent }) (a := a) (RetRel.mono n2 a6)
        exact ⟨fin_val h5 n1 hret'.1 (fun _ _ => Nat.le_refl _) hret'.2, fun hm => (argsOk_mut g.ps hm q2).elim⟩
  | _ :: _ :: _, hl => simp at hl

theorem callK_ok (h : Rel0 P C A σ a w F) {f : FuncId} {g : Sig} (hs : Sound P f g) {xs : List Operand} {ex : List Slot} {exv : List Value} (hok : xs.all (opdOk P) = true)
    (hex : ∀ (A' : Cells) (σ' : St), (∀ b i, A b i → A' b i) → SlotsRel P A' σ' a w ex exv) {d : Option Tmp} {K : St → Option R} (hk : callK g σ xs ex d K = some x) :
    Calls P f (xs.map a.eval ++ exv).toArray w fun e w' => ∃ rv, e = .returned rv ∧ Nx P C K x (a.put d rv) w' ∧ (noMut g.ps = true → Ext w w' (fun _ _ => 0)) := by
  unfold callK at hk
  split at hk
  · rename_i ho
    exact callGo_ok h hs (fun _ => ho) hok hex hk
  · obtain ⟨A1, σ1, F1, k1, k2, k3, k4⟩ := frz_ok g.ps xs h hk
    exact callGo_ok k3 hs (fun e => by cases e) hok (fun A' σ' hA => hex A' σ' fun b i ha => hA b i (k2 b i ha)) k1

/-- A function is entered. -/
theorem enter_run {f : FuncId} {cap : Bool} (he : EnterOk P f cap) (args : Array Value) : (callFunc f args).run P w = .ok (.enter f args) w := by
  obtain ⟨fn, h1, h2, h3, _⟩ := he
  have h2' : fn.name ≠ "runtime.NumGoroutine" := by simpa using h2
  have h3' : fn.body ≠ none := by intro e; rw [e] at h3; cases h3
  simp [callFunc, h1, h2', h3']

theorem step_call_f (h : Rel0 P C A σ a w F) {f : FuncId} {args : Array Operand} {ts : Array TypeId} (ho : o.op = .call { callee := .value (.func f), args := args, argTypes := ts }) (hok : args.toList.all (opdOk P) = true) {g : Sig} (hs : Sound P f g) (he : EnterOk P f false)
    {K : St → Option R} (hk : callK g σ args.toList [] o.dst K = some x) : o.wp P a w (fun a' w' => Nx P C K x a' w' ∧ (noMut g.ps = true → Ext w w' (fun _ _ => 0))) Q := by
  have hrun : (execOp a.eval o).run P w = .ok (.enter f (args.map a.eval)) w := by
    have e : a.eval (.func f) = .func (.func f) #[] #[] := rfl
    simp [execOp, ho, resolve, Deferred.ofValue, e, invoke, enter_run he]
  unfold Oper.wp
  rw [hrun, Oper.upon_enter]
  have hc := callK_ok h hs (ex := []) (exv := []) hok (fun _ _ _ => trivial) hk
  have : (args.toList.map a.eval ++ []).toArray = args.map a.eval := by apply Array.ext'; simp
  rw [this] at hc
  exact hc.mono fun e w' ⟨rv, he, hn⟩ => by subst he; exact hn

theorem step_call_t (h : Rel0 P C A σ a w F) {i : Tmp} {args : Array Operand} {ts : Array TypeId} (ho : o.op = .call { callee := .value (.tmp i), args := args, argTypes := ts }) (hok : args.toList.all (opdOk P) = true) {f : FuncId} {n : Int} (hsl : slotFn (σ.get i) = some (f, n)) {g : Sig} (hs : Sound P f g) (he : EnterOk P f g.cap)
    {K : St → Option R} (hk : callK g σ args.toList (match g.cap with | true => [.cp (.int .i64) n] | false => []) o.dst K = some x) : o.wp P a w (fun a' w' => Nx P C K x a' w' ∧ (noMut g.ps = true → Ext w w' (fun _ _ => 0))) Q := by
  have hi : i < σ.n := by
    rcases Nat.lt_or_ge i σ.n with hi | hi
    · exact hi
    · rw [get_out (Nat.not_lt.2 hi)] at hsl; cases hsl
  have hsi := h.slots i hi
  unfold slotFn at hsl
  split at hsl
  rotate_left
  · cases hsl
  rename_i v hg
  injection hsl with hv
  subst hv
  rw [hg] at hsi
  obtain ⟨cs, h1, caps, rfl, fn, h3, h4⟩ := hsi
  have e : a.eval (.tmp i) = .func (.func f) #[] caps := h1
  have hrun : (execOp a.eval o).run P w = .ok (.enter f (args.map a.eval ++ caps)) w := by
    simp [execOp, ho, resolve, Deferred.ofValue, e, invoke, enter_run he]
  unfold Oper.wp
  rw [hrun, Oper.upon_enter]
  obtain ⟨fn', f1, f2, f3, f4⟩ := he
  rw [h3] at f1
  injection f1 with f1
  subst f1
  have hex : ∃ exv : List Value, (args.toList.map a.eval ++ exv).toArray = args.map a.eval ++ caps ∧ ∀ (A' : Cells) (σ' : St), (∀ b i, A b i → A' b i) → SlotsRel P A' σ' a w (match g.cap with | true => [.cp (.int .i64) n] | false => []) exv := by
    rcases h4 with ⟨h4, rfl⟩ | ⟨h4, ad, rfl, h5, h6, h7⟩
    · have : g.cap = false := by cases hg : g.cap with | false => rfl | true => rw [hg, h4] at f4; cases f4
      rw [this]
      exact ⟨[], by apply Array.ext'; simp, fun _ _ _ => trivial⟩
    · have : g.cap = true := by cases hg : g.cap with | true => rfl | false => rw [hg, h4] at f4; cases f4
      rw [this]
      refine ⟨[.pointer (some ad)], by apply Array.ext'; simp, fun A' σ' hA => ⟨.inl ⟨ad, rfl, h5, [.int .i64 n], rfl, (fun j u hu => ?_), rfl⟩, trivial⟩⟩
      cases j with
      | zero => injection hu with hu; subst hu; exact ⟨h6, hA _ _ h7⟩
      | succ j => cases hu
  obtain ⟨exv, hexv, hex⟩ := hex
  have hc := callK_ok h hs hok hex hk
  rw [hexv] at hc
  exact hc.mono fun e w' ⟨rv, he, hn⟩ => by subst he; exact hn
end
end OT
