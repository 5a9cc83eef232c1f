/- Operands used; slots laid. -/
import Derived.Test.YtkimdiobckckiaaOTl
set_option linter.unusedVariables false
set_option linter.unusedSimpArgs false
namespace OT
open Go

section
variable {P : Program} {C : Ctx} {A : Cells} {X : FP} {σ : St} {a : Act} {w : World} {F : Nat → FP} {R : Type} {x : R}

theorem lentB_none {l : List (Nat × Nat × Bool)} {r : Nat} (h : lentB l r = false) (k : Nat) : (r, k, false) ∉ l := by
  induction l with
  | nil => intro hm; cases hm
  | cons y l ih =>
    obtain ⟨k', n, b⟩ := y
    simp only [lentB, Bool.or_eq_false_iff] at h
    intro hm
    rcases List.mem_cons.1 hm with e | hm
    · injection e with e1 e2
      injection e2 with e2 e3
      subst e1; subst e3
      simp at h
    · exact ih h.2 hm

theorem put_same (a : Act) (i : Nat) : a.put (some i) (tmp a i) = a := by
  have : a.tmps.setIfInBounds i (tmp a i) = a.tmps := by
    apply Array.ext
    · simp
    · intro j h1 h2
      rw [Array.getElem_setIfInBounds (by simpa using h1)]
      split
      · rename_i e; subst e; simp [tmp, h2]
      · rfl
  simp [Act.put, this]

theorem use_ok (h : Rel P C A X σ a w F) {s : Slot} {tv : Value} {G : FP} (hs : SlotRel P A σ a w tv s G) {mv : Bool} {t : Ty} {K : Md → t.den → St → Option R} (hk : useK σ s mv t K = some x) :
    ∃ (A' : Cells) (σ' : St) (F' : Nat → FP) (m : Md) (v : t.den) (cs : List Value) (Fv : FP), K m v σ' = some x ∧ (∀ b i, A b i → A' b i) ∧ Rel P C A' (fun b i => X b i + Fv b i) σ' a w F' ∧ σ'.n = σ.n ∧ Roots σ σ' ∧
      tv = mkV t cs ∧ Rep P w A' t m [] v cs Fv := by
  have hz : Rel P C A (fun b i => X b i + 0) σ a w F := h
  cases s with
  | val t' v =>
    simp only [useK] at hk
    obtain ⟨e, hk⟩ := castK_some hk; subst e
    obtain ⟨cs, h1, h2⟩ := hs
    exact ⟨A, σ, F, _, v, cs, fun _ _ => 0, hk, fun _ _ h => h, hz, rfl, Roots.refl σ, h1, Ro.rep _ _ (roMd_noOwn _) h2⟩
  | cp t' v =>
    simp only [useK] at hk
    obtain ⟨e, hk⟩ := castK_some hk; subst e
    exact ⟨A, σ, F, _, v, [tv], fun _ _ => 0, hk, fun _ _ h => h, hz, rfl, Roots.refl σ, (mkV_one _ _ rfl).symm, Ro.rep _ _ (roMd_noOwn _) hs⟩
  | nils =>
    simp only [useK] at hk
    split at hk
    · rename_i t e
      have hs : tv = .slice none 0 0 := hs
      subst hs
      refine ⟨A, σ, F, _, _, [.slice none 0 0], fun _ _ => 0, hk, fun _ _ h => h, hz, rfl, Roots.refl σ, (mkV_one _ _ rfl).symm, ?_⟩
      simp only [Rep, hole, List.any_nil, Bool.false_eq_true, if_false, ownMd, mdOf, Md.own, if_true]
      exact ⟨none, 0, rfl, Nat.le_refl _, by simp [maxLen], fun _ => rfl, fun ad had => by cases had⟩
    · cases hk
  | ref r p snap =>
    simp only [useK] at hk
    split at hk
    · rename_i hok
      obtain ⟨hr, t', m', H', v', cs', ad', F', h1, h2, h3, h4, h5, h6⟩ := at_ok h hk
      obtain ⟨pl, g1, g2, g3⟩ := hs.2 hok
      rw [h3] at g1
      injection g1 with g1
      subst g1
      split at h1
      · rename_i hH
        have hH := List.isEmpty_iff.1 hH; subst hH
        obtain ⟨e, h1⟩ := castK_some h1; subst e
        split at h1
        · rename_i hm; subst hm
          exact ⟨A, σ, F, _, v', cs', fun _ _ => 0, h1, fun _ _ h => h, hz, rfl, Roots.refl σ, g2, Ro.rep _ _ (roMd_noOwn _) (Rep.ro _ (roMd_noOwn _) h4)⟩
        · split at h1
          · obtain ⟨A', σ', F2, cs, ad, Fv, k1, k2, k3, k4, kr, k5, k6⟩ := take_ok h h1 ⟨h2⟩
            rw [h3] at k5
            injection k5 with k5
            simp only [Pl.mk.injEq, true_and] at k5
            obtain ⟨rfl, rfl⟩ := k5
            exact ⟨A', σ', F2, _, v', cs', Fv, k1, k2, k3, k4, kr, g2, Rep.mono k2 (fun _ _ _ _ h => h) (fun _ _ h => h) _ k6 (fun _ _ => Nat.le_refl _) (fun _ _ _ _ h => h)⟩
          · obtain ⟨A', σ', F2, t2, m2, v2, cs, ad, k1, k2, k3, k4, kr, k5, k6, k7⟩ := freeze_ok h h1
            obtain ⟨e1, e2, e3, e4⟩ := At.inj ⟨h2⟩ k5
            subst e1
            have e4 := eq_of_heq e4
            subst e4
            rw [h3] at k6
            injection k6 with k6
            simp only [Pl.mk.injEq, true_and] at k6
            obtain ⟨rfl, rfl⟩ := k6
            exact ⟨A', σ', F2, _, v', cs', fun _ _ => 0, k1, k2, k3, k4, kr, g2, Ro.rep _ _ (roMd_noOwn _) k7⟩
      · cases h1
    · cases hk
  | sub r p snap lo hi =>
    simp only [useK] at hk
    split at hk
    · rename_i hok
      obtain ⟨hr, t', m', H', v', cs', ad', F', h1, h2, h3, h4, h5, h6⟩ := at_ok h hk
      obtain ⟨pl, e, xa, n, cap, xa', cap', g1, g2, g3, g4, g5, g6, g7, g7', g8, g9, g10⟩ := hs.2 hok
      rw [h3] at g1
      injection g1 with g1
      subst g1
      simp only at g2 g3
      subst g2; subst g3
      split at h1
      · rename_i hH
        have hH := List.isEmpty_iff.1 hH; subst hH
        obtain ⟨e', h1⟩ := castK_some h1; subst e'
        simp only at h1
        have htv : tv = mkV (.slc e) [.slice xa' (hi - lo) cap'] := by rw [mkV_one _ _ rfl]; exact g6
        split at h1
        · rename_i hm; subst hm
          exact ⟨A, σ, F, _, _, _, fun _ _ => 0, h1, fun _ _ h => h, hz, rfl, Roots.refl σ, htv, Ro.rep _ _ (roMd_noOwn _) (Ro.piece (Rep.ro _ (roMd_noOwn _) h4) g4 g5 g7 g8 g9)⟩
        · split at h1
          · split at h1
            · rename_i hlo
              subst hlo
              obtain ⟨A', σ', F2, cs, ad, Fv, k1, k2, k3, k4, kr, k5, k6⟩ := take_ok h h1 ⟨h2⟩
              rw [h3] at k5
              injection k5 with k5
              simp only [Pl.mk.injEq, true_and] at k5
              obtain ⟨rfl, rfl⟩ := k5
              have k6 := Rep.mono k2 (fun _ _ _ _ h => h) (fun _ _ h => h) _ k6 (fun _ _ => Nat.le_refl _) (fun _ _ _ _ h => h)
              refine ⟨A', σ', F2, _, _, _, Fv, k1, k2, k3, k4, kr, htv, ?_⟩
              have hxa := g7' rfl
              subst hxa
              simp only [Nat.add_zero] at g7
              subst g7
              simp only [Rep, hole, List.any_nil, Bool.false_eq_true, if_false] at k6 ⊢
              split at k6
              · rename_i hown
                rw [if_pos hown]
                obtain ⟨a0, cap0, q1, q2, q3, q4, q5⟩ := k6
                simp only [List.cons.injEq, Value.slice.injEq, and_true] at q1
                obtain ⟨rfl, rfl, rfl⟩ := q1
                have hlen : List.length ((v'.take hi).drop 0) = hi := by simp; omega
                refine ⟨xa', cap', by rw [hlen]; rfl, by rw [hlen]; omega, q3, q4, fun ad had => ?_⟩
                obtain ⟨r1, r2, r3, Fi, r4, r5⟩ := q5 ad had
                refine ⟨r1, r2, r3, Fi, fun b i => ?_, fun i y hy => ?_⟩
                · rw [hlen]
                  have := r4 b i; have := sumF_part (List.length v') Fi 0 hi (by omega) b i
                  simp only [Nat.zero_add] at this
                  have this : sumF hi Fi b i ≤ sumF (List.length v') Fi b i := this
                  omega
                · rw [List.drop_zero, List.getElem?_take] at hy
                  split at hy
                  · exact r5 i y hy
                  · cases hy
              · rename_i hown
                rw [if_neg hown]
                exact ⟨trivial, k6.2.1, Ro.piece (cap' := cap') k6.2.2 g4 g5 rfl g8 g9⟩
            · cases h1
          · obtain ⟨A', σ', F2, t2, m2, v2, cs, ad, k1, k2, k3, k4, kr, k5, k6, k7⟩ := freeze_ok h h1
            obtain ⟨e1, e2, e3, e4⟩ := At.inj ⟨h2⟩ k5
            subst e1
            have e4 := eq_of_heq e4
            subst e4
            rw [h3] at k6
            injection k6 with k6
            simp only [Pl.mk.injEq, true_and] at k6
            obtain ⟨rfl, rfl⟩ := k6
            exact ⟨A', σ', F2, _, _, _, fun _ _ => 0, k1, k2, k3, k4, kr, htv, Ro.rep _ _ (roMd_noOwn _) (Ro.piece k7 g4 g5 g7 g8 g9)⟩
      · cases h1
    · cases hk
  | ptr r p snap =>
    cases p with
    | cons s p => simp [useK] at hk
    | nil =>
      simp only [useK] at hk
      split at hk
      · rename_i hok
        split at hk
        · rename_i t' m' H' v' hg
          split at hk
          · rename_i hc
            simp only [Bool.and_eq_true, List.isEmpty_iff, Bool.not_eq_true'] at hc
            obtain ⟨rfl, hl⟩ := hc
            obtain ⟨e, hk⟩ := castK_some hk; subst e
            have hr : r < σ.n := by
              rcases Nat.lt_or_ge r σ.n with hr | hr
              · exact hr
              · rw [get_out (Nat.not_lt.2 hr)] at hg; cases hg
            obtain ⟨pl, b, o, g1, g2, g3, g4⟩ := hs.2 hok
            have hsl := h.slots r hr
            rw [hg] at hsl
            obtain ⟨b0, o0, L, F1, q1, q2, q3, q4, q5, q6⟩ := hsl
            unfold place at g1
            rw [hg, q1] at g1
            simp only [rootPl, Option.bind_some, plc, Option.some.injEq] at g1
            subst g1
            simp only [Option.some.injEq, Prod.mk.injEq] at g2
            obtain ⟨rfl, rfl⟩ := g2
            obtain ⟨b1, w1, w2⟩ := h.whole r t' m' [] v' hg (lentB_none hl)
            rw [q1] at w1
            simp only [Value.pointer.injEq, Option.some.injEq, Addr.mk.injEq, and_true] at w1
            obtain ⟨rfl, rfl⟩ := w1
            have hput := h.put hr (s := .dead) (v := tmp a r) (Fd := fun _ _ => 0) (X' := fun b i => X b i + F r b i) trivial (fun b i => by omega) (fun t m H v e => by cases e)
            rw [put_same] at hput
            refine ⟨A, _, _, _, v', [tv], F r, hk, fun _ _ h => h, hput, rfl, (fun w tv i R hR => ⟨R.H, by
              rw [get_put] at hR
              split at hR
              · cases hR
              · exact hR⟩), (mkV_one _ _ rfl).symm, ?_⟩
            simp only [Rep, hole, List.any_nil, Bool.false_eq_true, if_false, Md.own, if_true, Md.e]
            exact ⟨b0, by rw [g3], w2, L, F1, q2, q3, q5, q6⟩
          · cases hk
        · cases hk
      · cases hk
  | _ => simp [useK] at hk

/-- Data laid into a slot. -/
theorem laid_ok {t : Ty} {m : Md} {v : t.den} {cs : List Value} {Fv : FP} (h : Rep P w A t m [] v cs Fv) :
    SlotRel P A σ a w (mkV t cs) (laid t m v) Fv ∧ ∀ t' m' H' v', laid t m v = .box t' m' H' v' → ∃ b, mkV t cs = .pointer (some ⟨b, 0, none⟩) ∧ OwnBlk w b t'.sz := by
  unfold laid
  split
  · rename_i hm; subst hm
    exact ⟨⟨cs, rfl, Rep.ro _ (roMd_noOwn _) h⟩, fun t' m' H' v' e => by cases e⟩
  · split
    · rename_i e m' v' _
      simp only [Rep, hole, List.any_nil, Bool.false_eq_true, if_false, Md.own, if_true, Md.e] at h
      obtain ⟨b, rfl, h2, L, F1, h3, h4, h5, h6⟩ := h
      rw [mkV_one _ _ rfl]
      refine ⟨⟨b, 0, L, F1, rfl, h3, h4, fun j hj => by rw [Nat.zero_add]; exact h2.frozen hj, h5, h6⟩, fun t' m' H' v' e => ?_⟩
      injection e with e1
      subst e1
      exact ⟨b, rfl, h2⟩
    · exact ⟨⟨cs, rfl, h⟩, fun t' m' H' v' e => by cases e⟩

/-- A slot that is none. -/
theorem Rel.put_out (h : Rel P C A X σ a w F) {d : Nat} (hd : σ.n ≤ d) (s : Slot) (v : Value) {X' : FP} (ht : ∀ b i, X' b i ≤ X b i) : Rel P C A X' (σ.put d s) (a.put (some d) v) w F := by
  have hsz := h.size
  have ha : a.put (some d) v = a := by simp [Act.put, Array.setIfInBounds, hsz, Nat.not_lt.2 hd]
  rw [ha]
  have hget : ∀ i, (σ.put d s).get i = σ.get i := fun i => by
    rw [get_put]; split
    · omega
    · rfl
  have hpres : Pres σ a w (σ.put d s) a w := by
    intro r p snap hb
    rw [ver_put, St.ok, ver_put]
    by_cases hr : d = r
    · subst hr
      simp only [if_true]
      refine ⟨hb.trans (below_bumpBase _), fun hok => ?_⟩
      have h0 := ok_bumpBase (h.vlen d) hb hok
      exact ⟨(ok_back hb (below_bumpBase _) hok).1, fun hl => by omega⟩
    · simp only [if_neg hr]
      refine ⟨hb, fun hok => ⟨hok, fun hl pl hpl => ⟨pl.H, pl.cs, ?_, fun _ => rfl⟩⟩⟩
      unfold place at hpl ⊢
      rw [hget]; exact hpl
  refine ⟨h.size, h.defers, fun i hi => ?_, ?_, fun b i => by have := h.tot b i; have := ht b i; show X' b i + sumF σ.n F b i ≤ 1; omega, fun b i hp => h.dis b i (by have := ht b i; have hp : 1 ≤ X' b i + sumF σ.n F b i := hp; omega),
    fun b i hp => h.bnd b i (hp.imp (fun hp => by have := ht b i; have hp : 1 ≤ X' b i + sumF σ.n F b i := hp; omega) id), fun i => ?_, h.ext, fun b i hp => h.own b i (by have := ht b i; have hp : 1 ≤ X' b i + sumF σ.n F b i := hp; omega), h.a0, h.a1, ?_, ?_, ?_⟩
  · rw [hget]
    exact SlotRel.pres hpres (fun _ _ h => h) (fun _ _ _ _ h => h) (fun _ _ h => h) (fun _ _ _ => ⟨fun _ h => h, rfl⟩) (h.slots i hi)
  · intro d' r p snap hm
    exact RefRel.pres hpres (h.gh d' r p snap (mem_ungh hm).1)
  · rw [ver_put]
    split
    · rw [len_bumpBase]; exact h.vlen d
    · exact h.vlen i
  · intro j k hm; exact h.lentP j k (mem_unlend hm).1
  · intro r t m H v' hg hl
    rw [hget] at hg
    refine h.whole r t m H v' hg fun k hm => hl k (unlend_mem hm fun e => ?_)
    have e : r = d := e
    subst e
    rw [get_out (Nat.not_lt.2 hd)] at hg; cases hg
  · intro j k hm R hR
    rw [hget] at hR
    exact h.lentS j k (mem_unlend hm).1 R hR

/-- A result is laid where it goes. -/
theorem Rel.putD (h : Rel P C A X σ a w F) (d : Option Tmp) {s : Slot} {v : Value} {Fd X' : FP} (hs : SlotRel P A σ a w v s Fd) (ht : ∀ b i, X' b i + Fd b i ≤ X b i)
    (hwh : ∀ t m H v', s = .box t m H v' → ∃ b, v = .pointer (some ⟨b, 0, none⟩) ∧ OwnBlk w b t.sz) : ∃ F', Rel P C A X' (σ.putD d s) (a.put d v) w F' := by
  cases d with
  | none => exact ⟨F, h.less fun b i => by have := ht b i; omega⟩
  | some d =>
    rcases Nat.lt_or_ge d σ.n with hd | hd
    · exact ⟨_, h.put hd hs (fun b i => by have := ht b i; omega) hwh⟩
    · exact ⟨_, h.put_out hd s v fun b i => by have := ht b i; omega⟩

/-- The two states belong together. -/
def RelE (P : Program) (C : Ctx) (σ : St) (a : Act) (w : World) : Prop := ∃ A F, Rel P C A (fun _ _ => 0) σ a w F

end
end OT
