/- To a place and back. -/
import Derived.Test.YtkimdiobckckiaaOTf
set_option linter.unusedVariables false
set_option linter.unusedSimpArgs false
namespace OT
open Go

/-- Cells laid over others. -/
def spl (cs : List Value) (off : Nat) (n : Nat) (c2 : List Value) : List Value := cs.take off ++ c2 ++ cs.drop (off + n)
def repl (loc : Option Nat) (cs : List Value) (n : Nat) (c2 : List Value) : List Value := match loc with
  | some off => spl cs off n c2
  | none => cs

theorem spl_length {cs c2 : List Value} {off n : Nat} (h : off + n ≤ cs.length) (h2 : c2.length = n) : (spl cs off n c2).length = cs.length := by
  simp [spl]; omega
theorem spl_self {cs : List Value} {off n : Nat} (h : off + n ≤ cs.length) : spl cs off n ((cs.drop off).take n) = cs := by
  unfold spl
  rw [List.append_assoc]
  have : (cs.drop off).take n ++ cs.drop (off + n) = cs.drop off := by
    rw [← List.drop_drop]; exact List.take_append_drop n (cs.drop off)
  rw [this]; exact List.take_append_drop off cs
theorem spl_get {cs c2 : List Value} {off n : Nat} (h : off + n ≤ cs.length) (h2 : c2.length = n) (j : Nat) : (spl cs off n c2)[j]? = if off ≤ j ∧ j < off + n then c2[j - off]? else cs[j]? := by
  unfold spl
  rw [List.getElem?_append, List.getElem?_append]
  simp only [List.length_append, List.length_take]
  have h1 : min off cs.length = off := by omega
  rw [h1, h2]
  split
  · split
    · rw [if_neg (by omega), List.getElem?_take, if_pos (by omega)]
    · rw [if_pos (by omega)]
  · rw [if_neg (by omega), List.getElem?_drop]
    congr 1; omega
theorem spl_spl {cs c2 : List Value} {k n' off n : Nat} (h : off + n ≤ n') (h' : k + n' ≤ cs.length) (h2 : c2.length = n) :
    spl cs k n' (spl ((cs.drop k).take n') off n c2) = spl cs (k + off) n c2 := by
  have hl : ((cs.drop k).take n').length = n' := by simp; omega
  apply List.ext_getElem?
  intro j
  rw [spl_get h' (by rw [spl_length (by omega) h2, hl]), spl_get (by omega) h2, spl_get (by omega) h2]
  by_cases h3 : k ≤ j ∧ j < k + n'
  · rw [if_pos h3]
    by_cases h4 : off ≤ j - k ∧ j - k < off + n
    · rw [if_pos h4, if_pos (by omega)]; congr 1; omega
    · rw [if_neg h4, if_neg (by omega), List.getElem?_take, if_pos (by omega), List.getElem?_drop]; congr 1; omega
  · rw [if_neg h3, if_neg (by omega)]
theorem has_spl {w2 : World} {b o : Nat} {cs c2 : List Value} {off n : Nat} (h : off + n ≤ cs.length) (h2 : c2.length = n)
    (hc : Has w2 b (o + off) c2) (hk : ∀ j u, cs[j]? = some u → ¬ (off ≤ j ∧ j < off + n) → ce w2 b (o + j) = some u) : Has w2 b o (spl cs off n c2) := by
  intro j u hu
  rw [spl_get h h2] at hu
  split at hu
  · have := hc _ u hu
    rw [show o + off + (j - off) = o + j by omega] at this
    exact this
  · exact hk j u hu (by assumption)

section
variable {P : Program} {R : Type}

theorem nav_ok {w : World} {A : Cells} {r : R} : ∀ (p : Path) (t : Ty) {m : Md} {H : List Path} {v : t.den} {cs : List Value} {F : FP} {ad : Option (Nat × Nat)} {K : (t' : Ty) → Md → List Path → t'.den → Option R},
    navK p t m H v K = some r → Rep P w A t m H v cs F → (∀ b o, ad = some (b, o) → Has w b o cs) →
    ∃ (t' : Ty) (m' : Md) (H' : List Path) (v' : t'.den) (cs' : List Value) (ad' : Option (Nat × Nat)) (F' : FP), K t' m' H' v' = some r ∧ (∀ {S : Type} (K0 : (t : Ty) → Md → List Path → t.den → Option S), navK p t m H v K0 = K0 t' m' H' v') ∧ plc w p t H cs ad = some ⟨t', H', cs', ad'⟩ ∧ Rep P w A t' m' H' v' cs' F' ∧
      (∀ b i, F' b i ≤ F b i) ∧ (∀ b o, ad' = some (b, o) → Has w b o cs') ∧ (ad.isSome = true → ad'.isSome = true) := by
  intro p
  induction p with
  | nil => intro t m H v cs F ad K h hr had; exact ⟨t, m, H, v, cs, ad, F, h, fun _ => rfl, rfl, hr, fun _ _ => Nat.le_refl _, had, fun h => h⟩
  | cons s p ih =>
    intro t m H v cs F ad K h hr had
    cases t with
    | pair a b =>
      obtain ⟨h0, F1, F2, hs, h1, h2⟩ := hr
      have hle := Rep.length a h1
      have hle2 := Rep.length b h2
      simp only [List.length_take, List.length_drop] at hle hle2
      cases s with
      | fst =>
        have h0' : H.any (·.isEmpty) = false := h0
        simp only [navK, h0'] at h
        obtain ⟨t', m', H', v', cs', ad', F', k1, kn, k2, k3, k4, k5, k6⟩ := ih a h h1 (ad := ad) (fun b o hb j u hu => by
          rw [List.getElem?_take] at hu; split at hu; exact had b o hb j u hu; cases hu)
        exact ⟨t', m', H', v', cs', ad', F', k1, fun K0 => by simp only [navK, h0']; exact kn K0, by simp only [plc, h0]; exact k2, k3, fun b i => by have := hs b i; have := k4 b i; omega, k5, k6⟩
      | snd =>
        have h0' : H.any (·.isEmpty) = false := h0
        simp only [navK, h0'] at h
        obtain ⟨t', m', H', v', cs', ad', F', k1, kn, k2, k3, k4, k5, k6⟩ := ih b h h2 (ad := shiftA ad a.sz) (fun b' o hb j u hu => by
          cases ad with
          | none => cases hb
          | some x =>
            simp only [shiftA, Option.map_some, Option.some.injEq, Prod.mk.injEq] at hb
            obtain ⟨rfl, rfl⟩ := hb
            rw [List.getElem?_drop] at hu
            have := had x.1 x.2 rfl _ u hu
            rwa [Nat.add_assoc])
        exact ⟨t', m', H', v', cs', ad', F', k1, fun K0 => by simp only [navK, h0']; exact kn K0, by simp only [plc, h0]; exact k2, k3, fun b i => by have := hs b i; have := k4 b i; omega, k5, fun h => k6 (by cases ad <;> simp_all [shiftA])⟩
      | idx i => simp [navK] at h
      | aix i => simp [navK] at h
    | slc e =>
      cases s with
      | fst => simp [navK] at h
      | snd => simp [navK] at h
      | aix i => simp [navK] at h
      | idx i =>
        simp only [navK] at h
        obtain ⟨h1, h2, h3⟩ := holeAtK_some h
        cases hx : (v : List e.den)[i]? with
        | none => rw [hx] at h1; cases h1
        | some x =>
          rw [hx] at h1
          simp only [Option.bind_some] at h1
          have hi : i < List.length v := (List.getElem?_eq_some_iff.1 hx).1
          simp only [Rep, h3, Bool.false_eq_true, if_false] at hr
          split at hr
          · obtain ⟨a, cap, rfl, g2, g3, g4, g5⟩ := hr
            cases a with
            | none => have := g4 rfl; omega
            | some ad0 =>
              obtain ⟨q1, q2, q3, Fi, q4, q5⟩ := g5 ad0 rfl
              obtain ⟨L, hl, hL, hrep⟩ := q5 i x hx
              obtain ⟨t', m', H', v', cs', ad', F', k1, kn, k2, k3, k4, k5, k6⟩ := ih e h1 hrep (ad := some (ad0.block, i * e.sz)) (fun b o hb => by
                simp only [Option.some.injEq, Prod.mk.injEq] at hb; obtain ⟨rfl, rfl⟩ := hb; exact hL)
              refine ⟨t', m', H', v', cs', ad', F', k1, fun K0 => by simp only [navK]; rw [holeAtK_eq h, hx]; exact kn K0, ?_, k3, fun b k => ?_, k5, fun _ => k6 rfl⟩
              · simp only [plc, h3, Bool.false_eq_true, if_false, hi, if_true, q1, Nat.zero_add, rd_of_has hL hl]; exact k2
              · have := k4 b k; have := q4 b k; have := le_sumF Fi hi b k; omega
          · obtain ⟨rfl, hno, a, cap, rfl, g2, g3, g4⟩ := hr
            cases a with
            | none => have := g3 rfl; omega
            | some ad0 =>
              obtain ⟨L, hl, hL, hrep⟩ := (g4 ad0 rfl).2 i x hx
              have hL' : Has w ad0.block (ad0.off + i * e.sz) L := fun j u hu => (hL j u hu).1
              obtain ⟨t', m', H', v', cs', ad', F', k1, kn, k2, k3, k4, k5, k6⟩ := ih e h1 (Ro.rep e (fun _ _ => 0) hno hrep) (ad := some (ad0.block, ad0.off + i * e.sz)) (fun b o hb => by
                simp only [Option.some.injEq, Prod.mk.injEq] at hb; obtain ⟨rfl, rfl⟩ := hb; exact hL')
              refine ⟨t', m', H', v', cs', ad', F', k1, fun K0 => by simp only [navK]; rw [holeAtK_eq h, hx]; exact kn K0, ?_, k3, fun b k => ?_, k5, fun _ => k6 rfl⟩
              · simp only [plc, h3, Bool.false_eq_true, if_false, hi, if_true, rd_of_has hL' hl]; exact k2
              · have := k4 b k; omega
    | arr n e =>
      cases s with
      | fst => simp [navK] at h
      | snd => simp [navK] at h
      | idx i => simp [navK] at h
      | aix i =>
        obtain ⟨rfl, hf, hl, hlen, hr⟩ := hr
        simp only [navK, List.isEmpty_nil, if_true] at h
        cases hx : (v : List e.den)[i]? with
        | none => rw [hx] at h; cases h
        | some x =>
          rw [hx] at h
          simp only [Option.bind_some] at h
          have hi : i < n := hl ▸ (List.getElem?_eq_some_iff.1 hx).1
          obtain ⟨t', m', H', v', cs', ad', F', k1, kn, k2, k3, k4, k5, k6⟩ := ih e h (Ro.flat e (fun _ _ => 0) hf (hr i x hx)) (ad := shiftA ad (i * e.sz)) (fun b' o hb j u hu => by
            cases ad with
            | none => cases hb
            | some y =>
              simp only [shiftA, Option.map_some, Option.some.injEq, Prod.mk.injEq] at hb
              obtain ⟨rfl, rfl⟩ := hb
              rw [List.getElem?_take] at hu
              split at hu
              · rw [List.getElem?_drop] at hu
                have := had y.1 y.2 rfl _ u hu
                rwa [Nat.add_assoc]
              · cases hu)
          exact ⟨t', m', H', v', cs', ad', F', k1, fun K0 => by simp only [navK, List.isEmpty_nil, if_true, hx, Option.bind_some]; exact kn K0, by simp only [plc, List.isEmpty_nil, if_true, hi]; exact k2, k3, fun b k => by have := k4 b k; omega, k5, fun h => k6 (by cases ad <;> simp_all [shiftA])⟩
    | _ => cases s <;> simp [navK] at h

/-- What is known of a place that is about to turn. -/
structure ModOk (P : Program) (w : World) (A : Cells) {R : Type} (r : R) (p : Path) (t : Ty) (m : Md) (H : List Path) (v : t.den) (cs : List Value) (F : FP) (ad : Option (Nat × Nat))
    (f : (t' : Ty) → Md → List Path → t'.den → (Md → List Path → t'.den → Option R) → Option R) (K : Md → List Path → t.den → Option R)
    (t' : Ty) (m' : Md) (H' : List Path) (v' : t'.den) (cs' : List Value) (ad' : Option (Nat × Nat)) (F' G : FP) (kk : Md → List Path → t'.den → Option R) (loc : Option Nat) : Prop where
  run : f t' m' H' v' kk = some r
  nav : ∀ {S : Type} (K0 : (t' : Ty) → Md → List Path → t'.den → Option S), navK p t m H v K0 = K0 t' m' H' v'
  place : plc w p t H cs ad = some ⟨t', H', cs', ad'⟩
  rep : Rep P w A t' m' H' v' cs' F'
  sum : ∀ b i, F' b i + G b i ≤ F b i
  has : ∀ b o, ad' = some (b, o) → Has w b o cs'
  inn : ∀ off, loc = some off → off + t'.sz ≤ t.sz ∧ cs' = (cs.drop off).take t'.sz ∧ ad' = shiftA ad off
  locn : 1 ≤ nidx p → loc = none
  out : loc = none → ∃ b o, ad' = some (b, o) ∧ ∀ j, j < t'.sz → 1 ≤ G b (o + j) ∧ w.frozen? ⟨b, o + j, none⟩ = false
  back : ∀ m2 H2 (v2 : t'.den), kk m2 H2 v2 = some r → ∀ (w2 : World) (A2 : Cells) (cs2 : List Value) (F2 : FP),
    (∀ b n, OwnBlk w b n → OwnBlk w2 b n) → (∀ b i, A b i → A2 b i) → (∀ b i, A b i → ∀ u, ce w b i = some u → ce w2 b i = some u) →
    (∀ b i, 1 ≤ G b i → (∀ o, ad' = some (b, o) → ¬ (o ≤ i ∧ i < o + t'.sz)) → ∀ u, ce w b i = some u → ce w2 b i = some u) →
    (∀ b o, ad' = some (b, o) → Has w2 b o cs2) → Rep P w2 A2 t' m2 H2 v2 cs2 F2 → (∀ b i, F2 b i + G b i ≤ 1) →
    ∃ m3 H3 v3 F3, K m3 H3 v3 = some r ∧ (∀ b i, F3 b i ≤ F2 b i + G b i) ∧
      (∀ A3 : Cells, (∀ b i, A2 b i → A3 b i) → (∀ b i, 1 ≤ F2 b i + G b i → F3 b i = 0 → A3 b i) → Rep P w2 A3 t m3 H3 v3 (repl loc cs t'.sz cs2) F3) ∧
      (∀ d full, Stab d full w t' H' cs' ad' w2 H2 cs2 → Stab (d + nidx p) full w t H cs ad w2 H3 (repl loc cs t'.sz cs2))

theorem OwnBlk.frozen {w : World} {b n : Nat} (h : OwnBlk w b n) {i : Nat} (hi : i < n) : w.frozen? ⟨b, i, none⟩ = false := by
  obtain ⟨c, e, fr, h1, h2, h3⟩ := h
  obtain ⟨lo, hi'⟩ := fr
  have := h3 i hi
  simp only [World.frozen?, h1]
  simp only [Bool.and_eq_false_iff, decide_eq_false_iff_not]
  simp only at this
  omega

theorem mod_ok {w : World} {A : Cells} {r : R} : ∀ (p : Path) (t : Ty) {m : Md} {H : List Path} {v : t.den} {cs : List Value} {F : FP} {ad : Option (Nat × Nat)}
    {f : (t' : Ty) → Md → List Path → t'.den → (Md → List Path → t'.den → Option R) → Option R} {K : Md → List Path → t.den → Option R},
    modK p t m H v f K = some r → Rep P w A t m H v cs F → (∀ b i, F b i ≤ 1) → (∀ b o, ad = some (b, o) → Has w b o cs) → (∀ b o, ad = some (b, o) → ∀ j, j < t.sz → F b (o + j) = 0) →
    ∃ t' m' H' v' cs' ad' F' G kk loc, ModOk P w A r p t m H v cs F ad f K t' m' H' v' cs' ad' F' G kk loc := by
  intro p
  induction p with
  | nil =>
    intro t m H v cs F ad f K h hr hF had hdis
    have hlen := Rep.length t hr
    refine ⟨t, m, H, v, cs, ad, F, fun _ _ => 0, K, some 0, h, fun _ => rfl, rfl, hr, fun _ _ => by simp, had, ?_, (fun h => by simp [nidx] at h), (fun h => by cases h), ?_⟩
    · intro off ho
      injection ho with ho; subst ho
      refine ⟨by omega, ?_, ?_⟩
      · rw [List.drop_zero, ← hlen, List.take_length]
      · cases ad <;> simp [shiftA]
    · intro m2 H2 v2 hk w2 A2 cs2 F2 hb hA hcA hG had2 hr2 hs
      have hl2 := Rep.length t hr2
      have hspl : repl (some 0) cs t.sz cs2 = cs2 := by
        simp [repl, spl, List.drop_eq_nil_of_le (show cs.length ≤ t.sz by omega)]
      rw [hspl]
      refine ⟨m2, H2, v2, F2, hk, fun _ _ => by simp, fun A3 hA3 _ => Rep.mono hA3 (fun _ _ _ _ h => h) (fun _ _ h => h) t hr2 (fun _ _ => Nat.le_refl _) (fun _ _ _ _ h => h), fun d full hd => hd⟩
  | cons s p ih =>
    intro t m H v cs F ad f K h hr hF had hdis
    cases t with
    | pair a b =>
      obtain ⟨h0, F1, F2, hs, h1, h2⟩ := hr
      have hle := Rep.length a h1
      have hle2 := Rep.length b h2
      simp only [List.length_take, List.length_drop] at hle hle2
      have h0' : H.any (·.isEmpty) = false := h0
      have hhas1 : ∀ b o, ad = some (b, o) → Has w b o (cs.take a.sz) := fun b o hb j u hu => by
        rw [List.getElem?_take] at hu; split at hu; exact had b o hb j u hu; cases hu
      have hhas2 : ∀ b' o, shiftA ad a.sz = some (b', o) → Has w b' o (cs.drop a.sz) := fun b' o hb j u hu => by
        cases ad with
        | none => cases hb
        | some x =>
          simp only [shiftA, Option.map_some, Option.some.injEq, Prod.mk.injEq] at hb
          obtain ⟨rfl, rfl⟩ := hb
          rw [List.getElem?_drop] at hu
          have := had x.1 x.2 rfl _ u hu
          rwa [Nat.add_assoc]
      cases s with
      | fst =>
        simp only [modK, h0'] at h
        obtain ⟨t', m', H', v', cs', ad', F', G, kk, loc, M⟩ := ih a h h1 (fun b i => by have := hs b i; have := hF b i; omega) hhas1 (fun b' o hb j hj => by
          have := hdis b' o hb j (by simp only [Ty.sz]; omega); have := hs b' (o + j); omega)
        refine ⟨t', m', H', v', cs', ad', F', fun b i => G b i + F2 b i, kk, loc, M.run, fun K0 => by simp only [navK, h0']; exact M.nav K0, by simp only [plc, h0]; exact M.place, M.rep, fun b i => by have := hs b i; have := M.sum b i; omega, M.has, ?_, (fun h => M.locn (by simpa [nidx] using h)), ?_, ?_⟩
        · intro off ho
          obtain ⟨q1, q2, q3⟩ := M.inn off ho
          refine ⟨by simp only [Ty.sz]; omega, ?_, q3⟩
          rw [q2, List.drop_take, List.take_take]
          congr 1; omega
        · intro ho
          obtain ⟨b', o, q1, q2⟩ := M.out ho
          exact ⟨b', o, q1, fun j hj => ⟨by have := (q2 j hj).1; omega, (q2 j hj).2⟩⟩
        · intro m2 H2 v2 hk w2 A2 cs2 F2' hb hA hcA hG had2 hr2 hsum
          obtain ⟨m3, H3, v3, F3, k1, k2, k3, k4⟩ := M.back m2 H2 v2 hk w2 A2 cs2 F2' hb hA hcA (fun b' i hp hn => hG b' i (by omega) hn) had2 hr2 (fun b' i => by have := hsum b' i; omega)
          have hl2 := Rep.length t' hr2
          have hcs : repl loc cs t'.sz cs2 = repl loc (cs.take a.sz) t'.sz cs2 ++ cs.drop a.sz := by
            cases loc with
            | none => simp [repl]
            | some off =>
              have := (M.inn off rfl).1
              simp only [repl, spl]
              rw [List.take_take, show min off a.sz = off by omega, List.append_assoc, List.append_assoc, List.append_assoc]
              congr 2
              rw [List.drop_take]
              have e : cs.drop a.sz = (cs.drop (off + t'.sz)).drop (a.sz - (off + t'.sz)) := by rw [List.drop_drop]; congr 1; omega
              rw [e, List.take_append_drop]
          have hrl : (repl loc (cs.take a.sz) t'.sz cs2).length = a.sz := by
            cases loc with
            | none => simp [repl]; omega
            | some off => have := (M.inn off rfl).1; simp only [repl]; rw [spl_length (by simp; omega) hl2]; simp; omega
          have hsame : ∀ d full, Stab d full w t' H' cs' ad' w2 H2 cs2 → full → repl loc cs t'.sz cs2 = cs := fun d full hd hfull => by
            obtain ⟨H5, c5, e1, e2⟩ := hd [] ⟨t', H', cs', ad'⟩ (Nat.zero_le _) rfl
            simp only [plc, Option.some.injEq, Pl.mk.injEq] at e1
            have e3 : cs2 = cs' := e1.2.2.1.trans (e2 (.inr hfull))
            cases loc with
            | none => rfl
            | some off =>
              have := M.inn off rfl
              rw [e3, this.2.1, List.drop_take, List.take_take, show min t'.sz (a.sz - off) = t'.sz by omega]
              exact spl_self (by omega)
          have htk : (repl loc cs t'.sz cs2).take a.sz = repl loc (cs.take a.sz) t'.sz cs2 := by rw [hcs]; exact List.take_left' hrl
          have hdr : (repl loc cs t'.sz cs2).drop a.sz = cs.drop a.sz := by rw [hcs]; exact List.drop_left' hrl
          have sib : ∀ b' i, 1 ≤ F2 b' i → ∀ u, ce w b' i = some u → ce w2 b' i = some u := fun b' i hp u hu => by
            refine hG b' i (by omega) (fun o hao hrange => ?_) u hu
            have hsb := hs b' i; have hFb := hF b' i
            cases loc with
            | none =>
              obtain ⟨b0, o0, q1, q2⟩ := M.out rfl
              rw [q1] at hao
              simp only [Option.some.injEq, Prod.mk.injEq] at hao
              obtain ⟨rfl, rfl⟩ := hao
              have := (q2 (i - o0) (by omega)).1
              rw [show o0 + (i - o0) = i by omega] at this
              have := M.sum b0 i
              omega
            | some off =>
              obtain ⟨q1, q2, q3⟩ := M.inn off rfl
              cases ad with
              | none => rw [q3] at hao; cases hao
              | some x =>
                rw [q3] at hao
                simp only [shiftA, Option.map_some, Option.some.injEq, Prod.mk.injEq] at hao
                obtain ⟨rfl, rfl⟩ := hao
                have := hdis x.1 x.2 rfl (i - x.2) (by simp only [Ty.sz]; omega)
                rw [show x.2 + (i - x.2) = i by omega] at this
                omega
          refine ⟨_, _, _, fun b' i => F3 b' i + F2 b' i, k1, fun b' i => by have := k2 b' i; show F3 b' i + F2 b' i ≤ _; omega, fun A3 hA3 hfr => ?_, fun d full hd => ?_⟩
          · refine ⟨by rw [hole_append, hole_map, hole_map]; rfl, F3, F2, fun _ _ => Nat.le_refl _, ?_, ?_⟩
            · rw [htk, List.filterMap_append, strip_map_fst, strip_map_fs, List.append_nil]
              refine k3 A3 hA3 fun b' i hp hz => hfr b' i (by omega) ?_
              have := hsum b' i
              show F3 b' i + F2 b' i = 0; omega
            · rw [hdr, List.filterMap_append, strip_map_sf, strip_map_snd, List.nil_append]
              exact Rep.mono (fun b' i ha => hA3 b' i (hA b' i ha)) hcA hb b h2 (fun _ _ => Nat.le_refl _) sib
          · intro q pl hq hp
            cases q with
            | nil =>
              simp only [plc, Option.some.injEq] at hp; subst hp
              refine ⟨_, _, rfl, fun h => ?_⟩
              rcases h with ⟨_, hs⟩ | hfull
              · simp [isSlc] at hs
              · exact hsame d full hd hfull
            | cons s q =>
              cases s with
              | fst =>
                simp only [plc, h0, Bool.false_eq_true, if_false] at hp
                obtain ⟨H4, cs4, e1, e2⟩ := k4 d full hd q pl (by simpa [nidx] using hq) hp
                refine ⟨H4, cs4, ?_, fun hd' => e2 (by simpa [nidx] using hd')⟩
                simp only [plc, hole_append, hole_map, Bool.or_self, Bool.false_eq_true, if_false]
                rw [htk, List.filterMap_append, strip_map_fst, strip_map_fs, List.append_nil]
                exact e1
              | snd =>
                simp only [plc, h0, Bool.false_eq_true, if_false] at hp
                refine ⟨pl.H, pl.cs, ?_, fun _ => rfl⟩
                simp only [plc, hole_append, hole_map, Bool.or_self, Bool.false_eq_true, if_false]
                rw [hdr, List.filterMap_append, strip_map_sf, strip_map_snd, List.nil_append]
                exact plc_frame hcA q b h2 sib hp
              | idx i => simp [plc] at hp
              | aix i => simp [plc] at hp
      | snd =>
        simp only [modK, h0'] at h
        obtain ⟨t', m', H', v', cs', ad', F', G, kk, loc, M⟩ := ih b h h2 (fun b i => by have := hs b i; have := hF b i; omega) hhas2 (fun b' o hb j hj => by
          cases ad with
          | none => cases hb
          | some x =>
            simp only [shiftA, Option.map_some, Option.some.injEq, Prod.mk.injEq] at hb
            obtain ⟨rfl, rfl⟩ := hb
            have := hdis x.1 x.2 rfl (a.sz + j) (by simp only [Ty.sz]; omega); have := hs x.1 (x.2 + (a.sz + j))
            rw [Nat.add_assoc]; omega)
        refine ⟨t', m', H', v', cs', ad', F', fun b i => G b i + F1 b i, kk, loc.map (a.sz + ·), M.run, fun K0 => by simp only [navK, h0']; exact M.nav K0, by simp only [plc, h0]; exact M.place, M.rep, fun b i => by have := hs b i; have := M.sum b i; omega, M.has, ?_, (fun h => by rw [M.locn (by simpa [nidx] using h)]; rfl), ?_, ?_⟩
        · intro off' ho
          obtain ⟨off, ho2, rfl⟩ := Option.map_eq_some_iff.1 ho
          obtain ⟨q1, q2, q3⟩ := M.inn off ho2
          refine ⟨by simp only [Ty.sz]; omega, by rw [q2, List.drop_drop], ?_⟩
          rw [q3]; cases ad <;> simp [shiftA, Nat.add_assoc]
        · intro ho
          obtain ⟨b', o, q1, q2⟩ := M.out (by simpa using ho)
          exact ⟨b', o, q1, fun j hj => ⟨by have := (q2 j hj).1; omega, (q2 j hj).2⟩⟩
        · intro m2 H2 v2 hk w2 A2 cs2 F2' hb hA hcA hG had2 hr2 hsum
          obtain ⟨m3, H3, v3, F3, k1, k2, k3, k4⟩ := M.back m2 H2 v2 hk w2 A2 cs2 F2' hb hA hcA (fun b' i hp hn => hG b' i (by omega) hn) had2 hr2 (fun b' i => by have := hsum b' i; omega)
          have hl2 := Rep.length t' hr2
          have hcs : repl (loc.map (a.sz + ·)) cs t'.sz cs2 = cs.take a.sz ++ repl loc (cs.drop a.sz) t'.sz cs2 := by
            cases loc with
            | none => simp [repl]
            | some off =>
              have := (M.inn off rfl).1
              simp only [repl, spl, Option.map_some]
              rw [List.take_add, List.drop_drop, List.append_assoc, List.append_assoc, List.append_assoc, Nat.add_assoc]
          have hrl : (cs.take a.sz).length = a.sz := by simp; omega
          have hsame : ∀ d full, Stab d full w t' H' cs' ad' w2 H2 cs2 → full → repl (loc.map (a.sz + ·)) cs t'.sz cs2 = cs := fun d full hd hfull => by
            obtain ⟨H5, c5, e1, e2⟩ := hd [] ⟨t', H', cs', ad'⟩ (Nat.zero_le _) rfl
            simp only [plc, Option.some.injEq, Pl.mk.injEq] at e1
            have e3 : cs2 = cs' := e1.2.2.1.trans (e2 (.inr hfull))
            cases loc with
            | none => rfl
            | some off =>
              have := M.inn off rfl
              rw [e3, this.2.1, List.drop_drop]
              exact spl_self (show a.sz + off + t'.sz ≤ cs.length by omega)
          have htk : (repl (loc.map (a.sz + ·)) cs t'.sz cs2).take a.sz = cs.take a.sz := by rw [hcs]; exact List.take_left' hrl
          have hdr : (repl (loc.map (a.sz + ·)) cs t'.sz cs2).drop a.sz = repl loc (cs.drop a.sz) t'.sz cs2 := by rw [hcs]; exact List.drop_left' hrl
          have sib : ∀ b' i, 1 ≤ F1 b' i → ∀ u, ce w b' i = some u → ce w2 b' i = some u := fun b' i hp u hu => by
            refine hG b' i (by omega) (fun o hao hrange => ?_) u hu
            have hsb := hs b' i; have hFb := hF b' i
            cases loc with
            | none =>
              obtain ⟨b0, o0, q1, q2⟩ := M.out rfl
              rw [q1] at hao
              simp only [Option.some.injEq, Prod.mk.injEq] at hao
              obtain ⟨rfl, rfl⟩ := hao
              have := (q2 (i - o0) (by omega)).1
              rw [show o0 + (i - o0) = i by omega] at this
              have := M.sum b0 i
              omega
            | some off =>
              obtain ⟨q1, q2, q3⟩ := M.inn off rfl
              cases ad with
              | none => rw [q3] at hao; cases hao
              | some x =>
                rw [q3] at hao
                simp only [shiftA, Option.map_some, Option.some.injEq, Prod.mk.injEq] at hao
                obtain ⟨rfl, rfl⟩ := hao
                have := hdis x.1 x.2 rfl (i - x.2) (by simp only [Ty.sz]; omega)
                rw [show x.2 + (i - x.2) = i by omega] at this
                omega
          refine ⟨_, _, _, fun b' i => F3 b' i + F1 b' i, k1, fun b' i => by have := k2 b' i; show F3 b' i + F1 b' i ≤ _; omega, fun A3 hA3 hfr => ?_, fun d full hd => ?_⟩
          · refine ⟨by rw [hole_append, hole_map, hole_map]; rfl, F1, F3, fun b' i => by show F1 b' i + F3 b' i ≤ F3 b' i + F1 b' i; omega, ?_, ?_⟩
            · rw [htk, List.filterMap_append, strip_map_fst, strip_map_fs, List.append_nil]
              exact Rep.mono (fun b' i ha => hA3 b' i (hA b' i ha)) hcA hb a h1 (fun _ _ => Nat.le_refl _) sib
            · rw [hdr, List.filterMap_append, strip_map_sf, strip_map_snd, List.nil_append]
              refine k3 A3 hA3 fun b' i hp hz => hfr b' i (by omega) ?_
              have := hsum b' i
              show F3 b' i + F1 b' i = 0; omega
          · intro q pl hq hp
            cases q with
            | nil =>
              simp only [plc, Option.some.injEq] at hp; subst hp
              refine ⟨_, _, rfl, fun h => ?_⟩
              rcases h with ⟨_, hs⟩ | hfull
              · simp [isSlc] at hs
              · exact hsame d full hd hfull
            | cons s q =>
              cases s with
              | snd =>
                simp only [plc, h0, Bool.false_eq_true, if_false] at hp
                obtain ⟨H4, cs4, e1, e2⟩ := k4 d full hd q pl (by simpa [nidx] using hq) hp
                refine ⟨H4, cs4, ?_, fun hd' => e2 (by simpa [nidx] using hd')⟩
                simp only [plc, hole_append, hole_map, Bool.or_self, Bool.false_eq_true, if_false]
                rw [hdr, List.filterMap_append, strip_map_sf, strip_map_snd, List.nil_append]
                exact e1
              | fst =>
                simp only [plc, h0, Bool.false_eq_true, if_false] at hp
                refine ⟨pl.H, pl.cs, ?_, fun _ => rfl⟩
                simp only [plc, hole_append, hole_map, Bool.or_self, Bool.false_eq_true, if_false]
                rw [htk, List.filterMap_append, strip_map_fst, strip_map_fs, List.append_nil]
                exact plc_frame hcA q a h1 sib hp
              | idx i => simp [plc] at hp
              | aix i => simp [plc] at hp
      | idx i => simp [modK] at h
      | aix i => simp [modK] at h
    | slc e =>
      cases s with
      | fst => simp [modK] at h
      | snd => simp [modK] at h
      | aix i => simp [modK] at h
      | idx i =>
        simp only [modK] at h
        split at h
        · rename_i hown
          obtain ⟨h1, h2, h3⟩ := holeAtK_some h
          cases hx : (v : List e.den)[i]? with
          | none => rw [hx] at h1; cases h1
          | some x =>
            rw [hx] at h1
            simp only [Option.bind_some] at h1
            have hi : i < List.length v := (List.getElem?_eq_some_iff.1 hx).1
            simp only [Rep, h3, Bool.false_eq_true, if_false, hown, if_true] at hr
            obtain ⟨a, cap, rfl, g2, g3, g4, g5⟩ := hr
            cases a with
            | none => have := g4 rfl; omega
            | some ad0 =>
              obtain ⟨q1, q2, q3, Fi, q4, q5⟩ := g5 ad0 rfl
              obtain ⟨L, hl, hL, hrep⟩ := q5 i x hx
              have hlt : ∀ k, k < List.length v → ∀ j, j < e.sz → k * e.sz + j < cap * e.sz := fun k hk j hj => by
                have hlt : (k + 1) * e.sz ≤ cap * e.sz := Nat.mul_le_mul_right _ (by omega)
                rw [Nat.add_mul] at hlt; omega
              have hrng : ∀ k, k < cap * e.sz → rng ad0.block 0 (cap * e.sz) ad0.block k = 1 := fun k hk => by simp [rng, hk]
              obtain ⟨t', m', H', v', cs', ad', F', G, kk, loc, M⟩ := ih e h1 hrep (fun b k => by have := q4 b k; have := hF b k; have := le_sumF Fi hi b k; omega)
                (ad := some (ad0.block, i * e.sz)) (fun b o hb => by simp only [Option.some.injEq, Prod.mk.injEq] at hb; obtain ⟨rfl, rfl⟩ := hb; exact hL)
                (fun b o hb j hj => by
                  simp only [Option.some.injEq, Prod.mk.injEq] at hb; obtain ⟨rfl, rfl⟩ := hb
                  have := q4 ad0.block (i * e.sz + j); have := hF ad0.block (i * e.sz + j); have := le_sumF Fi hi ad0.block (i * e.sz + j)
                  have := hrng _ (hlt i hi j hj); omega)
              have hsub : ∀ b k, sumF (List.length v) (updF Fi i G) b k + Fi i b k = sumF (List.length v) Fi b k + G b k := sumF_upd Fi hi G
              have hGle : ∀ b k, G b k ≤ sumF (List.length v) (updF Fi i G) b k := fun b k => by
                have := le_sumF (updF Fi i G) hi b k; simpa [updF] using this
              refine ⟨t', m', H', v', cs', ad', F', fun b k => rng ad0.block 0 (cap * e.sz) b k + sumF (List.length v) (updF Fi i G) b k, kk, none, M.run, fun K0 => by simp only [navK]; rw [holeAtK_eq h, hx]; exact M.nav K0, ?_, M.rep, fun b k => by have := hsub b k; have := M.sum b k; have := q4 b k; omega, M.has, (fun off ho => by cases ho), (fun _ => rfl), ?_, ?_⟩
              · simp only [plc, h3, Bool.false_eq_true, if_false, hi, if_true, q1, Nat.zero_add, rd_of_has hL hl]; exact M.place
              · intro _
                cases loc with
                | none =>
                  obtain ⟨b', o, e1, e2⟩ := M.out rfl
                  exact ⟨b', o, e1, fun j hj => ⟨by have := (e2 j hj).1; have := hGle b' (o + j); omega, (e2 j hj).2⟩⟩
                | some off =>
                  obtain ⟨e1, e2, e3⟩ := M.inn off rfl
                  refine ⟨ad0.block, i * e.sz + off, e3, fun j hj => ?_⟩
                  have hj' := hlt i hi (off + j) (by omega)
                  rw [← Nat.add_assoc] at hj'
                  exact ⟨by have := hrng _ hj'; omega, q3.frozen hj'⟩
              · intro m2 H2 v2 hk w2 A2 cs2 F2' hb hA hcA hG had2 hr2 hsum
                obtain ⟨m3, H3, v3, F3, k1, k2, k3, k4⟩ := M.back m2 H2 v2 hk w2 A2 cs2 F2' hb hA hcA (fun b' i hp hn => hG b' i (by have := hGle b' i; omega) hn) had2 hr2
                  (fun b' i => by have := hsum b' i; have := hGle b' i; omega)
                have hl2 := Rep.length t' hr2
                -- where the place lies, no other cells of the slice do
                have apart : ∀ b' k, (∀ o, ad' = some (b', o) → o ≤ k ∧ k < o + t'.sz → 1 ≤ Fi i b' k ∨ (b' = ad0.block ∧ i * e.sz ≤ k ∧ k < i * e.sz + e.sz)) := fun b' k o hao hrange => by
                  cases loc with
                  | none =>
                    obtain ⟨b0, o0, e1, e2⟩ := M.out rfl
                    rw [e1] at hao
                    simp only [Option.some.injEq, Prod.mk.injEq] at hao
                    obtain ⟨rfl, rfl⟩ := hao
                    have := (e2 (k - o0) (by omega)).1
                    rw [show o0 + (k - o0) = k by omega] at this
                    have := M.sum b0 k
                    left; omega
                  | some off =>
                    obtain ⟨e1, e2, e3⟩ := M.inn off rfl
                    rw [e3] at hao
                    simp only [shiftA, Option.map_some, Option.some.injEq, Prod.mk.injEq] at hao
                    obtain ⟨rfl, rfl⟩ := hao
                    exact .inr ⟨rfl, by omega, by omega⟩
                have sib : ∀ j, j < List.length v → j ≠ i → ∀ b' k, 1 ≤ Fi j b' k → ∀ u, ce w b' k = some u → ce w2 b' k = some u := fun j hj hji b' k hp u hu => by
                  have h1 := le_sumF (updF Fi i G) hj b' k
                  have e1 : updF Fi i G j = Fi j := by simp [updF, hji]
                  rw [e1] at h1
                  refine hG b' k (by omega) (fun o hao hrange => ?_) u hu
                  have h2 := q4 b' k; have h3 := hF b' k; have h4 := le_sumF2 Fi hj hi hji b' k
                  rcases apart b' k o hao hrange with h | ⟨rfl, hb1, hb2⟩
                  · omega
                  · have := hrng (i * e.sz + (k - i * e.sz)) (hlt i hi _ (by omega))
                    rw [show i * e.sz + (k - i * e.sz) = k by omega] at this
                    omega
                have cell : ∀ j, j < List.length v → j ≠ i → ∀ k, k < e.sz → ∀ u, ce w ad0.block (j * e.sz + k) = some u → ce w2 ad0.block (j * e.sz + k) = some u := fun j hj hji k hk u hu => by
                  have hr1 := hrng _ (hlt j hj k hk)
                  refine hG _ _ (by omega) (fun o hao hrange => ?_) u hu
                  have h2 := q4 ad0.block (j * e.sz + k); have h3 := hF ad0.block (j * e.sz + k)
                  rcases apart _ _ o hao hrange with h | ⟨_, hb1, hb2⟩
                  · have := le_sumF Fi hi ad0.block (j * e.sz + k); omega
                  · have hne : j < i ∨ i < j := by omega
                    rcases hne with hlt' | hlt'
                    · have : (j + 1) * e.sz ≤ i * e.sz := Nat.mul_le_mul_right _ hlt'
                      rw [Nat.add_mul] at this; omega
                    · have : (i + 1) * e.sz ≤ j * e.sz := Nat.mul_le_mul_right _ hlt'
                      rw [Nat.add_mul] at this; omega
                have hL3 : Has w2 ad0.block (i * e.sz) (repl loc L t'.sz cs2) := by
                  have keep : ∀ j u, L[j]? = some u → (∀ off, loc = some off → ¬ (off ≤ j ∧ j < off + t'.sz)) → ce w2 ad0.block (i * e.sz + j) = some u := fun j u hu hn => by
                    have hj : j < e.sz := hl ▸ (List.getElem?_eq_some_iff.1 hu).1
                    have hr1 := hrng _ (hlt i hi j hj)
                    refine hG _ _ (by omega) (fun o hao hrange => ?_) u (hL j u hu)
                    cases loc with
                    | none =>
                      obtain ⟨b0, o0, e1, e2⟩ := M.out rfl
                      rw [e1] at hao
                      simp only [Option.some.injEq, Prod.mk.injEq] at hao
                      obtain ⟨rfl, rfl⟩ := hao
                      have := (e2 (i * e.sz + j - o0) (by omega)).1
                      rw [show o0 + (i * e.sz + j - o0) = i * e.sz + j by omega] at this
                      have h2 := q4 ad0.block (i * e.sz + j); have h3 := hF ad0.block (i * e.sz + j); have := hGle ad0.block (i * e.sz + j); have := hsub ad0.block (i * e.sz + j); have := M.sum ad0.block (i * e.sz + j)
                      have := le_sumF Fi hi ad0.block (i * e.sz + j)
                      omega
                    | some off =>
                      obtain ⟨e1, e2, e3⟩ := M.inn off rfl
                      rw [e3] at hao
                      simp only [shiftA, Option.map_some, Option.some.injEq, Prod.mk.injEq] at hao
                      obtain ⟨_, rfl⟩ := hao
                      exact hn off rfl (by omega)
                  cases loc with
                  | none => exact fun j u hu => keep j u hu (fun off ho => by cases ho)
                  | some off =>
                    obtain ⟨e1, e2, e3⟩ := M.inn off rfl
                    exact has_spl (by omega) hl2 (had2 _ _ e3) (fun j u hu hn => keep j u hu (fun off' ho => by injection ho with ho; subst ho; exact hn))
                have hl3 : (repl loc L t'.sz cs2).length = e.sz := by
                  cases loc with
                  | none => exact hl
                  | some off => have := (M.inn off rfl).1; simp only [repl]; rw [spl_length (by omega) hl2, hl]
                -- the rows of the others
                have hset : ∀ (j : Nat) (y : e.den), (List.set v i v3)[j]? = some y → (j = i ∧ y = v3) ∨ (j ≠ i ∧ (v : List e.den)[j]? = some y) := fun j y hy => by
                  rw [List.getElem?_set] at hy
                  split at hy
                  · rename_i hij
                    subst hij
                    injection hy with hy
                    exact .inl ⟨rfl, hy.symm⟩
                  · rename_i hij; exact .inr ⟨fun h => hij h.symm, hy⟩
                have others : ∀ A3 : Cells, (∀ b i, A2 b i → A3 b i) → ∀ (j : Nat) (y : e.den), j ≠ i → (v : List e.den)[j]? = some y → ∃ L : List Value, L.length = e.sz ∧ Has w2 ad0.block (j * e.sz) L ∧ Has w ad0.block (j * e.sz) L ∧ Rep P w A e m.e [] y L (Fi j) ∧ Rep P w2 A3 e m.e [] y L (Fi j) := fun A3 hA3 j y hji hy => by
                  have hj : j < List.length v := (List.getElem?_eq_some_iff.1 hy).1
                  obtain ⟨Lj, hlj, hLj, hrj⟩ := q5 j y hy
                  rw [h2 j hji] at hrj
                  exact ⟨Lj, hlj, fun k u hu => cell j hj hji k (hlj ▸ (List.getElem?_eq_some_iff.1 hu).1) u (hLj k u hu), hLj, hrj, Rep.mono (fun b' i ha => hA3 b' i (hA b' i ha)) hcA hb e hrj (fun _ _ => Nat.le_refl _) (sib j hj hji)⟩
                have stab : ∀ H4 : List Path, hole H4 = false → H4.filterMap (stripI i) = H3 → (∀ j, j ≠ i → H4.filterMap (stripI j) = []) → ∀ d full, Stab d full w t' H' cs' ad' w2 H2 cs2 → Stab (d + nidx (.idx i :: p)) full w (.slc e) H [.slice (some ad0) (List.length v) cap] ad w2 H4 [.slice (some ad0) (List.length v) cap] := by
                  intro H4 hH4 hHi hHj d full hd q pl hq hp
                  cases q with
                  | nil =>
                    simp only [plc, Option.some.injEq] at hp; subst hp
                    exact ⟨_, _, rfl, fun _ => rfl⟩
                  | cons s q =>
                    cases s with
                    | fst => simp [plc] at hp
                    | snd => simp [plc] at hp
                    | aix j => simp [plc] at hp
                    | idx j =>
                      simp only [plc, h3, Bool.false_eq_true, if_false] at hp
                      split at hp
                      · rename_i hj
                        by_cases hji : j = i
                        · subst hji
                          rw [q1, Nat.zero_add, rd_of_has hL hl] at hp
                          obtain ⟨H5, cs5, e1, e2⟩ := k4 d full hd q pl (by simp only [nidx] at hq; omega) hp
                          refine ⟨H5, cs5, ?_, fun hd' => e2 (hd'.imp (fun h => ⟨by have := h.1; simp only [nidx] at this; omega, h.2⟩) id)⟩
                          simp only [plc, hH4, Bool.false_eq_true, if_false, hj, if_true, q1, Nat.zero_add, rd_of_has hL3 hl3, hHi]
                          exact e1
                        · obtain ⟨Lj, hlj, hLj2, hLj, hrj, _⟩ := others A2 (fun _ _ h => h) j _ hji (List.getElem?_eq_getElem hj)
                          rw [q1, Nat.zero_add, rd_of_has hLj hlj, h2 j hji] at hp
                          refine ⟨pl.H, pl.cs, ?_, fun _ => rfl⟩
                          simp only [plc, hH4, Bool.false_eq_true, if_false, hj, if_true, q1, Nat.zero_add, rd_of_has hLj2 hlj, hHj j hji]
                          exact plc_frame hcA q e hrj (sib j hj hji) hp
                      · cases hp
                simp only [repl]
                by_cases hme : m3 = m.e
                · rw [if_pos hme] at k1
                  subst hme
                  refine ⟨_, _, _, fun b' k => rng ad0.block 0 (cap * e.sz) b' k + sumF (List.length v) (updF Fi i F3) b' k, k1, fun b' k => ?_, fun A3 hA3 hfr => ?_, stab _ (hole_map _ _) (strip_map_idx _ _) (fun j hj => strip_map_idx_ne hj _)⟩
                  · have := sumF_upd Fi hi F3 b' k; have := hsub b' k; have := k2 b' k
                    show rng ad0.block 0 (cap * e.sz) b' k + sumF (List.length v) (updF Fi i F3) b' k ≤ _
                    omega
                  · simp only [Rep, hole_map, Bool.false_eq_true, if_false, Md.own, if_true]
                    refine ⟨some ad0, cap, by simp, by simpa using g2, g3, (fun hn => by cases hn), fun ad1 had1 => ?_⟩
                    injection had1 with had1; subst had1
                    refine ⟨q1, q2, hb _ _ q3, updF Fi i F3, fun b' k => by simp, fun j y hy => ?_⟩
                    rcases hset j y hy with ⟨rfl, rfl⟩ | ⟨hji, hy'⟩
                    · refine ⟨_, hl3, hL3, ?_⟩
                      rw [strip_map_idx]
                      simp only [Md.e, updF, if_true]
                      refine k3 A3 hA3 fun b' k hp hz => hfr b' k ?_ ?_
                      · have := hGle b' k; omega
                      · have h5 := hsum b' k; have h6 := sumF_upd Fi hi F3 b' k; have h7 := hsub b' k; have := hGle b' k
                        have h8 := q4 b' k; have h9 := M.sum b' k
                        have := k2 b' k
                        show rng ad0.block 0 (cap * e.sz) b' k + sumF (List.length v) (updF Fi j F3) b' k = 0
                        omega
                    · obtain ⟨Lj, hlj, hLj2, _, _, hrj2⟩ := others A3 hA3 j y hji hy'
                      refine ⟨Lj, hlj, hLj2, ?_⟩
                      rw [strip_map_idx_ne hji]
                      simp only [updF, if_neg hji]
                      exact hrj2
                · rw [if_neg hme] at k1
                  split at k1
                  · rename_i hH3
                    have hH3 : H3 = [] := List.isEmpty_iff.1 hH3
                    refine ⟨_, _, _, fun b' k => rng ad0.block 0 (cap * e.sz) b' k, k1, fun b' k => by show rng ad0.block 0 (cap * e.sz) b' k ≤ _; omega, fun A3 hA3 hfr => ?_, stab _ rfl (by rw [hH3]; rfl) (fun j hj => rfl)⟩
                    simp only [Rep, hole, List.any_nil, Bool.false_eq_true, if_false, Md.own, if_true]
                    refine ⟨some ad0, cap, by simp, by simpa using g2, g3, (fun hn => by cases hn), fun ad1 had1 => ?_⟩
                    injection had1 with had1; subst had1
                    refine ⟨q1, q2, hb _ _ q3, fun _ _ _ => 0, fun b' k => by rw [sumF_zero]; simp, fun j y hy => ?_⟩
                    have fz : ∀ b' k, 1 ≤ F2' b' k + (rng ad0.block 0 (cap * e.sz) b' k + sumF (List.length v) (updF Fi i G) b' k) → rng ad0.block 0 (cap * e.sz) b' k = 0 → A3 b' k := hfr
                    rcases hset j y hy with ⟨rfl, rfl⟩ | ⟨hji, hy'⟩
                    · refine ⟨_, hl3, hL3, ?_⟩
                      have hr3 := k3 A3 hA3 fun b' k hp hz => fz b' k (by have := hGle b' k; omega) (by
                        have h5 := hsum b' k; have := hGle b' k; omega)
                      rw [hH3] at hr3
                      refine Ro.rep e _ (roMd_noOwn e) (Rep.toRo (fun _ _ h => h) e hr3 fun b' k hp => fz b' k ?_ ?_)
                      · have := k2 b' k; have := hGle b' k; omega
                      · have h5 := hsum b' k; have := hGle b' k; have := k2 b' k; omega
                    · obtain ⟨Lj, hlj, hLj2, _, _, hrj2⟩ := others A3 hA3 j y hji hy'
                      have hj : j < List.length v := (List.getElem?_eq_some_iff.1 hy').1
                      refine ⟨Lj, hlj, hLj2, Ro.rep e _ (roMd_noOwn e) (Rep.toRo (fun _ _ h => h) e hrj2 fun b' k hp => ?_)⟩
                      have h1 := le_sumF (updF Fi i G) hj b' k
                      have e1 : updF Fi i G j = Fi j := by simp [updF, hji]
                      rw [e1] at h1
                      have h5 := hsum b' k
                      exact fz b' k (by omega) (by omega)
                  · cases k1
        · cases h
    | arr n e =>
      cases s with
      | fst => simp [modK] at h
      | snd => simp [modK] at h
      | idx i => simp [modK] at h
      | aix i =>
        obtain ⟨rfl, hf, hl, hlen, hr⟩ := hr
        simp only [modK, List.isEmpty_nil, if_true] at h
        cases hx : (v : List e.den)[i]? with
        | none => rw [hx] at h; cases h
        | some x =>
          rw [hx] at h
          simp only [Option.bind_some] at h
          have hi : i < n := hl ▸ (List.getElem?_eq_some_iff.1 hx).1
          have hin : ∀ j, j < n → j * e.sz + e.sz ≤ cs.length := fun j hj => by
            have : (j + 1) * e.sz ≤ n * e.sz := Nat.mul_le_mul_right _ hj
            rw [Nat.add_mul] at this; omega
          have hsl : ∀ j, j < n → ((cs.drop (j * e.sz)).take e.sz).length = e.sz := fun j hj => by have := hin j hj; simp; omega
          obtain ⟨t', m', H', v', cs', ad', F', G, kk, loc, M⟩ := ih e h (Ro.flat e (fun _ _ => 0) hf (hr i x hx)) (fun _ _ => Nat.zero_le _) (ad := shiftA ad (i * e.sz)) (fun b' o hb j u hu => by
            cases ad with
            | none => cases hb
            | some y =>
              simp only [shiftA, Option.map_some, Option.some.injEq, Prod.mk.injEq] at hb
              obtain ⟨rfl, rfl⟩ := hb
              rw [List.getElem?_take] at hu
              split at hu
              · rw [List.getElem?_drop] at hu
                have := had y.1 y.2 rfl _ u hu
                rwa [Nat.add_assoc]
              · cases hu) (fun _ _ _ _ _ => rfl)
          have hG0 : ∀ b k, G b k = 0 := fun b k => by have := M.sum b k; omega
          have hF0 : ∀ b k, F' b k = 0 := fun b k => by have := M.sum b k; omega
          have hnone : ∀ h : loc = none, t'.sz = 0 := fun h => by
            obtain ⟨b', o, e1, e2⟩ := M.out h
            rcases Nat.eq_zero_or_pos t'.sz with h0 | h0
            · exact h0
            · have := (e2 0 h0).1; rw [hG0] at this; omega
          refine ⟨t', m', H', v', cs', ad', F', F, kk, loc.map (i * e.sz + ·), M.run, fun K0 => by simp only [navK, List.isEmpty_nil, if_true, hx, Option.bind_some]; exact M.nav K0, by simp only [plc, List.isEmpty_nil, if_true, hi]; exact M.place, M.rep, fun b k => by rw [hF0]; omega, M.has, ?_, (fun h => by rw [M.locn (by simpa [nidx] using h)]; rfl), ?_, ?_⟩
          · intro off' ho
            obtain ⟨off, ho2, rfl⟩ := Option.map_eq_some_iff.1 ho
            obtain ⟨q1, q2, q3⟩ := M.inn off ho2
            have := hin i hi
            refine ⟨by simp only [Ty.sz]; omega, ?_, by rw [q3]; cases ad <;> simp [shiftA, Nat.add_assoc]⟩
            rw [q2, List.drop_take, List.take_take, List.drop_drop]
            congr 1; omega
          · intro ho
            obtain ⟨b', o, q1, q2⟩ := M.out (by simpa using ho)
            have := hnone (by simpa using ho)
            exact ⟨b', o, q1, fun j hj => by omega⟩
          · intro m2 H2 v2 hk w2 A2 cs2 F2' hb hA hcA hG had2 hr2 hsum
            obtain ⟨m3, H3, v3, F3, k1, k2, k3, k4⟩ := M.back m2 H2 v2 hk w2 A2 cs2 F2' hb hA hcA (fun b' i hp hn => by rw [hG0] at hp; omega) had2 hr2 (fun b' i => by have := hsum b' i; rw [hG0]; omega)
            have hl2 := Rep.length t' hr2
            split at k1
            · rename_i hH3
              have hH3 : H3 = [] := List.isEmpty_iff.1 hH3
              have hcs : repl (loc.map (i * e.sz + ·)) cs t'.sz cs2 = spl cs (i * e.sz) e.sz (repl loc ((cs.drop (i * e.sz)).take e.sz) t'.sz cs2) := by
                cases loc with
                | none => simp only [repl, Option.map_none]; exact (spl_self (hin i hi)).symm
                | some off =>
                  have := (M.inn off rfl).1
                  exact (spl_spl this (hin i hi) hl2).symm
              have hrl : (repl loc ((cs.drop (i * e.sz)).take e.sz) t'.sz cs2).length = e.sz := by
                cases loc with
                | none => exact hsl i hi
                | some off => have := (M.inn off rfl).1; simp only [repl]; rw [spl_length (by rw [hsl i hi]; omega) hl2, hsl i hi]
              have hpart : ∀ j, j < n → ((repl (loc.map (i * e.sz + ·)) cs t'.sz cs2).drop (j * e.sz)).take e.sz = if j = i then repl loc ((cs.drop (i * e.sz)).take e.sz) t'.sz cs2 else (cs.drop (j * e.sz)).take e.sz := fun j hj => by
                rw [hcs]
                apply List.ext_getElem?
                intro k
                rw [List.getElem?_take]
                split
                · rename_i hk
                  rw [List.getElem?_drop, spl_get (hin i hi) hrl]
                  by_cases hji : j = i
                  · subst hji
                    rw [if_pos (by omega), if_pos rfl]; congr 1; omega
                  · rw [if_neg hji, List.getElem?_take, if_pos hk, List.getElem?_drop, if_neg]
                    have hne : j < i ∨ i < j := by omega
                    rcases hne with hlt' | hlt'
                    · have : (j + 1) * e.sz ≤ i * e.sz := Nat.mul_le_mul_right _ hlt'
                      rw [Nat.add_mul] at this; omega
                    · have : (i + 1) * e.sz ≤ j * e.sz := Nat.mul_le_mul_right _ hlt'
                      rw [Nat.add_mul] at this; omega
                · rename_i hk
                  by_cases hji : j = i
                  · rw [if_pos hji, List.getElem?_eq_none (by omega)]
                  · rw [if_neg hji, List.getElem?_eq_none (by rw [hsl j hj]; omega)]
              have hsame : ∀ d full, Stab d full w t' H' cs' ad' w2 H2 cs2 → full → repl (loc.map (i * e.sz + ·)) cs t'.sz cs2 = cs := fun d full hd hfull => by
                obtain ⟨H5, c5, e1, e2⟩ := hd [] ⟨t', H', cs', ad'⟩ (Nat.zero_le _) rfl
                simp only [plc, Option.some.injEq, Pl.mk.injEq] at e1
                have e3 : cs2 = cs' := e1.2.2.1.trans (e2 (.inr hfull))
                cases loc with
                | none => rfl
                | some off =>
                  have := M.inn off rfl
                  have := hin i hi
                  rw [e3, (M.inn off rfl).2.1, List.drop_take, List.take_take, show min t'.sz (e.sz - off) = t'.sz by omega, List.drop_drop]
                  exact spl_self (show i * e.sz + off + t'.sz ≤ cs.length by omega)
              have hlen2 : (repl (loc.map (i * e.sz + ·)) cs t'.sz cs2).length = n * e.sz := by rw [hcs, spl_length (hin i hi) hrl, hlen]
              refine ⟨_, _, _, fun b' k => F3 b' k + F b' k, k1, fun b' k => by have := k2 b' k; have := hG0 b' k; show F3 b' k + F b' k ≤ _; omega, fun A3 hA3 hfr => ?_, fun d full hd => ?_⟩
              · refine ⟨rfl, hf, by simpa using hl, hlen2, fun j y hy => ?_⟩
                have hj : j < n := by have := (List.getElem?_eq_some_iff.1 hy).1; rw [List.length_set] at this; omega
                rw [hpart j hj]
                rw [List.getElem?_set] at hy
                split at hy
                · rename_i hij
                  subst hij
                  have hy : some v3 = some y := by
                    split at hy
                    · exact hy
                    · cases hy
                  injection hy with hy
                  rw [if_pos rfl, ← hy]
                  exact Rep.flat e hf (k3 A3 hA3 fun b' k hp hz => hfr b' k (by have := hG0 b' k; omega) (by have := hsum b' k; have := hG0 b' k; show F3 b' k + F b' k = 0; omega))
                · rename_i hij
                  rw [if_neg (fun h => hij h.symm)]
                  exact Ro.mono hcA (fun b' k ha => hA3 b' k (hA b' k ha)) e (hr j y hy)
              · intro q pl hq hp
                cases q with
                | nil =>
                  simp only [plc, Option.some.injEq] at hp; subst hp
                  refine ⟨_, _, rfl, fun h => ?_⟩
                  rcases h with ⟨_, hs⟩ | hfull
                  · simp [isSlc] at hs
                  · exact hsame d full hd hfull
                | cons s q =>
                  cases s with
                  | fst => simp [plc] at hp
                  | snd => simp [plc] at hp
                  | idx j => simp [plc] at hp
                  | aix j =>
                    simp only [plc, List.isEmpty_nil, if_true] at hp
                    split at hp
                    · rename_i hj
                      by_cases hji : j = i
                      · subst hji
                        obtain ⟨H5, cs5, e1, e2⟩ := k4 d full hd q pl (by simp only [nidx] at hq; omega) hp
                        refine ⟨H5, cs5, ?_, fun hd' => e2 (hd'.imp (fun h => ⟨by have := h.1; simp only [nidx] at this; omega, h.2⟩) id)⟩
                        simp only [plc, List.isEmpty_nil, if_true, hj]
                        rw [hpart j hj, if_pos rfl]
                        rw [hH3] at e1
                        exact e1
                      · refine ⟨pl.H, pl.cs, ?_, fun _ => rfl⟩
                        simp only [plc, List.isEmpty_nil, if_true, hj]
                        rw [hpart j hj, if_neg hji]
                        exact plc_frame hcA q e (Ro.flat e (m := .leaf) (fun _ _ => 0) hf (hr j _ (List.getElem?_eq_getElem (by rw [hl]; exact hj)))) (fun b k hp => by simp at hp) hp
                    · cases hp
            · cases k1
    | _ => cases s <;> simp [modK] at h
end
end OT
