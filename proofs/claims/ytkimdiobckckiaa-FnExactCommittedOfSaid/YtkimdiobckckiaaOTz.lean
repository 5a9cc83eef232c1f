/- Operations, twelfth part: function values, variables, slices laid over. -/
import Derived.Test.YtkimdiobckckiaaOTy
set_option linter.unusedVariables false
set_option linter.unusedSimpArgs false
namespace OT
open Go

section
variable {P : Program} {C : Ctx} {A : Cells} {X : FP} {σ : St} {a : Act} {w : World} {F : Nat → FP} {R : Type} {x : R} {Q : Exit → Act → World → Prop} {o : Oper} {E : Env}

theorem take_makeFunc (h : Rel0 P C A σ a w F) {f : Nat} {first cs : Array Operand} (ho : o.op = .makeFunc (.func f) first cs) (hst : (P.funcs[f]?).any (fun fn => fn.nfree == cs.size) = true) {K : St → Option R}
    (hk : (if first.size = 0 then
      match cs.toList with
      | [] => K (σ.putD o.dst (.val .fn (f, 0)))
      | [.tmp i] => match σ.get i with
        | .box (.int .i64) _ _ n => K (((σ.put i .dead).put i (.cp (.int .i64) n)).putD o.dst (.val .fn (f, n)))
        | _ => none
      | _ => none
    else none) = some x) : Tk P o a w (Nx P C K x) := by
  simp only [Option.any_eq_true, beq_iff_eq] at hst
  obtain ⟨fn, hf, hn⟩ := hst
  split at hk
  · rename_i h0
    have hfirst : first = #[] := Array.eq_empty_of_size_eq_zero h0
    subst hfirst
    split at hk
    · rename_i hcs
      have hcs : cs = #[] := by apply Array.ext'; simpa using hcs
      subst hcs
      refine tk_val (v := .func (.func f) #[] #[]) (by simp [execOp, ho, Instr.makeFunc]) (fin_flat h hk ⟨[.func (.func f) #[] #[]], rfl, #[], rfl, fn, hf, .inl ⟨by simpa using hn, rfl⟩⟩ (fun _ _ _ _ e => by cases e))
    · rename_i i hcs
      have hcs : cs = #[.tmp i] := by apply Array.ext'; simpa using hcs
      subst hcs
      split at hk
      · rename_i m H n hg
        have hi : i < σ.n := by
          rcases Nat.lt_or_ge i σ.n with hi | hi
          · exact hi
          · rw [get_out (Nat.not_lt.2 hi)] at hg; cases hg
        have hs := h.slots i hi
        rw [hg] at hs
        obtain ⟨b, off, L, F1, s1, s2, s3, s4, s5, s6⟩ := hs
        simp only [Rep, Ro] at s6
        subst s6
        have h1 := h.put hi (s := .dead) (v := tmp a i) (Fd := fun _ _ => 0) (X' := F i) trivial (fun b k => by omega) (fun _ _ _ _ e => by cases e)
        rw [put_same] at h1
        have hle : ∀ b' i', rng b off 1 b' i' ≤ F i b' i' := fun b' i' => by have := s5 b' i'; simp only [Ty.sz] at this; omega
        have h2 := h1.giveUp (A1 := fun b' i' => A b' i' ∨ 1 ≤ rng b off 1 b' i') (X1 := fun _ _ => 0) (fun _ _ h => .inl h) (fun b' i' ha => ha.imp id fun hp => ⟨by have := hle b' i'; omega, rfl⟩) (fun _ _ => Nat.zero_le _)
        have hcell : ce w b off = some (.int .i64 n) := s3 0 _ rfl
        have hA : 1 ≤ rng b off 1 b off := by simp [rng]
        have h3 := h2.put (d := i) hi (s := .cp (.int .i64) n) (v := tmp a i) (Fd := fun _ _ => 0) (X' := fun _ _ => 0)
          ⟨⟨b, off, none⟩, by rw [s1], rfl, [.int .i64 n], rfl, (fun j u hu => by
            cases j with
            | zero => injection hu with hu; subst hu; exact ⟨hcell, .inr hA⟩
            | succ j => cases hu), rfl⟩ (fun b k => by omega) (fun _ _ _ _ e => by cases e)
        rw [put_same] at h3
        have ev : a.eval (.tmp i) = .pointer (some ⟨b, off, none⟩) := s1
        refine tk_val (v := .func (.func f) #[] #[.pointer (some ⟨b, off, none⟩)]) (by simp [execOp, ho, Instr.makeFunc, ev])
          (fin_flat h3 hk ⟨[.func (.func f) #[] #[.pointer (some ⟨b, off, none⟩)]], rfl, _, rfl, fn, hf, .inr ⟨by simpa using hn, _, rfl, rfl, hcell, .inr hA⟩⟩ (fun _ _ _ _ e => by cases e))
      · cases hk
    · cases hk
  · cases hk

theorem take_assign (h : Rel0 P C A σ a w F) {y : Operand} (ho : o.op = .assign y) (hok : opdOk P y = true) {T : Nat} {mv : Bool} {K : St → Option R} (hk : assignK E σ T y mv o.dst K = some x) : Tk P o a w (Nx P C K x) := by
  refine tk_val (v := a.eval y) (by simp [execOp, ho]) ?_
  unfold assignK at hk
  by_cases htup : ∃ i xs, y = .tmp i ∧ σ.get i = .tup xs
  · obtain ⟨i, xs, rfl, hg⟩ := htup
    have e : opd σ (.tmp i) = .tup xs := by simp only [opd, hg]
    rw [e] at hk
    cases xs with
    | nil =>
      have hi : i < σ.n := by
        rcases Nat.lt_or_ge i σ.n with hi | hi
        · exact hi
        · rw [get_out (Nat.not_lt.2 hi)] at hg; cases hg
      have hs := h.slots i hi
      rw [hg] at hs
      obtain ⟨vs, Fi, h1, h2, h3⟩ := hs
      exact fin_flat h hk ⟨vs, fun _ _ _ => 0, h1, fun b i => by simp [sumF], fun j y hy => by cases hy⟩ (fun _ _ _ _ e => by cases e)
    | cons _ _ => cases hk
  rcases opd_ok h hok with hs | ⟨xs, e⟩
  rotate_left
  · exfalso
    cases y with
    | tmp i =>
      simp only [opd] at e
      cases hg : σ.get i <;> rw [hg] at e <;> first | (cases e; done) | exact htup ⟨i, _, rfl, hg⟩
    | const v => simp only [opd] at e; unfold constSlot at e; split at e <;> first | (cases e; done) | (split at e <;> cases e)
    | func f => cases e
    | global g => cases e
  split at hk
  · exact fin_flat h hk trivial (fun _ _ _ _ e => by cases e)
  · rename_i hv
    rw [hv] at hs
    obtain ⟨t, hT, hk⟩ := tiK_some hk
    split at hk
    · have hs : a.eval y = .slice none 0 0 := hs
      rw [hs]
      refine fin_flat h hk ⟨[.slice none 0 0], (mkV_one _ _ rfl).symm, ?_⟩ (fun _ _ _ _ e => by cases e)
      simp only [Rep, hole, List.any_nil, Bool.false_eq_true, if_false, ownMd, mdOf, Md.own, if_true]
      exact ⟨none, 0, rfl, Nat.le_refl _, by simp [maxLen], fun _ => rfl, fun ad had => by cases had⟩
    · cases hk
  · rename_i hv
    rw [hv] at hs
    obtain ⟨vs, Fi, h1, h2, h3⟩ := hs
    exact fin_flat h hk ⟨vs, Fi, h1, h2, fun j y hy => by cases hy⟩ (fun _ _ _ _ e => by cases e)
  · cases hk
  · rename_i r p snap hv
    rw [hv] at hs
    split at hk
    · split at hk
      · obtain ⟨A', σ', F', m, v, cs, Fv, k1, k2, k3, k4, kr, k5, k6⟩ := use_ok h hs hk
        rw [k5]
        exact fin_laid k3 k1 k6 (fun b i => by omega)
      · cases hk
    · cases hk
  · rename_i r p snap lo hi hv
    rw [hv] at hs
    split at hk
    · split at hk
      · obtain ⟨A', σ', F', m, v, cs, Fv, k1, k2, k3, k4, kr, k5, k6⟩ := use_ok h hs hk
        rw [k5]
        exact fin_laid k3 k1 k6 (fun b i => by omega)
      · cases hk
    · cases hk
  · rename_i r p snap hv
    rw [hv] at hs
    split at hk
    · rename_i t m H v hg
      split at hk
      · rename_i hc
        simp only [Bool.and_eq_true, Bool.not_eq_true'] at hc
        split at hk
        · rename_i i hd
          have hr : r < σ.n := by
            rcases Nat.lt_or_ge r σ.n with hi | hi
            · exact hi
            · rw [get_out (Nat.not_lt.2 hi)] at hg; cases hg
          have hsl := h.slots r hr
          rw [hg] at hsl
          obtain ⟨b, off, L, F1, s1, s2, s3, s4, s5, s6⟩ := hsl
          obtain ⟨pl, b', o', g1, g2, g3, g4⟩ := hs.2 hc.1.1
          have hpl : place σ a w r [] = some ⟨t, H, rd w b off t.sz, some (b, off)⟩ := by
            unfold place; rw [hg, s1]; rfl
          rw [hpl] at g1
          injection g1 with g1
          subst g1
          simp only [Option.some.injEq, Prod.mk.injEq] at g2
          obtain ⟨rfl, rfl⟩ := g2
          have h1 := h.put hr (s := .dead) (v := tmp a r) (Fd := fun _ _ => 0) (X' := F r) trivial (fun b k => by omega) (fun _ _ _ _ e => by cases e)
          rw [put_same] at h1
          obtain ⟨bw, w1, w2⟩ := h.whole r t m H v hg (lentB_none hc.2)
          rw [s1] at w1
          injection w1 with w1; injection w1 with w1; injection w1 with w1 w3
          subst w1
          have := fin_val (K := K) (x := x) (d := some i) h1 hk (v := a.eval y) (s := .box t m H v) (Fd := F r) ⟨b, off, L, F1, g3, s2, s3, s4, s5, s6⟩ (fun b i => Nat.le_refl _) (fun t' m' H' v' e => by injection e with e1; subst e1; exact ⟨b, by rw [g3, w3], w2⟩)
          rw [hd]; exact this
        · cases hk
      · exact fin_flat h hk hs (fun _ _ _ _ e => by cases e)
    · exact fin_flat h hk hs (fun _ _ _ _ e => by cases e)
  · exact fin_flat h hk hs (fun t m H v e => opd_nobox σ _ t m H v e)

theorem over_length {α : Type} (v y : List α) {lo n : Nat} (h : lo + n ≤ v.length) (hy : n ≤ y.length) : (over v lo n y).length = v.length := by
  simp only [over, List.length_append, List.length_take, List.length_drop]; omega
theorem over_get {α : Type} (v y : List α) {lo n : Nat} (h : lo + n ≤ v.length) (hy : n ≤ y.length) (i : Nat) : (over v lo n y)[i]? = if lo ≤ i ∧ i < lo + n then y[i - lo]? else v[i]? := by
  unfold over
  by_cases h1 : i < lo
  · rw [if_neg (by omega), List.append_assoc, List.getElem?_append_left (by simp; omega), List.getElem?_take_of_lt h1]
  · by_cases h2 : i < lo + n
    · rw [if_pos (by omega), List.append_assoc, List.getElem?_append_right (by simp; omega), List.getElem?_append_left (by simp; omega)]
      have : (v.take lo).length = lo := by simp; omega
      rw [this, List.getElem?_take_of_lt (by omega)]
    · rw [if_neg (by omega), List.getElem?_append_right (by simp; omega), List.getElem?_drop]
      have : (v.take lo ++ y.take n).length = lo + n := by simp; omega
      rw [this]; congr 1; omega

/-- A slice's elements are laid over. -/
theorem copy_core (h : Rel0 P C A σ a w F) {r : Nat} {p : Path} {e : Ty} {m : Md} {v y : List e.den} {news : List Value} {Gi : Nat → FP} {me : Md} {lo n : Nat} {K : St → Option R} (hat : At σ r p (.slc e) m [] v) (hown : m.own = true) (hf : e.flat = true) (hn : lo + n ≤ List.length v) (hy : n ≤ List.length y)
    (hl : news.length = List.length y * e.sz) (hone : ∀ u ∈ news, u.oneCell' = true) (hel : ∀ (i : Nat) (z : e.den), y[i]? = some z → Rep P w A e me [] z ((news.drop (i * e.sz)).take e.sz) (Gi i))
    (hk : setK σ r p (.slc e) m (over v lo n y) (fun σ' => K { σ' with vr := (σ.setVer r bumpW).vr, lent := σ.lent }) = some x) :
    ∃ (xa : Option Addr) (cap : Nat) (ad : Option (Nat × Nat)) (w2 : World) (A3 : Cells) (σ' : St) (F3 : Nat → FP), place σ a w r p = some ⟨.slc e, [], [.slice xa (List.length v) cap], ad⟩ ∧ K σ' = some x ∧ Rel0 P C A3 σ' a w2 F3 ∧
      (xa = none → w2 = w ∧ List.length v = 0) ∧ ∀ ad, xa = some ad → ad.off = 0 ∧ ad.spot = none ∧ (n = 0 → w2 = w) ∧ (storeCells ⟨ad.block, lo * e.sz, none⟩ (news.take (n * e.sz))).run P w = .ok () w2 := by
  obtain ⟨hr, m2, H2, v2, cs2, ad2, F2, q1, q2, q3, q4, q5, q6⟩ := set_ok h hk
  obtain ⟨_, e2, e3, e4⟩ := hat.inj q1
  subst e2; subst e3
  have e4 := eq_of_heq e4
  subst e4
  have hrep := q3
  simp only [Rep, hole, List.any_nil, Bool.false_eq_true, if_false, hown, if_true] at q3
  obtain ⟨xa, cap, rfl, c1, c2, c3, c4⟩ := q3
  have hvl := over_length v y hn hy
  have hFr : ∀ b i, F r b i ≤ 1 := fun b i => by have := h.tot b i; have := le_sumF F hr b i; omega
  -- for any stamps that end in the last one
  have fin : ∀ (w2 : World), Ext w w2 (fun b i => 0 + (F2 b i + rngO ad2 (Ty.slc e).sz b i)) → (∀ b o, ad2 = some (b, o) → Has w2 b o [.slice xa (List.length v) cap]) → Rep P w2 A (.slc e) m [] (over v lo n y) [.slice xa (List.length v) cap] F2 →
      (∀ (i : Nat) (z : e.den), (over v lo n y)[i]? = some z → ∀ ad, xa = some ad → ∃ L, L.length = e.sz ∧ Has w2 ad.block (ad.off + i * e.sz) L ∧ Rep P w2 A e .leaf [] z L (fun _ _ => 0)) →
      ∃ (A3 : Cells) (σ' : St) (F3 : Nat → FP), K σ' = some x ∧ Rel0 P C A3 σ' a w2 F3 := by
    intro w2 g1 g2 g3 g4
    obtain ⟨A3, σ3, Fr, n1, n2, n3, n4, n5⟩ := q6 w2 A _ F2 (fun _ _ => 0) g1 (fun _ _ h => h) (fun _ _ h => .inl h) (fun b i => by omega) g2 (fun _ => rfl) g3
    refine ⟨A3, _, _, n1, n5 bumpW (below_bumpW (h.vlen r)) (len_bumpW (h.vlen r)) rfl fun p' snap hb hok hlen => ?_⟩
    have h5 := ok_bumpW (h.vlen r) hb hok
    refine ⟨nidx p' + 1, False, by omega, fun _ => .inl (by omega), fun _ => by omega, ?_⟩
    intro q pl hq hp
    cases q with
    | nil =>
      simp only [plc, Option.some.injEq] at hp
      subst hp
      exact ⟨_, _, rfl, fun _ => rfl⟩
    | cons s q =>
      cases s with
      | idx i =>
        cases xa with
        | none => simp [plc, hole] at hp
        | some ad =>
          simp only [plc, hole, List.any_nil, Bool.false_eq_true, if_false, List.filterMap_nil] at hp ⊢
          split at hp
          · rename_i hi
            rw [if_pos hi]
            have hi' : i < (over v lo n y).length := by rw [hvl]; exact hi
            obtain ⟨L, l1, l2, l3⟩ := g4 i _ (List.getElem?_eq_getElem hi') ad rfl
            rw [rd_of_has l2 l1]
            obtain ⟨H', cs', h1, h2⟩ := plc_typed (A := A) (m := .leaf) (v := (over v lo n y)[i]) (F := fun _ _ => 0) q e l3 (.inr hf) hp
            exact ⟨H', cs', h1, fun h => by rcases h with ⟨_, hs⟩ | h; rw [h2 hf] at hs; cases hs; exact h.elim⟩
          · cases hp
      | _ => simp [plc] at hp
  cases xa with
  | none =>
    have h0 := c3 rfl
    have hv0 : List.length v = 0 := by omega
    have hov : over v lo n y = v := by
      have : n = 0 := by omega
      subst this
      have hv : v = [] := List.eq_nil_of_length_eq_zero hv0
      subst hv
      simp [over]
    obtain ⟨A3, σ3, F3, n1, n2⟩ := fin w (Ext.refl _ _) (fun b o e => (q5 b o e).1) (by rw [hov]; exact hrep) (fun i z hz ad e => by cases e)
    exact ⟨none, cap, ad2, w, A3, σ3, F3, q2, n1, n2, fun _ => ⟨rfl, hv0⟩, fun ad e => by cases e⟩
  | some ad =>
    obtain ⟨d1, d2, d3, Fi, d4, d5⟩ := c4 ad rfl
    obtain ⟨b, off, sp⟩ := ad
    simp only at d1 d2 d3 d4 d5
    subst d1; subst d2
    have hle : lo * e.sz + n * e.sz ≤ cap * e.sz := by rw [← Nat.add_mul]; exact Nat.mul_le_mul_right _ (by omega)
    have hnl : (news.take (n * e.sz)).length = n * e.sz := by
      rw [List.length_take, hl, Nat.min_eq_left]; exact Nat.mul_le_mul_right _ hy
    have hcell : ∀ j, j < cap * e.sz → (w.cell? ⟨b, j, none⟩).isSome = true := fun j hj => by
      obtain ⟨c, e', fr, w1, w2, w3⟩ := d3
      unfold World.cell?
      simp only [w1, Option.isSome_none, Bool.false_eq_true, if_false]
      rw [Array.getElem?_eq_getElem (by omega)]; rfl
    have hst := run_storeCells_cells (P := P) b (lo * e.sz) (news.take (n * e.sz)) 0 w (fun j hj => by rw [Nat.add_zero]; exact hcell _ (by omega)) (fun j hj => by rw [Nat.add_zero]; exact d3.frozen (by omega)) (fun u hu => hone u (List.mem_of_mem_take hu))
    rw [Nat.add_zero] at hst
    have hext := ext_setCells (b := b) (o := lo * e.sz) (news.take (n * e.sz)) w (lo * e.sz)
    rw [hnl] at hext
    have hsub : ∀ b' i, rng b (lo * e.sz) (n * e.sz) b' i ≤ rng b 0 (cap * e.sz) b' i := fun b' i => by
      simp only [rng]
      split
      · rw [if_pos (by omega)]; exact Nat.le_refl _
      · exact Nat.zero_le _
    have hA : ∀ b' i, A b' i → ∀ u, ce w b' i = some u → ce (w.setCells b (lo * e.sz) (news.take (n * e.sz))) b' i = some u := fun b' i ha u hu => by
      refine hext.cell b' i (h.bnd b' i (.inr ha)) ?_ u hu
      rcases Nat.eq_zero_or_pos (rng b (lo * e.sz) (n * e.sz) b' i) with h0 | h0
      · exact h0
      · exact absurd ha (h.dis b' i (by have := hsub b' i; have := d4 b' i; have := q4 b' i; have := le_sumF F hr b' i; omega))
    have hel2 : ∀ (i : Nat) (z : e.den), (over v lo n y)[i]? = some z → ∃ L, L.length = e.sz ∧ Has (w.setCells b (lo * e.sz) (news.take (n * e.sz))) b (i * e.sz) L ∧ Ro P (w.setCells b (lo * e.sz) (news.take (n * e.sz))) A e z L := by
      intro i z hz
      rw [over_get v y hn hy] at hz
      split at hz
      · rename_i hi
        have hr1 := Rep.flat _ hf (hel _ z hz)
        refine ⟨_, Ro.length _ hr1, fun j u hu => ?_, Ro.mono hA (fun _ _ h => h) e hr1⟩
        rw [List.getElem?_take] at hu
        split at hu
        · rename_i hj
          rw [List.getElem?_drop] at hu
          have h6 : (i - lo) * e.sz + e.sz ≤ n * e.sz := by rw [← Nat.succ_mul]; exact Nat.mul_le_mul_right _ (by omega)
          have := has_setCells (w := w) (b := b) (o := lo * e.sz) (L := news.take (n * e.sz)) (fun k hk => hcell _ (by omega)) (fun u hu => hone u (List.mem_of_mem_take hu)) ((i - lo) * e.sz + j) u (by rw [List.getElem?_take_of_lt (by omega)]; exact hu)
          rw [← this]
          have h7 : i * e.sz = lo * e.sz + (i - lo) * e.sz := by rw [← Nat.add_mul]; congr 1; omega
          congr 1; omega
        · cases hu
      · rename_i hi
        obtain ⟨L, l1, l2, l3⟩ := d5 i z hz
        have hr1 := Rep.flat _ hf l3
        refine ⟨L, l1, fun j u hu => ?_, Ro.mono hA (fun _ _ h => h) e hr1⟩
        refine hext.cell b _ (by obtain ⟨c, e', fr, w1, _⟩ := d3; exact (Array.getElem?_eq_some_iff.1 w1).1) ?_ u (l2 j u hu)
        have hj := (List.getElem?_eq_some_iff.1 hu).1
        simp only [rng]
        rw [if_neg]
        rintro ⟨_, h8, h9⟩
        rcases Nat.lt_or_ge i lo with hil | hil
        · have h6 : i * e.sz + e.sz ≤ lo * e.sz := by rw [← Nat.succ_mul]; exact Nat.mul_le_mul_right _ (by omega)
          omega
        · have h6 : lo * e.sz + n * e.sz ≤ i * e.sz := by rw [← Nat.add_mul]; exact Nat.mul_le_mul_right _ (by omega)
          omega
    have hrep2 : Rep P (w.setCells b (lo * e.sz) (news.take (n * e.sz))) A (.slc e) m [] (over v lo n y) [.slice (some ⟨b, 0, none⟩) (List.length v) cap] F2 := by
      simp only [Rep, hole, List.any_nil, Bool.false_eq_true, if_false, hown, if_true]
      refine ⟨some ⟨b, 0, none⟩, cap, by rw [hvl], by omega, c2, (fun e => by cases e), fun ad' e' => ?_⟩
      injection e' with e'; subst e'
      refine ⟨rfl, rfl, hext.blk _ _ d3, fun _ _ _ => 0, fun b' i => by rw [sumF_zero]; have h9 := d4 b' i; show rng b 0 (cap * e.sz) b' i + 0 ≤ F2 b' i; omega, fun i z hz => ?_⟩
      obtain ⟨L, l1, l2, l3⟩ := hel2 i z hz
      exact ⟨L, l1, l2, Ro.flat _ _ hf l3⟩
    have hhas : ∀ b' o', ad2 = some (b', o') → Has (w.setCells b (lo * e.sz) (news.take (n * e.sz))) b' o' [.slice (some ⟨b, 0, none⟩) (List.length v) cap] := fun b' o' ea j u hu => by
      have h1 := (q5 b' o' ea).1 j u hu
      have hj := (List.getElem?_eq_some_iff.1 hu).1
      have h2 := q4 b' (o' + j); have h3 := d4 b' (o' + j); have h4 := hsub b' (o' + j); have h5 := hFr b' (o' + j); have h7 := le_sumF F hr b' (o' + j)
      have h6 : rngO ad2 (Ty.slc e).sz b' (o' + j) = 1 := by
        subst ea
        have hj0 : j = 0 := by simpa using hj
        subst hj0
        simp [rngO, rng, Ty.sz]
      exact hext.cell _ _ (h.bnd b' (o' + j) (.inl (by show 1 ≤ 0 + _; omega))) (by omega) u h1
    obtain ⟨A3, σ3, F3, n1, n2⟩ := fin _ (hext.mono fun b' i hz => by
        have hz : 0 + (F2 b' i + rngO ad2 (Ty.slc e).sz b' i) = 0 := hz
        have h2 := hsub b' i; have h3 := d4 b' i; omega) hhas hrep2 (fun i z hz ad e => by
        injection e with e; subst e
        obtain ⟨L, l1, l2, l3⟩ := hel2 i z hz
        exact ⟨L, l1, by simpa using l2, Ro.flat _ _ hf l3⟩)
    refine ⟨_, cap, ad2, _, A3, σ3, F3, q2, n1, n2, (fun e => by cases e), fun ad' e' => ?_⟩
    injection e' with e'; subst e'
    refine ⟨rfl, rfl, fun hn0 => ?_, hst⟩
    subst hn0
    simp [World.setCells]

theorem step_copy (h : Rel0 P C A σ a w F) (hti : ∀ i T, E.TI i = some T → layB P T (.inl i) = true) {t tx : Nat} {y z : Operand} (ho : o.op = .call { callee := .builtin .copy, args := #[y, z], argTypes := #[t, tx] }) (hok : opdOk P y = true ∧ opdOk P z = true)
    (hkind : (∃ e', P.underlying tx = some (.slice e')) ∨ P.underlying tx = some .string) {K : St → Option R} (hk : copyK E σ t y (opd σ z) o.dst K = some x) : o.wp P a w (Nx P C K x) Q := by
  unfold copyK at hk
  obtain ⟨T, hT, hk⟩ := tiK_some hk
  have hlay := hti _ _ hT
  split at hk
  · rename_i e
    have hl := hlay
    simp only [layB, Bool.and_eq_true] at hl
    have h2 := hl.2
    split at h2
    rotate_left
    · cases h2
    rename_i el hu
    simp only [Bool.and_eq_true, Nat.ble_eq] at h2
    obtain ⟨hsz, hel⟩ := h2
    have hsof := run_sizeOf (P := P) (w := w) hel
    split at hk
    rotate_left
    · cases hk
    rename_i hf
    rcases opd_ok h hok.2 with hs2 | ⟨xs, e'⟩
    rotate_left
    · rw [e'] at hk; simp [tailK, useK] at hk
    obtain ⟨A2, σ2, F2, me, yv, news, Fw, Gi, q1, q2, q3, qr, q4, q4', q5, q6⟩ := tail_ok h hs2 hkind hk
    have h2 : Rel0 P C A2 σ2 a w F2 := q3.less fun _ _ => Nat.zero_le _
    -- the machine's own steps
    have run : ∀ (xa : Option Addr) (n cap : Nat) (w2 : World), a.eval y = .slice xa n cap → (match (generalizing := false) xa with | none => w2 = w | some ad => (storeCells ad (news.take (min (List.length yv) n * e.sz))).run P w = .ok () w2) →
        (execOp a.eval o).run P w = .ok (.value (.int .i64 ((min (List.length yv) n : Nat) : Int))) w2 := by
      intro xa n cap w2 hy hst
      have hfc := q4' (min (List.length yv) n) (Nat.min_le_left _ _)
      cases xa with
      | none =>
        simp only at hst
        subst hst
        simp [execOp, ho, resolve, invoke, builtin, Builtin.copy_, hy, run_underlying hu, q4.len, hsof, Nat.min_def] at hfc ⊢
        simp [hfc, goInt]
      | some ad =>
        simp only at hst
        simp [execOp, ho, resolve, invoke, builtin, Builtin.copy_, hy, run_underlying hu, q4.len, hsof, Nat.min_def] at hfc hst ⊢
        simp [hfc, hst, goInt]
    rcases opd_ok h2 hok.1 with hs | ⟨xs, e'⟩
    rotate_left
    · rw [e'] at q1; cases q1
    split at q1
    · rename_i r p snap lo hi hv
      rw [hv] at hs
      split at q1
      · rename_i hsn
        obtain ⟨hr, t', m', H', v', cs', ad', F', h1, hat, h3, h4, h5, h6⟩ := at_ok h2 q1
        split at h1
        · rename_i hc
          simp only [Bool.and_eq_true, List.isEmpty_iff] at hc
          obtain ⟨hown, hH⟩ := hc
          subst hH
          obtain ⟨e1, h1⟩ := castK_some h1
          subst e1
          obtain ⟨pl, e2, xa, n, cap, xa', cap', g1, g2, g3, g4, g5, g6, g7, g8, g9, g10, g11⟩ := hs.2 hsn
          have hvn : n = List.length v' := by
            rw [g1] at h3
            injection h3 with h3
            subst h3
            simp only at g3
            subst g3
            simp only [Rep, hole, List.any_nil, Bool.false_eq_true, if_false, hown, if_true] at h4
            obtain ⟨_, _, h4, _⟩ := h4
            injection h4 with h4; injection h4
          obtain ⟨xb, cap2, ad2, w2, A3, σ3, F3, c1, c2, c3, c4, c5⟩ := copy_core h2 (K := fun σ' => K (σ'.putD o.dst (.val (.int .i64) ((min (List.length yv) (hi - lo) : Nat) : Int)))) ⟨hat⟩ hown hf (lo := lo) (n := min (List.length yv) (hi - lo)) (by omega) (Nat.min_le_left _ _) q4.newsLen q4.one q5 h1
          rw [c1] at g1
          injection g1 with g1
          subst g1
          simp only [List.cons.injEq, Value.slice.injEq, and_true] at g3
          obtain ⟨rfl, g3, rfl⟩ := g3
          injection g2 with g2
          subst g2
          refine wp_val (run xa' (hi - lo) cap' w2 g6 ?_) (fin_flat c3 c2 ⟨[.int .i64 _], rfl, rfl⟩ (fun _ _ _ _ e => by cases e))
          cases xb with
          | none => rw [g9 rfl]; exact (c4 rfl).1
          | some ad =>
            obtain ⟨ad'', k1, k2, k3, k4⟩ := g10 ad rfl
            rw [k1]
            obtain ⟨j1, j2, j3, j4⟩ := c5 ad rfl
            simp only
            by_cases hlt : lo < hi
            · have : ad'' = ⟨ad.block, lo * e.sz, none⟩ := by
                have h1 := k4 hlt
                obtain ⟨x1, x2, x3⟩ := ad''
                simp only at k2 k3 h1
                rw [k3, k2, j2, h1, j1, Nat.zero_add]
              rw [this]; exact j4
            · have hn0 : min (List.length yv) (hi - lo) = 0 := by omega
              rw [hn0, Nat.zero_mul, List.take_zero]
              rw [j3 hn0]; rfl
        · cases h1
      · cases q1
    · rename_i r p snap hv
      rw [hv] at hs
      split at q1
      · rename_i hsn
        obtain ⟨hr, t', m', H', v', cs', ad', F', h1, hat, h3, h4, h5, h6⟩ := at_ok h2 q1
        split at h1
        · rename_i hc
          simp only [Bool.and_eq_true, List.isEmpty_iff] at hc
          obtain ⟨hown, hH⟩ := hc
          subst hH
          obtain ⟨e1, h1⟩ := castK_some h1
          subst e1
          obtain ⟨pl, g1, g2, g3⟩ := hs.2 hsn
          obtain ⟨xb, cap2, ad2, w2, A3, σ3, F3, c1, c2, c3, c4, c5⟩ := copy_core h2 (K := fun σ' => K (σ'.putD o.dst (.val (.int .i64) ((min (List.length yv) (List.length v') : Nat) : Int)))) ⟨hat⟩ hown hf (lo := 0) (n := min (List.length yv) (List.length v')) (by omega) (Nat.min_le_left _ _) q4.newsLen q4.one q5 h1
          rw [c1] at g1
          injection g1 with g1
          subst g1
          simp only [mkV_one (.slc e) _ rfl] at g2
          refine wp_val (run xb (List.length v') cap2 w2 g2 ?_) (fin_flat c3 c2 ⟨[.int .i64 _], rfl, rfl⟩ (fun _ _ _ _ e => by cases e))
          cases xb with
          | none => exact (c4 rfl).1
          | some ad =>
            obtain ⟨j1, j2, j3, j4⟩ := c5 ad rfl
            obtain ⟨b, off, sp⟩ := ad
            simp only at j1 j2 j4 ⊢
            subst j1; subst j2
            simpa using j4
        · cases h1
      · cases q1
    · cases q1
  · cases hk
end
end OT
