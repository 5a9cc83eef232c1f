/- Calls, first part: what data own exactly; a world with new blocks; what a function's contract says. -/
import Derived.Test.YtkimdiobckckiaaOTz
set_option linter.unusedVariables false
set_option linter.unusedSimpArgs false
namespace OT
open Go

/-- What data own, exactly. -/
def fpOf (w : World) : (t : Ty) → Md → List Path → List Value → FP
  | .pair a b, m, H, cs => fun x i => fpOf w a m.l (H.filterMap stripF) (cs.take a.sz) x i + fpOf w b m.r (H.filterMap stripS) (cs.drop a.sz) x i
  | .slc e, m, H, cs =>
    if hole H then fun _ _ => 0 else if m.own then
      match cs with
      | [.slice (some ad) n cap] => fun x i => rng ad.block 0 (cap * e.sz) x i + sumF n (fun j => fpOf w e m.e (H.filterMap (stripI j)) (rd w ad.block (j * e.sz) e.sz)) x i
      | _ => fun _ _ => 0
    else fun _ _ => 0
  | .ptr e, m, H, cs =>
    if hole H then fun _ _ => 0 else if m.own then
      match cs with
      | [.pointer (some ad)] => fun x i => rng ad.block 0 e.sz x i + fpOf w e m.e [] (rd w ad.block 0 e.sz) x i
      | _ => fun _ _ => 0
    else fun _ _ => 0
  | .map _ _, m, H, cs =>
    if hole H then fun _ _ => 0 else if m.own then
      match cs with
      | [.map (some r)] => rng r 0 1
      | _ => fun _ _ => 0
    else fun _ _ => 0
  | _, _, _, _ => fun _ _ => 0

section
variable {P : Program} {w w1 : World} {A : Cells}

theorem Rep.fp : ∀ (t : Ty) {m : Md} {H : List Path} {v : t.den} {cs : List Value} {F : FP}, Rep P w A t m H v cs F → Rep P w A t m H v cs (fpOf w t m H cs) ∧ ∀ b i, fpOf w t m H cs b i ≤ F b i := by
  intro t
  induction t with
  | pair a b iha ihb =>
    intro m H v cs F h
    obtain ⟨h0, F1, F2, hs, h1, h2⟩ := h
    obtain ⟨a1, a2⟩ := iha h1
    obtain ⟨b1, b2⟩ := ihb h2
    exact ⟨⟨h0, _, _, fun _ _ => Nat.le_refl _, a1, b1⟩, fun b i => by have := a2 b i; have := b2 b i; have := hs b i; simp only [fpOf]; omega⟩
  | slc e ih =>
    intro m H v cs F h
    have h' := h
    simp only [Rep] at h
    split at h
    · rename_i hh
      exact ⟨by simp only [Rep, hh, if_true]; exact h, fun b i => by simp only [fpOf, hh, if_true]; exact Nat.zero_le _⟩
    · rename_i hh
      split at h
      · rename_i hm
        obtain ⟨xa, cap, rfl, h1, h2, h3, h4⟩ := h
        cases xa with
        | none =>
          refine ⟨?_, fun b i => by simp only [fpOf, hh, hm, if_true, Bool.false_eq_true, if_false]; exact Nat.zero_le _⟩
          simp only [Rep, hh, hm, if_true, Bool.false_eq_true, if_false]
          exact ⟨none, cap, rfl, h1, h2, h3, fun ad e => by cases e⟩
        | some ad =>
          obtain ⟨g1, g2, g3, Fi, g4, g5⟩ := h4 ad rfl
          have each : ∀ (i : Nat) (x : e.den), v[i]? = some x → ∃ L : List Value, L.length = e.sz ∧ Has w ad.block (i * e.sz) L ∧ Rep P w A e m.e (H.filterMap (stripI i)) x L (fpOf w e m.e (H.filterMap (stripI i)) (rd w ad.block (i * e.sz) e.sz)) ∧
              ∀ b k, fpOf w e m.e (H.filterMap (stripI i)) (rd w ad.block (i * e.sz) e.sz) b k ≤ Fi i b k := fun i x hx => by
            obtain ⟨L, l1, l2, l3⟩ := g5 i x hx
            obtain ⟨q1, q2⟩ := ih l3
            rw [rd_of_has l2 l1]
            exact ⟨L, l1, l2, q1, q2⟩
          have hle : ∀ b i, sumF (List.length v) (fun j => fpOf w e m.e (H.filterMap (stripI j)) (rd w ad.block (j * e.sz) e.sz)) b i ≤ sumF (List.length v) Fi b i := fun b i => sumF_le b i fun j hj => by
            obtain ⟨_, _, _, _, q⟩ := each j _ (List.getElem?_eq_getElem hj)
            exact q b i
          refine ⟨?_, fun b i => by simp only [fpOf, hh, hm, if_true, Bool.false_eq_true, if_false]; have := hle b i; have := g4 b i; omega⟩
          simp only [Rep, hh, hm, if_true, Bool.false_eq_true, if_false]
          refine ⟨some ad, cap, rfl, h1, h2, h3, fun ad' e' => ?_⟩
          injection e' with e'; subst e'
          refine ⟨g1, g2, g3, fun j => fpOf w e m.e (H.filterMap (stripI j)) (rd w ad.block (j * e.sz) e.sz), fun b i => by simp only [fpOf, hh, hm, if_true, Bool.false_eq_true, if_false]; exact Nat.le_refl _, fun i x hx => ?_⟩
          obtain ⟨L, l1, l2, l3, _⟩ := each i x hx
          exact ⟨L, l1, l2, l3⟩
      · rename_i hm
        exact ⟨by simp only [Rep, hh, hm, Bool.false_eq_true, if_false]; exact h, fun b i => by simp only [fpOf, hh, hm, Bool.false_eq_true, if_false]; exact Nat.zero_le _⟩
  | ptr e ih =>
    intro m H v cs F h
    simp only [Rep] at h
    split at h
    · rename_i hh
      exact ⟨by simp only [Rep, hh, if_true]; exact h, fun b i => by simp only [fpOf, hh, if_true]; exact Nat.zero_le _⟩
    · rename_i hh
      split at h
      · rename_i hm
        obtain ⟨b0, rfl, h1, L, F1, h2, h3, h4, h5⟩ := h
        obtain ⟨q1, q2⟩ := ih h5
        refine ⟨?_, fun b i => by simp only [fpOf, hh, hm, if_true, Bool.false_eq_true, if_false, rd_of_has h3 h2]; have := q2 b i; have := h4 b i; omega⟩
        simp only [Rep, hh, hm, if_true, Bool.false_eq_true, if_false]
        exact ⟨b0, rfl, h1, L, _, h2, h3, fun b i => by simp only [fpOf, hh, hm, if_true, Bool.false_eq_true, if_false, rd_of_has h3 h2]; exact Nat.le_refl _, q1⟩
      · rename_i hm
        exact ⟨by simp only [Rep, hh, hm, Bool.false_eq_true, if_false]; exact h, fun b i => by simp only [fpOf, hh, hm, Bool.false_eq_true, if_false]; exact Nat.zero_le _⟩
  | arr n e ih => intro m H v cs F h; exact ⟨h, fun _ _ => Nat.zero_le _⟩
  | map k v =>
    intro m H x cs F h
    simp only [Rep] at h
    split at h
    · rename_i hh
      exact ⟨by simp only [Rep, hh, if_true]; exact h, fun b i => by simp only [fpOf, hh, if_true]; exact Nat.zero_le _⟩
    · rename_i hh
      split at h
      · rename_i hm
        obtain ⟨h1, h2, r, kvs, rfl, h4, h5, h6, h7⟩ := h
        refine ⟨?_, fun b i => ?_⟩
        · simp only [Rep, hh, hm, if_true, Bool.false_eq_true, if_false]
          exact ⟨h1, h2, r, kvs, rfl, h4, by simp [fpOf, hh, hm, rng], h6, h7⟩
        · simp only [fpOf, hh, hm, if_true, Bool.false_eq_true, if_false, rng]
          split
          · rename_i hc
            obtain ⟨rfl, hc1, hc2⟩ := hc
            have : i = 0 := by omega
            subst this; exact h5
          · exact Nat.zero_le _
      · rename_i hm
        exact ⟨by simp only [Rep, hh, hm, Bool.false_eq_true, if_false]; exact h, fun b i => by simp only [fpOf, hh, hm, Bool.false_eq_true, if_false]; exact Nat.zero_le _⟩
  | _ => intro m H v cs F h; exact ⟨h, fun _ _ => Nat.zero_le _⟩

theorem fpOf_frame : ∀ (t : Ty) {m : Md} {H : List Path} {v : t.den} {cs : List Value} {F : FP}, Rep P w A t m H v cs F → (∀ b i, 1 ≤ F b i → ∀ u, ce w b i = some u → ce w1 b i = some u) → fpOf w1 t m H cs = fpOf w t m H cs := by
  intro t
  induction t with
  | pair a b iha ihb =>
    intro m H v cs F h hF
    obtain ⟨h0, F1, F2, hs, h1, h2⟩ := h
    have e1 := iha h1 (fun b i hp => hF b i (by have := hs b i; omega))
    have e2 := ihb h2 (fun b i hp => hF b i (by have := hs b i; omega))
    simp only [fpOf, e1, e2]
  | slc e ih =>
    intro m H v cs F h hF
    simp only [Rep] at h
    split at h
    · rename_i hh; simp only [fpOf, hh, if_true]
    · rename_i hh
      split at h
      · rename_i hm
        obtain ⟨xa, cap, rfl, h1, h2, h3, h4⟩ := h
        cases xa with
        | none => simp only [fpOf]
        | some ad =>
          obtain ⟨g1, g2, g3, Fi, g4, g5⟩ := h4 ad rfl
          simp only [fpOf, hh, hm, if_true, Bool.false_eq_true, if_false]
          funext b i
          congr 1
          refine congrFun (congrFun (sumF_congr fun j hj => ?_) b) i
          obtain ⟨L, l1, l2, l3⟩ := g5 j _ (List.getElem?_eq_getElem hj)
          have hle : j * e.sz + e.sz ≤ cap * e.sz := by rw [← Nat.succ_mul]; exact Nat.mul_le_mul_right _ (by omega)
          have l2' : Has w1 ad.block (j * e.sz) L := fun k u hu => hF _ _ (by
            have hk := (List.getElem?_eq_some_iff.1 hu).1
            have := g4 ad.block (j * e.sz + k)
            have h9 : rng ad.block 0 (cap * e.sz) ad.block (j * e.sz + k) = 1 := by simp only [rng]; rw [if_pos ⟨trivial, by omega, by omega⟩]
            omega) u (l2 k u hu)
          rw [rd_of_has l2' l1, rd_of_has l2 l1]
          exact ih l3 (fun b i hp => hF b i (by have := g4 b i; have := le_sumF Fi hj b i; omega))
      · rename_i hm; simp only [fpOf, hh, hm, Bool.false_eq_true, if_false]
  | ptr e ih =>
    intro m H v cs F h hF
    simp only [Rep] at h
    split at h
    · rename_i hh; simp only [fpOf, hh, if_true]
    · rename_i hh
      split at h
      · rename_i hm
        obtain ⟨b0, rfl, h1, L, F1, h2, h3, h4, h5⟩ := h
        have h3' : Has w1 b0 0 L := fun k u hu => hF _ _ (by
          have hk := (List.getElem?_eq_some_iff.1 hu).1
          have := h4 b0 (0 + k)
          have h9 : rng b0 0 e.sz b0 (0 + k) = 1 := by simp only [rng]; rw [if_pos ⟨trivial, by omega, by omega⟩]
          omega) u (h3 k u hu)
        simp only [fpOf, hh, hm, if_true, Bool.false_eq_true, if_false, rd_of_has h3 h2, rd_of_has h3' h2]
        rw [ih h5 (fun b i hp => hF b i (by have := h4 b i; omega))]
      · rename_i hm; simp only [fpOf, hh, hm, Bool.false_eq_true, if_false]
  | _ => intro m H v cs F h hF; rfl

/-- Data without function values that own all they lead to do not depend on what stays elsewhere. -/
theorem Ro.indep {A' : Cells} : ∀ (t : Ty) {v : t.den} {cs : List Value}, t.flat = true → t.nofn = true → Ro P w A t v cs → Ro P w A' t v cs := by
  intro t
  induction t with
  | pair a b iha ihb =>
    intro v cs hf hn h
    simp only [Ty.flat, Ty.nofn, Bool.and_eq_true] at hf hn
    exact ⟨iha hf.1 hn.1 h.1, ihb hf.2 hn.2 h.2⟩
  | arr n e ih =>
    intro v cs hf hn h
    exact ⟨h.1, h.2.1, h.2.2.1, fun i x hx => ih hf hn (h.2.2.2 i x hx)⟩
  | slc e ih => intro v cs hf; simp [Ty.flat] at hf
  | ptr e ih => intro v cs hf; simp [Ty.flat] at hf
  | fn => intro v cs hf hn; simp [Ty.nofn] at hn
  | map k v => intro v cs hf; simp [Ty.flat] at hf
  | _ => intro v cs hf hn h; exact h
theorem Rep.indep {A' : Cells} : ∀ (t : Ty) {v : t.den} {cs : List Value} {F : FP}, t.nofn = true → Rep P w A t (ownMd t) [] v cs F → Rep P w A' t (ownMd t) [] v cs F := by
  intro t
  induction t with
  | pair a b iha ihb =>
    intro v cs F hn h
    simp only [Ty.nofn, Bool.and_eq_true] at hn
    obtain ⟨h0, F1, F2, hs, h1, h2⟩ := h
    exact ⟨h0, F1, F2, hs, iha hn.1 h1, ihb hn.2 h2⟩
  | slc e ih =>
    intro v cs F hn h
    simp only [Rep, hole, List.any_nil, Bool.false_eq_true, if_false, ownMd, mdOf, Md.own, if_true] at h ⊢
    obtain ⟨xa, cap, h1, h2, h3, h4, h5⟩ := h
    refine ⟨xa, cap, h1, h2, h3, h4, fun ad e' => ?_⟩
    obtain ⟨g1, g2, g3, Fi, g4, g5⟩ := h5 ad e'
    refine ⟨g1, g2, g3, Fi, g4, fun i x hx => ?_⟩
    obtain ⟨L, l1, l2, l3⟩ := g5 i x hx
    exact ⟨L, l1, l2, ih hn l3⟩
  | ptr e ih =>
    intro v cs F hn h
    simp only [Rep, hole, List.any_nil, Bool.false_eq_true, if_false, ownMd, mdOf, Md.own, if_true] at h ⊢
    obtain ⟨b, h1, h2, L, F1, h3, h4, h5, h6⟩ := h
    exact ⟨b, h1, h2, L, F1, h3, h4, h5, ih hn h6⟩
  | arr n e ih =>
    intro v cs F hn h
    exact ⟨h.1, Ro.indep _ (by have := h.2.1; simpa [Ty.flat] using this) hn h.2⟩
  | fn => intro v cs F hn; simp [Ty.nofn] at hn
  | map k v =>
    intro x cs F hn h
    simp only [Ty.nofn, Bool.and_eq_true] at hn
    simp only [Rep, hole, List.any_nil, Bool.false_eq_true, if_false, ownMd, mdOf, Md.own, if_true] at h ⊢
    obtain ⟨h1, h2, r, kvs, h3, h4, h5, h6, h7⟩ := h
    refine ⟨h1, h2, r, kvs, h3, h4, h5, h6, fun i y hy => ?_⟩
    obtain ⟨kc, vc, g1, g2, g3⟩ := h7 i y hy
    exact ⟨kc, vc, g1, Ro.indep k h1 hn.1 g2, Ro.indep v h2 hn.2 g3⟩
  | _ => intro v cs F hn h; exact h
theorem Rep.free {A' : Cells} {t : Ty} {m : Md} {v : t.den} {cs : List Value} {F : FP} (ho : (t.flat || decide (m = ownMd t)) = true) (hn : t.nofn = true) (h : Rep P w A t m [] v cs F) : Rep P w A' t m [] v cs F := by
  simp only [Bool.or_eq_true, decide_eq_true_eq] at ho
  rcases ho with ho | ho
  · exact Ro.flat t F ho (Ro.indep t ho hn (Rep.flat t ho h))
  · subst ho; exact Rep.indep t hn h

/-- The world with the blocks that come, all else as it was. -/
def World.news (w w2 : World) : World := { w2 with heap := (w.heap.toList ++ w2.heap.toList.drop w.heap.size).toArray }

theorem news_heap {w2 : World} (h : w.heap.size ≤ w2.heap.size) (k : Nat) : (World.news w w2).heap[k]? = if k < w.heap.size then w.heap[k]? else w2.heap[k]? := by
  simp only [World.news, List.getElem?_toArray]
  by_cases hk : k < w.heap.size
  · rw [if_pos hk, List.getElem?_append_left (by simpa using hk), Array.getElem?_toList]
  · rw [if_neg hk, List.getElem?_append_right (by simp; omega), List.getElem?_drop, Array.getElem?_toList]
    congr 1; simp; omega
theorem news_size {w2 : World} (h : w.heap.size ≤ w2.heap.size) : (World.news w w2).heap.size = w2.heap.size := by simp [World.news]; omega
theorem news_old {w2 : World} (h : w.heap.size ≤ w2.heap.size) {b : Nat} (hb : b < w.heap.size) : (World.news w w2).heap[b]? = w.heap[b]? := by rw [news_heap h, if_pos hb]
theorem news_new {w2 : World} (h : w.heap.size ≤ w2.heap.size) {b : Nat} (hb : w.heap.size ≤ b) : (World.news w w2).heap[b]? = w2.heap[b]? := by rw [news_heap h, if_neg (by omega)]
theorem ce_of_block {w2 : World} {b : Nat} (h : w2.heap[b]? = w.heap[b]?) (i : Nat) : ce w2 b i = ce w b i := ce_block h i
theorem fr_of_block {w2 : World} {b : Nat} (h : w2.heap[b]? = w.heap[b]?) (i : Nat) : w2.frozen? ⟨b, i, none⟩ = w.frozen? ⟨b, i, none⟩ := by simp [World.frozen?, h]
theorem own_of_block {w2 : World} {b : Nat} (h : w2.heap[b]? = w.heap[b]?) (n : Nat) : OwnBlk w b n ↔ OwnBlk w2 b n := by unfold OwnBlk; rw [h]
theorem OwnBlk.lt {b n : Nat} (h : OwnBlk w b n) : b < w.heap.size := by
  obtain ⟨c, e, fr, h1, _⟩ := h; exact (Array.getElem?_eq_some_iff.1 h1).1

theorem ext_news {w2 : World} {F : FP} (h : Ext w w2 F) : Ext w (World.news w w2) (fun _ _ => 0) ∧ Ext (World.news w w2) w2 F := by
  have hs := h.size
  refine ⟨⟨by rw [news_size hs]; exact hs, fun b i hb _ u hu => by rw [ce_of_block (news_old hs hb)]; exact hu, fun b n hn => (own_of_block (news_old hs hn.lt) n).1 hn, fun b i hb => fr_of_block (news_old hs hb) i, h.os, h.tape, h.output, fun b hb _ => news_old hs hb⟩,
    ⟨by rw [news_size hs]; exact Nat.le_refl _, fun b i hb hz u hu => ?_, fun b n hn => ?_, fun b i hb => ?_, rfl, rfl, rfl, fun b hb hz => ?_⟩⟩
  · by_cases hb' : b < w.heap.size
    · rw [ce_of_block (news_old hs hb')] at hu
      exact h.cell b i hb' hz u hu
    · rw [ce_of_block (w := w2) (news_new hs (Nat.le_of_not_lt hb'))] at hu; exact hu
  · by_cases hb' : b < w.heap.size
    · exact h.blk b n ((own_of_block (news_old hs hb') n).2 hn)
    · exact (own_of_block (w := w2) (news_new hs (Nat.le_of_not_lt hb')) n).2 hn
  · by_cases hb' : b < w.heap.size
    · rw [fr_of_block (news_old hs hb')]; exact h.froz b i hb'
    · exact (fr_of_block (w := w2) (news_new hs (Nat.le_of_not_lt hb')) i).symm
  · by_cases hb' : b < w.heap.size
    · rw [news_old hs hb']; exact h.obj b hb' hz
    · exact (news_new hs (Nat.le_of_not_lt hb')).symm
end

/-- What an argument is. -/
def ArgRel (P : Program) (w : World) (A : Cells) (pm : PM) (t : Ty) (v : t.den) (x : Value) (F : FP) : Prop :=
  match pm with
  | .ro => ∃ cs, x = mkV t cs ∧ Ro P w A t v cs
  | .fix f => (∃ cs, x = mkV t cs ∧ Ro P w A t v cs) ∧ ∀ e : t = .fn, (e ▸ v : Ty.fn.den).1 = f
  | .mutp m => ∃ b o L F1, x = .pointer (some ⟨b, o, none⟩) ∧ L.length = t.sz ∧ Has w b o L ∧ (∀ j, j < t.sz → w.frozen? ⟨b, o + j, none⟩ = false) ∧ (∀ b' i, rng b o t.sz b' i + F1 b' i ≤ F b' i) ∧ Rep P w A t m [] v L F1
  | .muts m => ∃ cs, x = mkV t cs ∧ Rep P w A t m [] v cs F

/-- The arguments. -/
def ArgsRel (P : Program) (w : World) (A : Cells) : (ps : List (PM × Ty)) → (tupT (ps.map (·.2))).den → List Value → FP → Prop
  | [], _, xs, _ => xs = []
  | (pm, t) :: ps, v, xs, F => ∃ (x : Value) (xs' : List Value) (F1 F2 : FP), xs = x :: xs' ∧ (∀ b i, F1 b i + F2 b i ≤ F b i) ∧ ArgRel P w A pm t v.1 x F1 ∧ ArgsRel P w A ps v.2 xs' F2

/-- What the turned arguments are then. -/
def MutsRel (P : Program) (w : World) (A : Cells) : (ps : List (PM × Ty)) → (tupT (mutTys ps)).den → List Value → FP → Prop
  | [], _, _, _ => True
  | (.ro, _) :: ps, v, xs, F => MutsRel P w A ps v xs.tail F
  | (.fix _, _) :: ps, v, xs, F => MutsRel P w A ps v xs.tail F
  | (.mutp m, t) :: ps, v, xs, F => ∃ (F1 F2 : FP), (∀ b i, F1 b i + F2 b i ≤ F b i) ∧ (∃ b o L F3, xs.head? = some (.pointer (some ⟨b, o, none⟩)) ∧ L.length = t.sz ∧ Has w b o L ∧ (∀ b' i, rng b o t.sz b' i + F3 b' i ≤ F1 b' i) ∧ Rep P w A t m [] v.1 L F3) ∧ MutsRel P w A ps v.2 xs.tail F2
  | (.muts m, t) :: ps, v, xs, F => ∃ (F1 F2 : FP), (∀ b i, F1 b i + F2 b i ≤ F b i) ∧ (∃ cs, xs.head? = some (mkV t cs) ∧ Rep P w A t m [] v.1 cs F1) ∧ MutsRel P w A ps v.2 xs.tail F2

/-- What is returned. -/
def RetRel (P : Program) (w : World) (A : Cells) (rs : List Res) (rv : Value) (F : FP) : Prop :=
  match rs with
  | [] => True
  | [x] => ∃ cs, rv = mkV x.t cs ∧ Rep P w A x.t x.m [] x.v cs F
  | xs => ∃ (vs : Array Value) (Fi : Nat → FP), rv = .tuple vs ∧ (∀ b i, sumF xs.length Fi b i ≤ F b i) ∧ ∀ j x, xs[j]? = some x → ∃ v cs, vs[j]? = some v ∧ v = mkV x.t cs ∧ Rep P w A x.t x.m [] x.v cs (Fi j)

/-- A function does what its contract says. -/
def Sound (P : Program) (f : FuncId) (g : Sig) : Prop :=
  ∀ (w : World) (A : Cells) (F0 : FP) (v : (tupT (g.ps.map (·.2))).den) (xs : List Value), ArgsRel P w A g.ps v xs F0 → (∀ b i, F0 b i ≤ 1) → (∀ b i, 1 ≤ F0 b i → ¬ A b i) → (∀ b i, 1 ≤ F0 b i ∨ A b i → b < w.heap.size) →
    ∀ out, g.F v = some out → Calls P f xs.toArray w fun e w' => ∃ rv, e = .returned rv ∧ Ext w w' F0 ∧ ∃ (A' : Cells) (G GR GM : FP), (∀ b i, A b i → A' b i) ∧ (∀ b i, A' b i → A b i ∨ 1 ≤ F0 b i ∨ w.heap.size ≤ b) ∧
      (∀ b i, 1 ≤ G b i → 1 ≤ F0 b i ∨ w.heap.size ≤ b) ∧ (∀ b i, G b i ≤ 1) ∧ (∀ b i, 1 ≤ G b i → ¬ A' b i) ∧ (∀ b i, 1 ≤ G b i ∨ A' b i → b < w'.heap.size) ∧ (∀ b i, GR b i + GM b i ≤ G b i) ∧
      RetRel P w' A' (splitR g.rs out).1 rv GR ∧ MutsRel P w' A' g.ps (splitR g.rs out).2 xs GM

/-- A function that can be entered. -/
def EnterOk (P : Program) (f : FuncId) (cap : Bool) : Prop := ∃ fn, P.funcs[f]? = some fn ∧ (fn.name == "runtime.NumGoroutine") = false ∧ fn.body.isNone = false ∧ fn.nfree = (match cap with | true => 1 | false => 0)

end OT
