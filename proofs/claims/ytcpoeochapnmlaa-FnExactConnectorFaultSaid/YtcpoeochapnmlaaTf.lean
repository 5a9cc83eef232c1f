/- FnExactConnectorFault: the row; no conditions. -/
import Derived.Test.YtcpoeochapnmlaaTe
import Derived.Test.YtcpoeochapnmlaaRows
set_option linter.unusedVariables false
set_option linter.unusedSimpArgs false
namespace OT
open Go

abbrev Pgs : Type := List (List UInt8)
def goI {α β : Type} (g : Nat → α → List β) : Nat → List α → List β
  | _, [] => []
  | i, x :: xs => g i x ++ goI g (i + 1) xs
theorem forI_appI {O α β : Type} (g : Nat → α → List β) (fin : List β → O) : ∀ (xs : List α) (i : Nat) (s : List β), forI (fun i s x => .inr (s ++ g i x)) fin i xs s = fin (s ++ goI g i xs)
  | [], _, s => by simp [forI, goI]
  | x :: xs, i, s => by simp only [forI, goI]; rw [forI_appI g fin xs (i + 1)]; simp [List.append_assoc]
theorem goI_len {α β : Type} {g : Nat → α → List β} {n : Nat} : ∀ (xs : List α) (i : Nat), (∀ i x, x ∈ xs → (g i x).length ≤ n) → (goI g i xs).length ≤ n * xs.length
  | [], _, _ => by simp [goI]
  | x :: xs, i, h => by
    have h1 := h i x List.mem_cons_self
    have h2 := goI_len xs (i + 1) fun i y hy => h i y (List.mem_cons_of_mem _ hy)
    simp only [goI, List.length_append, List.length_cons, Nat.mul_add]
    omega
theorem goI_mem {α β : Type} {g : Nat → α → List β} {y : β} : ∀ {xs : List α} {i : Nat}, y ∈ goI g i xs ↔ ∃ (j : Nat) (x : α), xs[j]? = some x ∧ y ∈ g (i + j) x
  | [], i => by simp [goI]
  | x :: xs, i => by
    simp only [goI, List.mem_append, goI_mem (xs := xs)]
    constructor
    · rintro (h | ⟨j, z, h1, h2⟩)
      · exact ⟨0, x, rfl, h⟩
      · exact ⟨j + 1, z, h1, by rw [show i + (j + 1) = i + 1 + j by omega]; exact h2⟩
    · rintro ⟨j, z, h1, h2⟩
      cases j with
      | zero => injection h1 with h1; subst h1; exact .inl h2
      | succ j => exact .inr ⟨j, z, h1, by rw [show i + 1 + j = i + (j + 1) by omega]; exact h2⟩

/-! What a spot says. -/
def sFlag (x : L6Spot) : Int := x.2.2.1.2.1
def sTp (x : L6Spot) : Int := x.2.2.1.2.2.1
def sTs (x : L6Spot) : Int := x.2.2.1.2.2.2.1
def sRow (x : L6Spot) : Row := x.2.2.1.2.2.2.2.1
def spot1 (P : Nat) (p : List UInt8) (s : Nat) : List L6Spot := if psz p s = 0 then [] else [((P : Int), (s : Int), (cellF (cellP p s)).1, ())]
def spotsPg (P : Nat) (p : List UInt8) : List L6Spot := (List.range (pn p)).flatMap (spot1 P p)
def spotsF (ps : Pgs) : List L6Spot := goI spotsPg 0 ps
def cellG (ps : Pgs) (a b : Int) : CellResult × Bool := match ps[a.toNat]? with
  | some p => if b.toNat < pn p ∧ psz p b.toNat ≠ 0 then cellF (cellP p b.toNat) else (cell0, false)
  | none => (cell0, false)
def okCell (p : List UInt8) (s : Nat) : Bool := decide (psz p s = 0) || (cellF (cellP p s)).2
def pgC (p : List UInt8) : Int := if pageF p = 0 then (if (List.range (pn p)).all (okCell p) then 0 else 5) else pageF p
def stubOk (ps : Pgs) (x : L6Spot) : Bool := !decide (sFlag x = 1) || ((cellG ps (sTp x) (sTs x)).2 && decide ((cellG ps (sTp x) (sTs x)).1.2.1 = 2))
def sTgt (x : L6Spot) : Option (Int × Int) := if sFlag x = 1 then some (sTp x, sTs x) else none
def withRow (x : L6Spot) (r : Row) : L6Spot := (x.1, x.2.1, (x.2.2.1.1, x.2.2.1.2.1, x.2.2.1.2.2.1, x.2.2.1.2.2.2.1, r, x.2.2.1.2.2.2.2.2), x.2.2.2)
def seen1 (ps : Pgs) (x : L6Spot) : L6Spot := if sFlag x = 1 then withRow x (cellG ps (sTp x) (sTs x)).1.2.2.2.2.1 else x
def seenX (ps : Pgs) (x : L6Spot) : List L6Spot := if sFlag x = 2 then [] else [seen1 ps x]
def seenF (ps : Pgs) : List L6Spot := (spotsF ps).flatMap (seenX ps)
def lookC (ps : Pgs) : Int :=
  if (spotsF ps).all (stubOk ps) then
    if ((spotsF ps).filterMap sTgt).Nodup then (if ((seenF ps).map fun x => rk (sRow x)).Nodup then 0 else 8) else 6
  else 4
def viewC (ps : Pgs) : Int := if 12 < ps.length then 2 else if firstF pgC ps = 0 then lookC ps else firstF pgC ps

/-- Right pages. -/
def rightP (ps : Pgs) : Prop := ps.length ≤ 12 ∧ ∀ p ∈ ps, PageOk p
theorem pgC_ok {p : List UInt8} (h : pgC p = 0) : PageOk p ∧ ∀ s, s < pn p → psz p s ≠ 0 → (cellF (cellP p s)).2 = true := by
  unfold pgC at h
  split at h
  · rename_i h1
    split at h
    · rename_i h2
      refine ⟨pageF_iff.1 h1, fun s hs hz => ?_⟩
      have := List.all_eq_true.1 h2 s (List.mem_range.2 hs)
      simpa [okCell, hz] using this
    · cases h
  · rename_i h1; exact absurd h h1
theorem firstF_all {α : Type} {c : α → Int} : ∀ {xs : List α}, firstF c xs = 0 → ∀ x ∈ xs, c x = 0
  | [], _, _, hx => by cases hx
  | y :: xs, h, x, hx => by
    simp only [firstF] at h
    split at h
    · rename_i hy
      rcases List.mem_cons.1 hx with rfl | hx
      · exact hy
      · exact firstF_all h x hx
    · rename_i hy; exact absurd h hy
theorem spotsPg_len {p : List UInt8} (h : PageOk p) (P : Nat) : (spotsPg P p).length ≤ 16 := by
  have : ∀ n, ((List.range n).flatMap (spot1 P p)).length ≤ n := by
    intro n
    induction n with
    | zero => simp
    | succ n ih =>
      rw [List.range_succ, List.flatMap_append, List.length_append]
      have : (([n] : List Nat).flatMap (spot1 P p)).length ≤ 1 := by
        simp only [List.flatMap_cons, List.flatMap_nil, List.append_nil, spot1]
        split <;> simp
      omega
  have h1 := this (pn p)
  have h2 := h.n
  unfold spotsPg; omega
theorem spots_len {ps : Pgs} (h : rightP ps) : (spotsF ps).length ≤ 192 := by
  have := goI_len (g := spotsPg) (n := 16) ps 0 fun i p hp => spotsPg_len (h.2 p hp) i
  unfold spotsF; have := h.1; omega
theorem seen_len {ps : Pgs} (h : rightP ps) : (seenF ps).length ≤ 192 := by
  have : ∀ xs : List L6Spot, (xs.flatMap (seenX ps)).length ≤ xs.length := by
    intro xs
    induction xs with
    | nil => simp
    | cons x xs ih =>
      have : (seenX ps x).length ≤ 1 := by unfold seenX; split <;> simp
      simp only [List.flatMap_cons, List.length_append, List.length_cons]; omega
  have h1 := this (spotsF ps)
  have h2 := spots_len h
  unfold seenF; omega
theorem cellF_nonneg (d : List UInt8) : 0 ≤ (cellF d).1.2.2.1 ∧ 0 ≤ (cellF d).1.2.2.2.1 := by
  unfold cellF
  split
  · exact ⟨Int.natCast_nonneg _, Int.natCast_nonneg _⟩
  · split
    · exact ⟨Int.le_refl _, Int.le_refl _⟩
    · exact ⟨Int.le_refl _, Int.le_refl _⟩
theorem spot_mem {ps : Pgs} {x : L6Spot} : x ∈ spotsF ps ↔ ∃ (P : Nat) (p : List UInt8) (s : Nat), ps[P]? = some p ∧ s < pn p ∧ psz p s ≠ 0 ∧ x = ((P : Int), (s : Int), (cellF (cellP p s)).1, ()) := by
  unfold spotsF
  rw [goI_mem]
  constructor
  · rintro ⟨j, p, h1, h2⟩
    obtain ⟨s, h3, h4⟩ := List.mem_flatMap.1 h2
    unfold spot1 at h4
    split at h4
    · cases h4
    · rename_i hz
      rw [List.mem_singleton] at h4
      rw [Nat.zero_add] at h4
      exact ⟨j, p, s, h1, List.mem_range.1 h3, hz, h4⟩
  · rintro ⟨P, p, s, h1, h2, h3, rfl⟩
    refine ⟨P, p, h1, List.mem_flatMap.2 ⟨s, List.mem_range.2 h2, ?_⟩⟩
    unfold spot1
    rw [if_neg h3, Nat.zero_add]
    exact List.mem_singleton.2 rfl
theorem spot_nonneg {ps : Pgs} {x : L6Spot} (h : x ∈ spotsF ps) : 0 ≤ sTp x ∧ 0 ≤ sTs x := by
  obtain ⟨P, p, s, _, _, _, rfl⟩ := spot_mem.1 h
  exact cellF_nonneg _

/-! The reference's functions. -/
theorem specSpots_eq (ps : Pgs) (h : rightP ps) : spec_l6Spots.sem (ps, ()) = some (spotsF ps, ()) := by
  obtain ⟨hl, hp⟩ := h
  refine lift_eq (k := 100) fun k hk => (spec_l6Spots.raw_eq k _).trans ?_
  have inner : ∀ (self : (Pgs × (List L6Spot) × Int) → Option spec_l6Spots.Out) (e0 : (List L6Spot) → Option spec_l6Spots.Out) (i : Nat) (hi : i < ps.length) (s : List L6Spot), s.length ≤ 1000 → spec_l6Spots.r1 k self e0 (ps, ()) ps (i : Int) (s, (0 : Int)) = self (ps, s ++ spotsPg i ps[i], w64 ((i : Int) + 1)) := fun self e0 i hi s0 hs0 => by
    have hok := hp _ (List.getElem_mem hi)
    have hn := hok.n
    have hlen := hok.len
    have := range_loop (B := fun self' v => spec_l6Spots.B1 k self' (fun z => spec_l6Spots.Q0 k self e0 (ps, ()) ps (i : Int) z) (ps, ()) ps (i : Int) v) (pn ps[i]) (fun (s : List L6Spot) (j : Int) => (s, j)) (fun j s => .inr (s ++ spot1 i ps[i] j)) (fun s => self (ps, s, w64 ((i : Int) + 1))) (fun j s => s.length ≤ 1000 + j) (by omega)
      (fun j hj s self' hI => by
        show spec_l6Spots.b1 _ _ _ _ _ _ = _
        unfold spec_l6Spots.b1 spot1
        have hlt : (j : Int) < (pn ps[i] : Int) := by omega
        simp only [Int.natCast_nonneg, if_true, Int.toNat_natCast, List.getElem?_eq_getElem hi, Option.bind_some, pCount_eq hlen, hlt, decide_true, cond_true, pSize_eq hlen (show j < 16 by omega)]
        by_cases hz : psz ps[i] j = 0
        · have : ¬ ((0 : Int) < (psz ps[i] j : Int)) := by omega
          rw [decide_eq_false this]
          simp only [cond_false, hz, if_true, List.append_nil]
        · have : ((0 : Int) < (psz ps[i] j : Int)) := by omega
          rw [decide_eq_true this]
          simp only [cond_true, specCellAt_eq hok hj, specRead1_eq _ (Nat.le_trans (cellP_small hok hj) (by omega)), Option.bind_some, hz, if_false]
          rw [if_pos (cap_ok (by simp only [List.length_cons, List.length_nil]; omega))])
      (fun j hj s s' hI hf => by
        injection hf with hf
        subst hf
        have : (spot1 i ps[i] j).length ≤ 1 := by unfold spot1; split <;> simp
        rw [List.length_append]; omega) (fun s self' hI => by
        show spec_l6Spots.b1 _ _ _ _ _ _ = _
        unfold spec_l6Spots.b1
        simp only [Int.natCast_nonneg, if_true, Int.toNat_natCast, List.getElem?_eq_getElem hi, Option.bind_some, pCount_eq hlen, Int.lt_irrefl, decide_false, cond_false]
        rfl) s0 (by omega) k (by omega)
    rw [forI_app (spot1 i ps[i])] at this
    exact this
  have := for_loopE (B := fun self v => spec_l6Spots.B0 k self (fun z => spec_l6Spots.Q1 k (ps, ()) z) (ps, ()) v) ps (fun (s : List L6Spot) (i : Int) => (ps, s, i)) (fun i s p => .inr (s ++ spotsPg i p)) (fun s => some (s, ())) (fun i s => s.length ≤ 16 * i) (by rw [maxLen_val]; omega)
    (fun i hi s self hI => by
      show spec_l6Spots.b0 _ _ _ _ _ = _
      unfold spec_l6Spots.b0
      have hlt : (i : Int) < (ps.length : Int) := by omega
      simp only [hlt, decide_true, cond_true, inner self _ i hi s (by omega)])
    (fun i hi s s' hI hf => by
      injection hf with hf
      subst hf
      have := spotsPg_len (hp _ (List.getElem_mem hi)) i
      rw [List.length_append]; omega) (fun s self _ => by
      show spec_l6Spots.b0 _ _ _ _ _ = _
      unfold spec_l6Spots.b0
      simp only [Int.lt_irrefl, decide_false, cond_false]
      rfl) [] (by simp) k (by omega)
  rw [forI_appI] at this
  exact this

theorem specCells_eq (ps : Pgs) (hl : ps.length ≤ 12) (hp : ∀ p ∈ ps, p.length ≤ maxLen) : spec_l6Cells.sem (ps, ()) = some (firstF pgC ps, ()) := by
  refine lift_eq (k := 100) fun k hk => (spec_l6Cells.raw_eq k _).trans ?_
  have inner : ∀ (self : (Pgs × Int) → Option spec_l6Cells.Out) (e0 : Unit → Option spec_l6Cells.Out) (i : Nat) (hi : i < ps.length), PageOk ps[i] → spec_l6Cells.r1 k self e0 (ps, ()) ps (i : Int) (0 : Int) = if (List.range (pn ps[i])).all (okCell ps[i]) then self (ps, w64 ((i : Int) + 1)) else some ((5 : Int), ()) := fun self e0 i hi hok => by
    have hn := hok.n
    have hlen := hok.len
    have := range_loop (B := fun self' v => spec_l6Cells.B1 k self' (fun z => spec_l6Cells.Q0 k self e0 (ps, ()) ps (i : Int) z) (ps, ()) ps (i : Int) v) (pn ps[i]) (fun (_ : Unit) (j : Int) => j) (fun j _ => if okCell ps[i] j then .inr () else .inl (some ((5 : Int), ()))) (fun s => self (ps, w64 ((i : Int) + 1))) (fun _ _ => True) (by omega)
      (fun j hj s self' hI => by
        show spec_l6Cells.b1 _ _ _ _ _ _ = _
        unfold spec_l6Cells.b1 okCell
        have hlt : (j : Int) < (pn ps[i] : Int) := by omega
        simp only [Int.natCast_nonneg, if_true, Int.toNat_natCast, List.getElem?_eq_getElem hi, Option.bind_some, pCount_eq hlen, hlt, decide_true, cond_true, pSize_eq hlen (show j < 16 by omega)]
        by_cases hz : psz ps[i] j = 0
        · have : ¬ ((0 : Int) < (psz ps[i] j : Int)) := by omega
          rw [decide_eq_false this]
          simp only [cond_false, hz, decide_true, Bool.true_or, if_true]
        · have : ((0 : Int) < (psz ps[i] j : Int)) := by omega
          rw [decide_eq_true this]
          simp only [cond_true, specCellAt_eq hok hj, specRead1_eq _ (Nat.le_trans (cellP_small hok hj) (by omega)), Option.bind_some, hz, decide_false, Bool.false_or]
          cases (cellF (cellP ps[i] j)).2 <;> rfl)
      (fun _ _ _ _ _ _ => trivial) (fun s self' hI => by
        show spec_l6Cells.b1 _ _ _ _ _ _ = _
        unfold spec_l6Cells.b1
        simp only [Int.natCast_nonneg, if_true, Int.toNat_natCast, List.getElem?_eq_getElem hi, Option.bind_some, pCount_eq hlen, Int.lt_irrefl, decide_false, cond_false]
        rfl) () trivial k (by omega)
    rw [forI_checkN] at this
    exact this
  have := for_loopE (B := fun self v => spec_l6Cells.B0 k self (fun z => spec_l6Cells.Q1 k (ps, ()) z) (ps, ()) v) ps (fun (_ : Unit) (i : Int) => (ps, i)) (fun i _ p => if pgC p = 0 then .inr () else .inl (some (pgC p, ()))) (fun _ => some ((0 : Int), ())) (fun _ _ => True) (by rw [maxLen_val]; omega)
    (fun i hi s self hI => by
      show spec_l6Cells.b0 _ _ _ _ _ = _
      unfold spec_l6Cells.b0 pgC
      have hlt : (i : Int) < (ps.length : Int) := by omega
      simp only [hlt, decide_true, cond_true, Int.natCast_nonneg, if_true, Int.toNat_natCast, List.getElem?_eq_getElem hi, Option.bind_some, specPage_eq _ (hp _ (List.getElem_mem hi))]
      by_cases h0 : pageF ps[i] = 0
      · rw [decide_eq_true h0]
        simp only [Bool.not_true, cond_false, inner self _ i hi (pageF_iff.1 h0), h0, if_true]
        by_cases hc : (List.range (pn ps[i])).all (okCell ps[i]) = true
        · simp only [hc, if_true]
        · simp only [hc, Bool.false_eq_true, if_false]
          rfl
      · rw [decide_eq_false h0]
        simp only [Bool.not_false, cond_true, h0, if_false])
    (fun _ _ _ _ _ _ => trivial) (fun s self _ => by
      show spec_l6Cells.b0 _ _ _ _ _ = _
      unfold spec_l6Cells.b0
      simp only [Int.lt_irrefl, decide_false, cond_false]
      rfl) () trivial k (by omega)
  rw [forI_first pgC (fun c => some (c, ())) (fun _ => some ((0 : Int), ()))] at this
  refine Eq.trans this ?_
  split
  · rename_i h; rw [h]
  · rfl

theorem specCell6_eq (ps : Pgs) (h : rightP ps) (a b : Int) (ha : 0 ≤ a) (hb : 0 ≤ b) : spec_l6Cell.sem (ps, a, b, ()) = some ((cellG ps a b).1, (cellG ps a b).2, ()) := by
  obtain ⟨hl, hp⟩ := h
  obtain ⟨a, rfl⟩ := Int.eq_ofNat_of_zero_le ha
  obtain ⟨b, rfl⟩ := Int.eq_ofNat_of_zero_le hb
  refine lift_eq (k := 0) fun k hk => (spec_l6Cell.raw_eq k _).trans ?_
  show spec_l6Cell.p _ = _
  unfold spec_l6Cell.p cellG
  have hw : w64 ((ps.length : Int) - 1) = (ps.length : Int) - 1 := w64_in (by omega)
  have h0 : decide ((0 : Int) ≤ (a : Int)) = true := decide_eq_true (by omega)
  have h1 : decide ((a : Int) ≤ (ps.length : Int) - 1) = decide (a < ps.length) := by rw [decide_eq_decide]; omega
  simp only [specIn_eq, hw, h0, h1, Option.bind_some, Bool.true_and, Int.toNat_natCast]
  by_cases hal : a < ps.length
  rotate_left
  · rw [decide_eq_false hal, List.getElem?_eq_none (by omega)]
    rfl
  rw [decide_eq_true hal]
  have hok := hp _ (List.getElem_mem hal)
  simp only [Bool.not_true, cond_false, Int.natCast_nonneg, if_true, List.getElem?_eq_getElem hal, Option.bind_some, specHas_eq hok]
  by_cases hc : b < pn ps[a] ∧ psz ps[a] b ≠ 0
  · rw [decide_eq_true hc.1, decide_eq_false hc.2, if_pos hc]
    simp only [Bool.not_false, Bool.and_self, Bool.not_true, cond_false, specCellAt_eq hok hc.1, specRead1_eq _ (Nat.le_trans (cellP_small hok hc.1) (by omega)), Option.bind_some]
  · rw [if_neg hc]
    have : (decide (b < pn ps[a]) && !decide (psz ps[a] b = 0)) = false := by
      rw [Bool.and_eq_false_iff]
      by_cases h2 : b < pn ps[a]
      · right
        have : psz ps[a] b = 0 := by
          by_cases h3 : psz ps[a] b = 0
          · exact h3
          · exact absurd ⟨h2, h3⟩ hc
        rw [decide_eq_true this]; rfl
      · left; exact decide_eq_false h2
    rw [this]
    rfl

theorem specStubs_eq (ps : Pgs) (h : rightP ps) : spec_l6Stubs.sem (spotsF ps, ps, ()) = some (if (spotsF ps).all (stubOk ps) then (if ((spotsF ps).filterMap sTgt).Nodup then 0 else 6) else 4, ()) := by
  have hsl := spots_len h
  have hnn : ∀ x ∈ spotsF ps, 0 ≤ sTp x ∧ 0 ≤ sTs x := fun x hx => spot_nonneg hx
  generalize spotsF ps = xs at hsl hnn ⊢
  refine lift_eq (k := 300) fun k hk => (spec_l6Stubs.raw_eq k _).trans ?_
  have inner : ∀ (self : (List L6Spot × Int) → Option spec_l6Stubs.Out) (e2 : Unit → Option spec_l6Stubs.Out) (i : Nat) (hi : i < xs.length), spec_l6Stubs.r2 k self e2 (xs, ps, ()) xs (i : Int) (0 : Int) = if (xs.take i).any (fun y => decide (sFlag xs[i] = 1) && (decide (sFlag y = 1) && (decide (sTp xs[i] = sTp y) && decide (sTs xs[i] = sTs y)))) then some ((6 : Int), ()) else self (xs, w64 ((i : Int) + 1)) := fun self e2 i hi => by
    have hti : (xs.take i).length = i := by rw [List.length_take]; omega
    have := for_loopE (B := fun self' v => spec_l6Stubs.B2 k self' (fun z => spec_l6Stubs.Q1 k self e2 (xs, ps, ()) xs (i : Int) z) (xs, ps, ()) xs (i : Int) v) (xs.take i) (fun (_ : Unit) (j : Int) => j) (fun _ _ y => if decide (sFlag xs[i] = 1) && (decide (sFlag y = 1) && (decide (sTp xs[i] = sTp y) && decide (sTs xs[i] = sTs y))) then .inl (some ((6 : Int), ())) else .inr ()) (fun _ => self (xs, w64 ((i : Int) + 1))) (fun _ _ => True) (by rw [maxLen_val]; omega)
      (fun j hj s self' _ => by
        have hji : j < i := by omega
        have hj2 : j < xs.length := by omega
        show spec_l6Stubs.b2 _ _ _ _ _ _ = _
        unfold spec_l6Stubs.b2
        have hlt : (j : Int) < (i : Int) := by omega
        have hg : (xs.take i)[j] = xs[j] := List.getElem_take
        rw [hg]
        simp only [hlt, decide_true, cond_true, Int.natCast_nonneg, if_true, Int.toNat_natCast, List.getElem?_eq_getElem hi, List.getElem?_eq_getElem hj2, Option.bind_some]
        show (bif decide (sFlag xs[i] = 1) then bif decide (sFlag xs[j] = 1) then bif decide (sTp xs[i] = sTp xs[j]) then bif decide (sTs xs[i] = sTs xs[j]) then _ else _ else _ else _ else _) = _
        cases decide (sFlag xs[i] = 1) <;> cases decide (sFlag xs[j] = 1) <;> cases decide (sTp xs[i] = sTp xs[j]) <;> cases decide (sTs xs[i] = sTs xs[j]) <;> rfl)
      (fun _ _ _ _ _ _ => trivial) (fun s self' _ => by
        rw [hti]
        show spec_l6Stubs.b2 _ _ _ _ _ _ = _
        unfold spec_l6Stubs.b2
        simp only [Int.lt_irrefl, decide_false, cond_false]
        rfl) () trivial k (by omega)
    rw [forI_any] at this
    exact this
  have second : spec_l6Stubs.r1 k (xs, ps, ()) (xs, (0 : Int)) = if (xs.filterMap sTgt).Nodup then some ((0 : Int), ()) else some ((6 : Int), ()) := by
    have := for_loopE (B := fun self v => spec_l6Stubs.B1 k self (fun z => spec_l6Stubs.Q2 k (xs, ps, ()) z) (xs, ps, ()) v) xs (fun (_ : Unit) (i : Int) => (xs, i)) (fun i _ x => if (xs.take i).any (fun y => decide (sFlag x = 1) && (decide (sFlag y = 1) && (decide (sTp x = sTp y) && decide (sTs x = sTs y)))) then .inl (some ((6 : Int), ())) else .inr ()) (fun _ => some ((0 : Int), ())) (fun _ _ => True) (by rw [maxLen_val]; omega)
      (fun i hi s self _ => by
        show spec_l6Stubs.b1 _ _ _ _ _ = _
        unfold spec_l6Stubs.b1
        have hlt : (i : Int) < (xs.length : Int) := by omega
        simp only [hlt, decide_true, cond_true, inner self _ i hi]
        split <;> rfl)
      (fun _ _ _ _ _ _ => trivial) (fun s self _ => by
        show spec_l6Stubs.b1 _ _ _ _ _ = _
        unfold spec_l6Stubs.b1
        simp only [Int.lt_irrefl, decide_false, cond_false]
        rfl) () trivial k (by omega)
    rw [forI_dup0 sTgt (some ((6 : Int), ())) (fun _ => some ((0 : Int), ())) (fun x y => decide (sFlag x = 1) && (decide (sFlag y = 1) && (decide (sTp x = sTp y) && decide (sTs x = sTs y)))) (fun x y => ?_) xs] at this
    · exact this
    · unfold sTgt
      simp only [Bool.and_eq_true, decide_eq_true_eq]
      constructor
      · rintro ⟨h1, h2, h3, h4⟩
        exact ⟨(sTp x, sTs x), by rw [if_pos h1], by rw [if_pos h2, h3, h4]⟩
      · rintro ⟨b, h1, h2⟩
        by_cases c1 : sFlag x = 1
        · by_cases c2 : sFlag y = 1
          · rw [if_pos c1] at h1
            rw [if_pos c2] at h2
            injection h1 with h1
            injection h2 with h2
            rw [← h2] at h1
            injection h1 with h3 h4
            exact ⟨c1, c2, h3, h4⟩
          · rw [if_neg c2] at h2; cases h2
        · rw [if_neg c1] at h1; cases h1
  have := for_loopE (B := fun self v => spec_l6Stubs.B0 k self (fun z => spec_l6Stubs.Q0 k (xs, ps, ()) z) (xs, ps, ()) v) xs (fun (_ : Unit) (i : Int) => i) (fun i _ x => if stubOk ps x then .inr () else .inl (some ((4 : Int), ()))) (fun _ => spec_l6Stubs.r1 k (xs, ps, ()) (xs, (0 : Int))) (fun _ _ => True) (by rw [maxLen_val]; omega)
    (fun i hi s self _ => by
      show spec_l6Stubs.b0 _ _ _ _ = _
      unfold spec_l6Stubs.b0 stubOk
      have hlt : (i : Int) < (xs.length : Int) := by omega
      obtain ⟨g1, g2⟩ := hnn _ (List.getElem_mem hi)
      have hcc : spec_l6Cell.sem (ps, (xs[i]).2.2.1.2.2.1, (xs[i]).2.2.1.2.2.2.1, ()) = some ((cellG ps (sTp xs[i]) (sTs xs[i])).1, (cellG ps (sTp xs[i]) (sTs xs[i])).2, ()) := specCell6_eq ps h _ _ g1 g2
      simp only [hlt, decide_true, cond_true, Int.natCast_nonneg, if_true, Int.toNat_natCast, List.getElem?_eq_getElem hi, Option.bind_some, hcc]
      show (bif !decide (sFlag xs[i] = 1) then _ else _) = _
      cases decide (sFlag xs[i] = 1) <;> cases (cellG ps (sTp xs[i]) (sTs xs[i])).2 <;> cases decide ((cellG ps (sTp xs[i]) (sTs xs[i])).1.2.1 = 2) <;> rfl)
    (fun _ _ _ _ _ _ => trivial) (fun s self _ => by
      show spec_l6Stubs.b0 _ _ _ _ = _
      unfold spec_l6Stubs.b0
      simp only [Int.lt_irrefl, decide_false, cond_false]
      rfl) () trivial k (by omega)
  rw [forI_check (stubOk ps) (some ((4 : Int), ())) (fun _ => spec_l6Stubs.r1 k (xs, ps, ()) (xs, (0 : Int)))] at this
  refine Eq.trans this ?_
  rw [second]
  split
  · split <;> rfl
  · rfl

theorem specSeen_eq (ps : Pgs) (h : rightP ps) : spec_l6Seen.sem (ps, ()) = some (seenF ps, ()) := by
  refine lift_eq (k := 300) fun k hk => (spec_l6Seen.raw_eq k _).trans ?_
  unfold spec_l6Seen.raw spec_l6Seen.p
  rw [specSpots_eq ps h]
  simp only [Option.bind_some]
  have hsl := spots_len h
  have hnn : ∀ x ∈ spotsF ps, 0 ≤ sTp x ∧ 0 ≤ sTs x := fun x hx => spot_nonneg hx
  unfold seenF
  generalize spotsF ps = xs at hsl hnn ⊢
  have := for_loopE (B := fun self v => spec_l6Seen.B0 k self (fun z => spec_l6Seen.Q0 k (ps, ()) xs z) (ps, ()) xs v) xs (fun (s : List L6Spot) (i : Int) => (s, i)) (fun i s x => .inr (s ++ seenX ps x)) (fun s => some (s, ())) (fun i s => s.length ≤ i) (by rw [maxLen_val]; omega)
    (fun i hi s self hI => by
      show spec_l6Seen.b0 _ _ _ _ _ = _
      unfold spec_l6Seen.b0 seenX
      have hlt : (i : Int) < (xs.length : Int) := by omega
      obtain ⟨g1, g2⟩ := hnn _ (List.getElem_mem hi)
      have hcc : spec_l6Cell.sem (ps, (xs[i]).2.2.1.2.2.1, (xs[i]).2.2.1.2.2.2.1, ()) = some ((cellG ps (sTp xs[i]) (sTs xs[i])).1, (cellG ps (sTp xs[i]) (sTs xs[i])).2, ()) := specCell6_eq ps h _ _ g1 g2
      have hcap : ∀ y : L6Spot, s.length + [y].length ≤ CAP := fun y => cap_ok (by simp only [List.length_cons, List.length_nil]; omega)
      simp only [hlt, decide_true, cond_true, Int.natCast_nonneg, and_self, if_true, Int.toNat_natCast, List.getElem?_eq_getElem hi, Option.bind_some, hcc, hcap]
      show (bif decide (sFlag xs[i] = 2) then _ else bif decide (sFlag xs[i] = 1) then _ else _) = _
      unfold seen1
      by_cases c2 : sFlag xs[i] = 2
      · simp only [c2, decide_true, cond_true, if_true, List.append_nil]
      · by_cases c1 : sFlag xs[i] = 1
        · simp only [c1, c2, decide_true, decide_false, cond_true, cond_false, if_true, if_false]
          rfl
        · simp only [c1, c2, decide_false, cond_false, if_false])
    (fun i hi s s' hI hf => by
      injection hf with hf
      subst hf
      have : (seenX ps xs[i]).length ≤ 1 := by unfold seenX; split <;> simp
      rw [List.length_append]; omega) (fun s self _ => by
      show spec_l6Seen.b0 _ _ _ _ _ = _
      unfold spec_l6Seen.b0
      simp only [Int.lt_irrefl, decide_false, cond_false]
      rfl) [] (by simp) k (by omega)
  rw [forI_app (seenX ps)] at this
  exact this

def sKey (x : L6Spot) : Option (Int × Int) := some (rk (sRow x))
theorem specView_eq (ps : Pgs) (hp : ∀ p ∈ ps, p.length ≤ maxLen) : spec_l6Fault.sem (ps, ()) = some (viewC ps, ()) := by
  refine lift_eq (k := 300) fun k hk => (spec_l6Fault.raw_eq k _).trans ?_
  unfold spec_l6Fault.raw spec_l6Fault.p viewC
  by_cases hl : 12 < ps.length
  · have : (12 : Int) < (ps.length : Int) := by omega
    simp only [this, decide_true, cond_true, hl, if_true]
  have hl' : ¬ ((12 : Int) < (ps.length : Int)) := by omega
  simp only [hl', decide_false, cond_false, hl, if_false, specCells_eq ps (by omega) hp, Option.bind_some]
  by_cases hc : firstF pgC ps = 0
  rotate_left
  · simp only [hc, decide_false, Bool.not_false, cond_true, if_false]
  have h : rightP ps := ⟨by omega, fun p hp => (pgC_ok (firstF_all hc p hp)).1⟩
  simp only [hc, decide_true, Bool.not_true, cond_false, if_true, specSpots_eq ps h, specStubs_eq ps h, specSeen_eq ps h, Option.bind_some]
  unfold lookC
  by_cases h1 : (spotsF ps).all (stubOk ps) = true
  rotate_left
  · simp only [h1, Bool.false_eq_true, if_false]
    rfl
  by_cases h2 : ((spotsF ps).filterMap sTgt).Nodup
  rotate_left
  · simp only [h1, h2, if_true, if_false]
    rfl
  simp only [h1, h2, if_true, decide_true, Bool.not_true, cond_false]
  have hsl := seen_len h
  generalize seenF ps = xs at hsl ⊢
  have inner : ∀ (self : (List L6Spot × Int) → Option spec_l6Fault.Out) (e0 : Unit → Option spec_l6Fault.Out) (i : Nat) (hi : i < xs.length), spec_l6Fault.r1 k self e0 (ps, ()) xs (i : Int) (0 : Int) = if (xs.take i).any (fun y => decide ((sRow xs[i]).1 = (sRow y).1) && decide ((sRow xs[i]).2.1 = (sRow y).2.1)) then some ((8 : Int), ()) else self (xs, w64 ((i : Int) + 1)) := fun self e0 i hi => by
    have hti : (xs.take i).length = i := by rw [List.length_take]; omega
    have := for_loopE (B := fun self' v => spec_l6Fault.B1 k self' (fun z => spec_l6Fault.Q0 k self e0 (ps, ()) xs (i : Int) z) (ps, ()) xs (i : Int) v) (xs.take i) (fun (_ : Unit) (j : Int) => j) (fun _ _ y => if decide ((sRow xs[i]).1 = (sRow y).1) && decide ((sRow xs[i]).2.1 = (sRow y).2.1) then .inl (some ((8 : Int), ())) else .inr ()) (fun _ => self (xs, w64 ((i : Int) + 1))) (fun _ _ => True) (by rw [maxLen_val]; omega)
      (fun j hj s self' _ => by
        have hji : j < i := by omega
        have hj2 : j < xs.length := by omega
        show spec_l6Fault.b1 _ _ _ _ _ _ = _
        unfold spec_l6Fault.b1
        have hlt : (j : Int) < (i : Int) := by omega
        have hlt1 : (i : Int) < (xs.length : Int) := by omega
        have hlt2 : (j : Int) < (xs.length : Int) := by omega
        have hg : (xs.take i)[j] = xs[j] := List.getElem_take
        rw [hg]
        simp only [hlt, hlt1, hlt2, decide_true, cond_true, Int.natCast_nonneg, and_self, if_true, Int.toNat_natCast, List.getElem?_eq_getElem hi, List.getElem?_eq_getElem hj2, Option.bind_some]
        show (bif decide ((sRow xs[i]).1 = (sRow xs[j]).1) then bif decide ((sRow xs[i]).2.1 = (sRow xs[j]).2.1) then _ else _ else _) = _
        cases decide ((sRow xs[i]).1 = (sRow xs[j]).1) <;> cases decide ((sRow xs[i]).2.1 = (sRow xs[j]).2.1) <;> rfl)
      (fun _ _ _ _ _ _ => trivial) (fun s self' _ => by
        rw [hti]
        show spec_l6Fault.b1 _ _ _ _ _ _ = _
        unfold spec_l6Fault.b1
        simp only [Int.lt_irrefl, decide_false, cond_false]
        rfl) () trivial k (by omega)
    rw [forI_any] at this
    exact this
  have := for_loopE (B := fun self v => spec_l6Fault.B0 k self (fun z => spec_l6Fault.Q1 k (ps, ()) z) (ps, ()) v) xs (fun (_ : Unit) (i : Int) => (xs, i)) (fun i _ x => if (xs.take i).any (fun y => decide ((sRow x).1 = (sRow y).1) && decide ((sRow x).2.1 = (sRow y).2.1)) then .inl (some ((8 : Int), ())) else .inr ()) (fun _ => some ((0 : Int), ())) (fun _ _ => True) (by rw [maxLen_val]; omega)
    (fun i hi s self _ => by
      show spec_l6Fault.b0 _ _ _ _ _ = _
      unfold spec_l6Fault.b0
      have hlt : (i : Int) < (xs.length : Int) := by omega
      simp only [hlt, decide_true, cond_true, inner self _ i hi]
      split <;> rfl)
    (fun _ _ _ _ _ _ => trivial) (fun s self _ => by
      show spec_l6Fault.b0 _ _ _ _ _ = _
      unfold spec_l6Fault.b0
      simp only [Int.lt_irrefl, decide_false, cond_false]
      rfl) () trivial k (by omega)
  rw [forI_dup0 sKey (some ((8 : Int), ())) (fun _ => some ((0 : Int), ())) (fun x y => decide ((sRow x).1 = (sRow y).1) && decide ((sRow x).2.1 = (sRow y).2.1)) (fun x y => ?_) xs] at this
  · refine Eq.trans this ?_
    have : xs.filterMap sKey = xs.map fun x => rk (sRow x) := by
      unfold sKey
      rw [← List.filterMap_eq_map]
      rfl
    rw [this]
    split <;> rfl
  · unfold sKey rk
    simp only [Bool.and_eq_true, decide_eq_true_eq]
    constructor
    · rintro ⟨h1, h2⟩; exact ⟨_, rfl, by rw [h1, h2]⟩
    · rintro ⟨b, h1, h2⟩
      injection h1 with h1
      injection h2 with h2
      rw [← h2] at h1
      injection h1 with h3 h4
      exact ⟨h3, h4⟩
end OT

set_option linter.unusedVariables false
set_option linter.unusedSimpArgs false
namespace OT
open Go Go.Sort

/-! Keys of two numbers. -/
abbrev tK2 : Ty := .arr 2 i64
theorem key2_eq (a b c d : Int) : Ty.eq tK2 [a, b] [c, d] = (decide (a = c) && decide (b = d)) := by
  show ([(a, c), (b, d)] : List (Int × Int)).all (fun p => Ty.eq i64 p.1 p.2) = _
  simp only [List.all_cons, List.all_nil, Bool.and_true]
  rfl
theorem key2_lay (a b : Int) : ((List.replicate 2 (0 : Int)).set 0 a).set 1 b = [a, b] := rfl
theorem mapPut_fresh {α : Type} (k : Ty) (m : List (k.den × α)) (x : k.den) (y : α) (h : ∀ e ∈ m, k.eq x e.1 = false) : mapPut k m x y = m ++ [(x, y)] := by
  have : m.findIdx? (fun e => k.eq x e.1) = none := by
    rw [List.findIdx?_eq_none_iff]
    exact h
  unfold mapPut
  rw [this]

/-! What is gathered of a spot. -/
def rowsOf1 (x : L6Spot) : List Seen := if sFlag x = 0 then [(sRow x, x.1, x.2.1, false, x.1, x.2.1, ())] else []
def stubOf1 (x : L6Spot) : List Seen := if sFlag x = 1 then [(row0, x.1, x.2.1, true, sTp x, sTs x, ())] else []
def movOf1 (x : L6Spot) : List (List Int × Row) := if sFlag x = 2 then [([x.1, x.2.1], sRow x)] else []
theorem cellF_flag (d : List UInt8) : (cellF d).2 = true → (cellF d).1.1 = 0 ∧ ((cellF d).1.2.1 = 0 ∨ (cellF d).1.2.1 = 1 ∨ (cellF d).1.2.1 = 2) := by
  unfold cellF
  split
  · intro _; exact ⟨rfl, .inr (.inl rfl)⟩
  · split
    · intro h; cases h
    · rename_i h
      intro _
      refine ⟨rfl, ?_⟩
      show ((pb d 0 : Int) = 0 ∨ (pb d 0 : Int) = 1 ∨ (pb d 0 : Int) = 2)
      omega
/-- All cells read. -/
def cellsOk (ps : Pgs) : Prop := rightP ps ∧ ∀ p ∈ ps, ∀ s, s < pn p → psz p s ≠ 0 → (cellF (cellP p s)).2 = true
theorem cells_of {ps : Pgs} (hl : ps.length ≤ 12) (h : firstF pgC ps = 0) : cellsOk ps :=
  ⟨⟨hl, fun p hp => (pgC_ok (firstF_all h p hp)).1⟩, fun p hp => (pgC_ok (firstF_all h p hp)).2⟩
theorem spot_flag {ps : Pgs} (h : cellsOk ps) {x : L6Spot} (hx : x ∈ spotsF ps) : sFlag x = 0 ∨ sFlag x = 1 ∨ sFlag x = 2 := by
  obtain ⟨P, p, s, h1, h2, h3, rfl⟩ := spot_mem.1 hx
  exact (cellF_flag _ (h.2 p (List.mem_of_getElem? h1) s h2 h3)).2
theorem gather_len (S : List L6Spot) : (S.flatMap rowsOf1).length ≤ S.length ∧ (S.flatMap stubOf1).length ≤ S.length := by
  induction S with
  | nil => exact ⟨Nat.le_refl _, Nat.le_refl _⟩
  | cons x S ih =>
    have h1 : (rowsOf1 x).length ≤ 1 := by unfold rowsOf1; split <;> simp
    have h2 : (stubOf1 x).length ≤ 1 := by unfold stubOf1; split <;> simp
    simp only [List.flatMap_cons, List.length_append, List.length_cons]
    omega

/-- Lookups among what was moved. -/
theorem mov_get {ps : Pgs} (h : cellsOk ps) (a b : Int) (ha : 0 ≤ a) (hb : 0 ≤ b) : mapGet tK2 ((spotsF ps).flatMap movOf1) [a, b] = if (cellG ps a b).2 && decide ((cellG ps a b).1.2.1 = 2) then some (cellG ps a b).1.2.2.2.2.1 else none := by
  obtain ⟨a, rfl⟩ := Int.eq_ofNat_of_zero_le ha
  obtain ⟨b, rfl⟩ := Int.eq_ofNat_of_zero_le hb
  unfold mapGet
  -- what stands at a place
  have at_ : ∀ x ∈ spotsF ps, x.1 = (a : Int) → x.2.1 = (b : Int) → cellG ps (a : Int) (b : Int) = (x.2.2.1, true) := fun x hx e1 e2 => by
    obtain ⟨P, p, s, h1, h2, h3, rfl⟩ := spot_mem.1 hx
    have e1 : (P : Int) = (a : Int) := e1
    have e2 : (s : Int) = (b : Int) := e2
    have e1 : P = a := by omega
    have e2 : s = b := by omega
    subst e1; subst e2
    unfold cellG
    simp only [Int.toNat_natCast, h1]
    rw [if_pos ⟨h2, h3⟩]
    have := h.2 p (List.mem_of_getElem? h1) s h2 h3
    rw [← this]
  cases hf : ((spotsF ps).flatMap movOf1).find? (fun e => Ty.eq tK2 [(a : Int), (b : Int)] e.1) with
  | some e =>
    have hm := List.mem_of_find?_eq_some hf
    have hp := List.find?_some hf
    obtain ⟨x, hx, hxe⟩ := List.mem_flatMap.1 hm
    unfold movOf1 at hxe
    split at hxe
    · rename_i h2
      rw [List.mem_singleton] at hxe
      subst hxe
      rw [key2_eq, Bool.and_eq_true, decide_eq_true_eq, decide_eq_true_eq] at hp
      have hg := at_ x hx hp.1.symm hp.2.symm
      rw [hg]
      have : (x.2.2.1).2.1 = 2 := h2
      simp only [this, decide_true, Bool.and_self, if_true, Option.map_some]
      rfl
    · cases hxe
  | none =>
    rw [if_neg]
    · rfl
    · intro hc
      rw [Bool.and_eq_true, decide_eq_true_eq] at hc
      obtain ⟨c1, c2⟩ := hc
      -- there is such a spot
      have : ∃ x ∈ spotsF ps, x.1 = (a : Int) ∧ x.2.1 = (b : Int) ∧ sFlag x = 2 := by
        unfold cellG at c1 c2
        simp only [Int.toNat_natCast] at c1 c2
        cases hpa : ps[a]? with
        | none => rw [hpa] at c1; cases c1
        | some p =>
          rw [hpa] at c1 c2
          simp only at c1 c2
          by_cases hc : b < pn p ∧ psz p b ≠ 0
          · rw [if_pos hc] at c2
            exact ⟨_, spot_mem.2 ⟨a, p, b, hpa, hc.1, hc.2, rfl⟩, rfl, rfl, c2⟩
          · rw [if_neg hc] at c1; cases c1
      obtain ⟨x, hx, e1, e2, e3⟩ := this
      have hm : ([x.1, x.2.1], sRow x) ∈ (spotsF ps).flatMap movOf1 := List.mem_flatMap.2 ⟨x, hx, by unfold movOf1; rw [if_pos e3]; exact List.mem_singleton.2 rfl⟩
      have := List.find?_eq_none.1 hf _ hm
      rw [key2_eq, e1, e2] at this
      simp at this

/-! Seen rows in the program's form. -/
def convS (x : L6Spot) : Seen := (sRow x, x.1, x.2.1, decide (sFlag x = 1), (if sFlag x = 1 then sTp x else x.1), (if sFlag x = 1 then sTs x else x.2.1), ())
def fillS (ps : Pgs) (y : Seen) : Seen := (orZ (mapGet tK2 ((spotsF ps).flatMap movOf1) [y.2.2.2.2.1, y.2.2.2.2.2.1]) row0, y.2)
def listV (ps : Pgs) : List Seen := (spotsF ps).flatMap rowsOf1 ++ ((spotsF ps).flatMap stubOf1).map (fillS ps)
theorem listV_perm {ps : Pgs} (h : cellsOk ps) (hs : (spotsF ps).all (stubOk ps) = true) : (listV ps).Perm ((seenF ps).map convS) := by
  unfold listV seenF
  have hall := List.all_eq_true.1 hs
  have hfl : ∀ x ∈ spotsF ps, sFlag x = 0 ∨ sFlag x = 1 ∨ sFlag x = 2 := fun x hx => spot_flag h hx
  have hnn : ∀ x ∈ spotsF ps, 0 ≤ sTp x ∧ 0 ≤ sTs x := fun x hx => spot_nonneg hx
  have key : ∀ S : List L6Spot, (∀ x ∈ S, x ∈ spotsF ps) → (S.flatMap rowsOf1 ++ (S.flatMap stubOf1).map (fillS ps)).Perm ((S.flatMap (seenX ps)).map convS) := by
    intro S
    induction S with
    | nil => intro _; exact List.Perm.refl _
    | cons x S ih =>
      intro hS
      have ih := ih fun y hy => hS y (List.mem_cons_of_mem _ hy)
      have hx := hS x List.mem_cons_self
      simp only [List.flatMap_cons, List.map_append]
      rcases hfl x hx with h0 | h1 | h2
      · have e1 : rowsOf1 x = [convS (seen1 ps x)] := by
          unfold rowsOf1 convS seen1
          have n1 : ¬ sFlag x = 1 := by omega
          rw [if_pos h0, if_neg n1, if_neg n1, if_neg n1, decide_eq_false n1]
        have e2 : stubOf1 x = [] := by unfold stubOf1; rw [if_neg (by omega)]
        have e3 : seenX ps x = [seen1 ps x] := by unfold seenX; rw [if_neg (by omega)]
        rw [e1, e2, e3]
        simp only [List.map_nil, List.nil_append, List.map_cons, List.cons_append]
        exact List.Perm.cons _ ih
      · have e1 : rowsOf1 x = [] := by unfold rowsOf1; rw [if_neg (by omega)]
        have e3 : seenX ps x = [seen1 ps x] := by unfold seenX; rw [if_neg (by omega)]
        have e2 : (stubOf1 x).map (fillS ps) = [convS (seen1 ps x)] := by
          unfold stubOf1
          rw [if_pos h1]
          simp only [List.map_cons, List.map_nil]
          obtain ⟨g1, g2⟩ := hnn x hx
          have hst := hall x hx
          unfold stubOk at hst
          rw [decide_eq_true h1] at hst
          simp only [Bool.not_true, Bool.false_or] at hst
          have hg := mov_get h (sTp x) (sTs x) g1 g2
          rw [if_pos hst] at hg
          unfold fillS
          simp only [hg, orZ]
          unfold seen1
          rw [if_pos h1]
          have hfl1 : sFlag (withRow x (cellG ps (sTp x) (sTs x)).1.2.2.2.2.1) = 1 := h1
          unfold convS
          rw [if_pos hfl1, if_pos hfl1, decide_eq_true hfl1]
          rfl
        rw [e1, e2, e3]
        simp only [List.nil_append, List.map_cons, List.map_nil, List.cons_append]
        exact (List.perm_middle).trans (List.Perm.cons _ ih)
      · have e1 : rowsOf1 x = [] := by unfold rowsOf1; rw [if_neg (by omega)]
        have e2 : stubOf1 x = [] := by unfold stubOf1; rw [if_neg (by omega)]
        have e3 : seenX ps x = [] := by unfold seenX; rw [if_pos h2]
        rw [e1, e2, e3]
        simpa using ih
  exact key (spotsF ps) fun x hx => hx

/-! Sorting. -/
def ltS (x y : Seen) : Bool := befB (rk x.1) (rk y.1)
def cfS (x y : Seen) : Int := if befB (x.1.1, x.1.2.1) (y.1.1, y.1.2.1) then -1 else if befB (y.1.1, y.1.2.1) (x.1.1, x.1.2.1) then 1 else 0
theorem cfS_lt : Go.Proofs.ltOf cfS = ltS := by
  funext x y
  exact ord_lt x.1 y.1
theorem look1_eq (x y : Seen) : impl_look_1.sem (x, y, ()) = some (cfS x y, ()) := by
  refine lift_eq (k := 0) fun k hk => (impl_look_1.raw_eq k _).trans ?_
  show impl_look_1.p _ = _
  unfold impl_look_1.p
  rw [order_eq]
  rfl
theorem swoS : SWO ltS where
  irrefl x := befB_irr _
  trans x y z h1 h2 := befB_trans h1 h2
  ntrans x y z h1 h2 := by
    cases h3 : ltS x z with
    | false => rfl
    | true =>
      unfold ltS at h1 h2 h3
      cases h4 : befB (rk y.1) (rk x.1) with
      | true =>
        have := befB_trans h4 h3
        rw [this] at h2; cases h2
      | false =>
        have := befB_tri h1 h4
        rw [this] at h3
        rw [h3] at h2; cases h2
def putS (xs : List Seen) (x : Seen) : List Seen := xs.take (pos (xs.map (·.1)) (rk x.1)) ++ [x] ++ xs.drop (pos (xs.map (·.1)) (rk x.1))
def sortS (l : List Seen) : List Seen := l.foldl putS []
theorem putS_map (xs : List Seen) (x : Seen) : (putS xs x).map (·.1) = put1 (xs.map (·.1)) x.1 := by
  unfold putS put1
  simp only [List.map_append, List.map_take, List.map_drop, List.map_cons, List.map_nil]
theorem putS_perm (xs : List Seen) (x : Seen) : (putS xs x).Perm (x :: xs) := by
  unfold putS
  rw [List.append_assoc]
  have := List.perm_middle (a := x) (l₁ := xs.take (pos (xs.map (·.1)) (rk x.1))) (l₂ := xs.drop (pos (xs.map (·.1)) (rk x.1)))
  rw [List.take_append_drop] at this
  exact this
theorem sortS_map (l : List Seen) : (sortS l).map (·.1) = sortR (l.map (·.1)) := by
  have main : ∀ (l acc : List Seen), (l.foldl putS acc).map (·.1) = (l.map (·.1)).foldl put1 (acc.map (·.1)) := by
    intro l
    induction l with
    | nil => intro acc; rfl
    | cons x l ih => intro acc; simp only [List.foldl_cons, List.map_cons, ih, putS_map]
  exact main l []
theorem sortS_perm (l : List Seen) : (sortS l).Perm l := by
  have main : ∀ (l acc : List Seen), (l.foldl putS acc).Perm (l ++ acc) := by
    intro l
    induction l with
    | nil => intro acc; exact List.Perm.refl _
    | cons x l ih =>
      intro acc
      exact (ih (putS acc x)).trans (((List.Perm.refl l).append (putS_perm acc x)).trans List.perm_middle)
  have := main l []
  rw [List.append_nil] at this
  exact this
def upS (xs : List Seen) : Prop := xs.Pairwise fun x y => ltS x y = true
theorem upS_iff {xs : List Seen} : upS xs ↔ up (xs.map (·.1)) := by
  unfold upS up
  rw [List.pairwise_map]
  rfl
theorem sortS_unique {l r : List Seen} (hp : r.Perm l) (hr : upS r) (hn : (l.map fun x => rk x.1).Nodup) : r = sortS l := by
  refine sorted_unique (lt := fun x y => ltS x y = true) (fun a b h => befB_not h) r (sortS l) (hp.trans (sortS_perm l).symm) hr (upS_iff.2 ?_)
  rw [sortS_map]
  refine sortR_up ?_
  rw [List.map_map]
  exact hn
theorem upS_nodup {r : List Seen} (h : upS r) : (r.map fun x => rk x.1).Nodup := by
  have := up_nodup (upS_iff.1 h)
  rw [List.map_map] at this
  exact this
/-- Adjacent ones in order: all are, and none twice. -/
def adjB : List Seen → Bool
  | x :: y :: l => ltS x y && adjB (y :: l)
  | _ => true
theorem adj_up : ∀ (l : List Seen), adjB l = true → upS l
  | [], _ => List.Pairwise.nil
  | [x], _ => List.pairwise_singleton _ _
  | x :: y :: l, h => by
    simp only [adjB, Bool.and_eq_true] at h
    have ih := adj_up (y :: l) h.2
    refine List.pairwise_cons.2 ⟨fun z hz => ?_, ih⟩
    rcases List.mem_cons.1 hz with rfl | hz
    · exact h.1
    · exact befB_trans h.1 ((List.pairwise_cons.1 ih).1 z hz)
theorem up_adjB : ∀ (l : List Seen), upS l → adjB l = true
  | [], _ => rfl
  | [x], _ => rfl
  | x :: y :: l, h => by
    obtain ⟨h1, h2⟩ := List.pairwise_cons.1 h
    simp only [adjB, Bool.and_eq_true]
    exact ⟨h1 y List.mem_cons_self, up_adjB (y :: l) h2⟩
theorem sorted_up {r : List Seen} (h : r.Pairwise fun x y => ltS y x = false) (hn : (r.map fun x => rk x.1).Nodup) : upS r := by
  unfold upS
  have h2 : r.Pairwise fun x y => rk x.1 ≠ rk y.1 := by
    unfold List.Nodup at hn
    rw [List.pairwise_map] at hn
    exact hn
  refine (h.and h2).imp fun {x y} ⟨g1, g2⟩ => ?_
  cases h3 : ltS x y with
  | true => rfl
  | false => exact absurd (befB_tri h3 g1) g2
end OT

set_option linter.unusedVariables false
set_option linter.unusedSimpArgs false
namespace OT
open Go Go.Sort

theorem sort_sem (z : List Seen) (hl : z.length ≤ 1000) : ∃ r : List Seen, (∀ f : Nat × Int, slices_SortFunc_seen.sem (z, f, ()) = some (r, ())) ∧ r.Perm z ∧ r.Pairwise fun x y => ltS y x = false := by
  have hs : SWO (Go.Proofs.ltOf cfS) := by rw [cfS_lt]; exact swoS
  have h1 := sortF_eq (e := tSeen) (cs := impl_look_1.sem) (cf := cfS) (fun x y => look1_eq x y) hs z (cap_ok (Nat.le_trans hl (by omega)))
  have h2 := pdq_spec (α := tSeen.den) (lt := Go.Proofs.ltOf cfS) hs z
  refine ⟨_, fun f => ?_, h2.1, ?_⟩
  · show (sortF tSeen impl_look_1.sem z).map (fun r => (r, ())) = _
    rw [h1]
    rfl
  · exact h2.2.imp fun {x y} (h : Go.Proofs.ltOf (α := Seen) cfS y x = false) => by rw [cfS_lt] at h; exact h
theorem forI_adj {O : Type} (r : List Seen) (bad e : O) : ∀ (l pre : List Seen) (x : Seen), r = pre ++ x :: l → forI (fun i (_ : Unit) y => if (match r[i]? with | some z => ltS z y | none => true) then .inr () else .inl bad) (fun _ => e) pre.length l () = if adjB (x :: l) then e else bad
  | [], pre, x, _ => by simp [forI, adjB]
  | y :: l, pre, x, h => by
    have hx : r[pre.length]? = some x := by rw [h, List.getElem?_append_right (Nat.le_refl _)]; simp
    simp only [forI, hx, adjB]
    by_cases hc : ltS x y = true
    rotate_left
    · have hc' : ltS x y = false := by simpa using hc
      simp only [hc', Bool.false_eq_true, if_false, Bool.false_and]
    · simp only [hc, if_true, Bool.true_and]
      have := forI_adj r bad e l (pre ++ [x]) y (by rw [h]; simp)
      rw [List.length_append] at this
      exact this

theorem adj_walk (ps : Pgs) (k : Nat) (hk : 300 ≤ k) (r : List Seen) (hl : r.length ≤ 192) : impl_look.l4 k (ps, ()) r (fun z => impl_look.Q4 k (ps, ()) r z) 1 = if adjB r then some (r, (0 : Int), ()) else some (([] : List Seen), (8 : Int), ()) := by
  have := for_loopE (B := fun self v => impl_look.B4 k self (fun z => impl_look.Q4 k (ps, ()) r z) (ps, ()) r v) (r.drop 1) (fun (_ : Unit) (i : Int) => i + 1) (fun i _ y => if (match r[i]? with | some z => ltS z y | none => true) then .inr () else .inl (some (([] : List Seen), (8 : Int), ()))) (fun _ => some (r, (0 : Int), ())) (fun _ _ => True) (by rw [maxLen_val, List.length_drop]; omega)
    (fun i hi s self _ => by
      rw [List.length_drop] at hi
      show impl_look.b4 _ _ _ _ _ = _
      unfold impl_look.b4
      have hlt : (i : Int) + 1 < (r.length : Int) := by omega
      have hlt2 : (i : Int) < (r.length : Int) := by omega
      have hnn : (0 : Int) ≤ (i : Int) + 1 := by omega
      have hw1 : w64 ((i : Int) + 1 - 1) = (i : Int) := by rw [w64_in (by omega)]; omega
      have hw2 : w64 ((i : Int) + 1 + 1) = w64 ((i : Int) + 1) + 1 := by rw [w64_in (by omega), w64_in (by omega)]
      have htn : ((i : Int) + 1).toNat = i + 1 := by omega
      have hg : (r.drop 1)[i]'(by rw [List.length_drop]; omega) = r[i + 1]'(by omega) := by rw [List.getElem_drop]; congr 1; omega
      rw [hg]
      simp only [hlt, hlt2, hnn, hw1, hw2, htn, decide_true, cond_true, Int.natCast_nonneg, and_self, if_true, Int.toNat_natCast, List.getElem?_eq_getElem (show i < r.length by omega), List.getElem?_eq_getElem (show i + 1 < r.length by omega), Option.bind_some, isBefore_eq]
      show (bif !ltS r[i] (r[i + 1]'(by omega)) then _ else _) = _
      cases ltS r[i] (r[i + 1]'(by omega)) <;> rfl)
    (fun _ _ _ _ _ _ => trivial) (fun s self _ => by
      rw [List.length_drop]
      show impl_look.b4 _ _ _ _ _ = _
      unfold impl_look.b4
      have hlt : ¬ (((r.length - 1 : Nat) : Int) + 1 < (r.length : Int)) := by omega
      simp only [hlt, decide_false, cond_false]
      rfl) () trivial k (by rw [List.length_drop]; omega)
  refine Eq.trans this ?_
  cases r with
  | nil => rfl
  | cons x l =>
    exact forI_adj (x :: l) _ _ l [] x rfl

def viewL (ps : Pgs) : List Seen := if viewC ps = 0 then sortS ((seenF ps).map convS) else []
def lookL (ps : Pgs) : List Seen := if lookC ps = 0 then sortS ((seenF ps).map convS) else []

def keyS2 (y : Seen) : Option (Int × Int) := some (y.2.2.2.2.1, y.2.2.2.2.2.1)
def toldE (y : Seen) : List Int × Bool := ([y.2.2.2.2.1, y.2.2.2.2.2.1], true)
theorem told_get (T : List Seen) (a b : Int) : orZ (mapGet tK2 (T.map toldE) [a, b]) false = T.any fun y => decide (a = y.2.2.2.2.1) && decide (b = y.2.2.2.2.2.1) := by
  induction T with
  | nil => rfl
  | cons y T ih =>
    have hk : Ty.eq tK2 [a, b] (toldE y).1 = (decide (a = y.2.2.2.2.1) && decide (b = y.2.2.2.2.2.1)) := key2_eq _ _ _ _
    unfold mapGet at ih ⊢
    rw [List.map_cons, List.find?_cons, List.any_cons, hk]
    cases (decide (a = y.2.2.2.2.1) && decide (b = y.2.2.2.2.2.1)) with
    | true => rfl
    | false => simpa using ih
theorem tgt_keys (S : List L6Spot) : (S.flatMap stubOf1).filterMap keyS2 = S.filterMap sTgt := by
  induction S with
  | nil => rfl
  | cons x S ih =>
    rw [List.flatMap_cons, List.filterMap_append, ih]
    unfold stubOf1
    by_cases h : sFlag x = 1
    · rw [if_pos h]
      have : sTgt x = some (sTp x, sTs x) := by unfold sTgt; rw [if_pos h]
      simp [List.filterMap_cons, this, keyS2]
    · rw [if_neg h]
      have : sTgt x = none := by unfold sTgt; rw [if_neg h]
      simp [List.filterMap_cons, this]

theorem implLook_eq (ps : Pgs) (h : cellsOk ps) : impl_look.sem (ps, ()) = some (lookL ps, lookC ps, ()) := by
  obtain ⟨hl, hp⟩ := h.1
  have hsl := spots_len h.1
  refine lift_eq (k := 300) fun k hk => (impl_look.raw_eq k _).trans ?_
  have inner : ∀ (self : (List Seen × List Seen × List (List Int × Row) × Pgs × Int × Int) → Option impl_look.Out) (e0 : (List Seen × List Seen × List (List Int × Row)) → Option impl_look.Out) (i : Nat) (hi : i < ps.length) (S : List L6Spot), S.length ≤ 16 * i → (∀ x ∈ S, x.1 < (i : Int)) →
      impl_look.r1 k self e0 (ps, ()) (i : Int) ps[i] ps (ps.length : Int) (pn ps[i] : Int) (S.flatMap rowsOf1, S.flatMap stubOf1, S.flatMap movOf1, (0 : Int)) = self ((S ++ spotsPg i ps[i]).flatMap rowsOf1, (S ++ spotsPg i ps[i]).flatMap stubOf1, (S ++ spotsPg i ps[i]).flatMap movOf1, ps, (ps.length : Int), w64 ((i : Int) + 1)) := fun self e0 i hi S0 hS0 hfr => by
    have hok := hp _ (List.getElem_mem hi)
    have hn := hok.n
    have hlen := hok.len
    have hcell := h.2 _ (List.getElem_mem hi)
    have := range_loop (B := fun self' v => impl_look.B1 k self' (fun z => impl_look.Q0 k self e0 (ps, ()) (i : Int) ps[i] ps (ps.length : Int) (pn ps[i] : Int) z) (ps, ()) (i : Int) ps[i] ps (ps.length : Int) (pn ps[i] : Int) v) (pn ps[i]) (fun (S : List L6Spot) (j : Int) => (S.flatMap rowsOf1, S.flatMap stubOf1, S.flatMap movOf1, j)) (fun j S => .inr (S ++ spot1 i ps[i] j)) (fun S => self (S.flatMap rowsOf1, S.flatMap stubOf1, S.flatMap movOf1, ps, (ps.length : Int), w64 ((i : Int) + 1))) (fun j S => S.length ≤ 16 * i + j ∧ ∀ x ∈ S, x.1 < (i : Int) ∨ (x.1 = (i : Int) ∧ x.2.1 < (j : Int))) (by omega)
      (fun j hj S self' ⟨hI1, hI2⟩ => by
        show impl_look.b1 _ _ _ _ _ _ _ _ _ = _
        unfold impl_look.b1 spot1
        have hlt : (j : Int) < (pn ps[i] : Int) := by omega
        simp only [hlt, decide_true, cond_true, implHas_eq hok, hj, Bool.true_and, Option.bind_some]
        by_cases hz : psz ps[i] j = 0
        · simp only [hz, decide_true, Bool.not_true, Bool.not_false, cond_true, if_true, List.append_nil]
        · have hc2 := hcell j hj hz
          obtain ⟨f1, f2⟩ := cellF_flag _ hc2
          obtain ⟨l1, l2⟩ := gather_len S
          have hcap : ∀ (T : List Seen) (y : Seen), T.length ≤ S.length → T.length + [y].length ≤ CAP := fun T y hT => cap_ok (by simp only [List.length_cons, List.length_nil]; omega)
          simp only [hz, decide_false, Bool.not_false, Bool.not_true, cond_false, implCellAt_eq hok hj, implUnpack_eq _ (Nat.le_trans (cellP_small hok hj) (by omega)), hc2, if_true, if_false, Option.bind_some, f1, decide_true, hcap _ _ l1, hcap _ _ l2, key2_lay]
          obtain ⟨x, hx⟩ : ∃ x : L6Spot, x = ((i : Int), (j : Int), (cellF (cellP ps[i] j)).1, ()) := ⟨_, rfl⟩
          have hxf : sFlag x = (cellF (cellP ps[i] j)).1.2.1 := by rw [hx]; rfl
          rw [← hx]
          simp only [List.flatMap_append, List.flatMap_cons, List.flatMap_nil, List.append_nil]
          rcases f2 with g | g | g
          · have e1 : rowsOf1 x = [((cellF (cellP ps[i] j)).1.2.2.2.2.1, (i : Int), (j : Int), false, (i : Int), (j : Int), ())] := by unfold rowsOf1; rw [if_pos (hxf.trans g), hx]; rfl
            have e2 : stubOf1 x = [] := by unfold stubOf1; rw [if_neg (by omega)]
            have e3 : movOf1 x = [] := by unfold movOf1; rw [if_neg (by omega)]
            rw [e1, e2, e3]
            simp only [g, decide_true, cond_true, List.append_nil, List.length_cons, List.length_nil, Nat.zero_lt_succ, List.length_replicate, List.length_set, if_true]
          · have e1 : rowsOf1 x = [] := by unfold rowsOf1; rw [if_neg (by omega)]
            have e2 : stubOf1 x = [(row0, (i : Int), (j : Int), true, (cellF (cellP ps[i] j)).1.2.2.1, (cellF (cellP ps[i] j)).1.2.2.2.1, ())] := by unfold stubOf1; rw [if_pos (hxf.trans g), hx]; rfl
            have e3 : movOf1 x = [] := by unfold movOf1; rw [if_neg (by omega)]
            rw [e1, e2, e3]
            have n1 : ¬ ((1 : Int) = 0) := by decide
            have n2 : ¬ ((1 : Int) = 2) := by decide
            simp only [g, n1, n2, decide_false, cond_false, List.append_nil, List.length_cons, List.length_nil, Nat.zero_lt_succ, List.length_replicate, List.length_set, if_true]
          · have e1 : rowsOf1 x = [] := by unfold rowsOf1; rw [if_neg (by omega)]
            have e2 : stubOf1 x = [] := by unfold stubOf1; rw [if_neg (by omega)]
            have e3 : movOf1 x = [([(i : Int), (j : Int)], (cellF (cellP ps[i] j)).1.2.2.2.2.1)] := by unfold movOf1; rw [if_pos (hxf.trans g), hx]; rfl
            rw [e1, e2, e3]
            have n1 : ¬ ((2 : Int) = 0) := by decide
            have hput : mapPut tK2 (S.flatMap movOf1) [(i : Int), (j : Int)] (cellF (cellP ps[i] j)).1.2.2.2.2.1 = S.flatMap movOf1 ++ [([(i : Int), (j : Int)], (cellF (cellP ps[i] j)).1.2.2.2.2.1)] := mapPut_fresh tK2 _ _ _ fun e he => by
              obtain ⟨y, hy, hye⟩ := List.mem_flatMap.1 he
              unfold movOf1 at hye
              split at hye
              · rw [List.mem_singleton] at hye
                subst hye
                rw [key2_eq]
                rcases hI2 y hy with c | ⟨c, d⟩
                · rw [decide_eq_false (show ¬ (i : Int) = y.1 by omega)]; rfl
                · rw [decide_eq_false (show ¬ (j : Int) = y.2.1 by omega), Bool.and_false]
              · cases hye
            simp only [g, n1, decide_false, decide_true, cond_false, cond_true, hput, List.append_nil, List.length_cons, List.length_nil, Nat.zero_lt_succ, List.length_replicate, List.length_set, if_true]
            rfl)
      (fun j hj S S' ⟨hI1, hI2⟩ hf => by
        injection hf with hf
        subst hf
        have : (spot1 i ps[i] j).length ≤ 1 := by unfold spot1; split <;> simp
        refine ⟨by rw [List.length_append]; omega, fun x hx => ?_⟩
        rcases List.mem_append.1 hx with hx | hx
        · rcases hI2 x hx with c | ⟨c, d⟩
          · exact .inl c
          · exact .inr ⟨c, by omega⟩
        · unfold spot1 at hx
          split at hx
          · cases hx
          · rw [List.mem_singleton] at hx
            subst hx
            exact .inr ⟨rfl, by show (j : Int) < ((j + 1 : Nat) : Int); omega⟩) (fun S self' hI => by
        show impl_look.b1 _ _ _ _ _ _ _ _ _ = _
        unfold impl_look.b1
        simp only [Int.lt_irrefl, decide_false, cond_false]
        rfl) S0 ⟨by omega, fun x hx => .inl (hfr x hx)⟩ k (by omega)
    rw [forI_app (spot1 i ps[i])] at this
    exact this
  have outer : impl_look.r0 k (ps, ()) (([] : List Seen), ([] : List Seen), ([] : List (List Int × Row)), ps, (ps.length : Int), (0 : Int)) = impl_look.Q1 k (ps, ()) ((spotsF ps).flatMap rowsOf1, (spotsF ps).flatMap stubOf1, (spotsF ps).flatMap movOf1) := by
    have := for_loopE (B := fun self v => impl_look.B0 k self (fun z => impl_look.Q1 k (ps, ()) z) (ps, ()) v) ps (fun (S : List L6Spot) (i : Int) => (S.flatMap rowsOf1, S.flatMap stubOf1, S.flatMap movOf1, ps, (ps.length : Int), i)) (fun i S p => .inr (S ++ spotsPg i p)) (fun S => impl_look.Q1 k (ps, ()) (S.flatMap rowsOf1, S.flatMap stubOf1, S.flatMap movOf1)) (fun i S => S.length ≤ 16 * i ∧ ∀ x ∈ S, x.1 < (i : Int)) (by rw [maxLen_val]; omega)
      (fun i hi S self ⟨hI1, hI2⟩ => by
        show impl_look.b0 _ _ _ _ _ = _
        unfold impl_look.b0
        have hlt : (i : Int) < (ps.length : Int) := by omega
        have hlen := (hp _ (List.getElem_mem hi)).len
        simp only [hlt, decide_true, cond_true, Int.natCast_nonneg, if_true, Int.toNat_natCast, List.getElem?_eq_getElem hi, Option.bind_some, pSlots_eq hlen, inner self _ i hi S hI1 hI2])
      (fun i hi S S' ⟨hI1, hI2⟩ hf => by
        injection hf with hf
        subst hf
        have := spotsPg_len (hp _ (List.getElem_mem hi)) i
        refine ⟨by rw [List.length_append]; omega, fun x hx => ?_⟩
        rcases List.mem_append.1 hx with hx | hx
        · have := hI2 x hx; omega
        · obtain ⟨s, _, hs⟩ := List.mem_flatMap.1 hx
          unfold spot1 at hs
          split at hs
          · cases hs
          · rw [List.mem_singleton] at hs
            subst hs
            show (i : Int) < ((i + 1 : Nat) : Int)
            omega) (fun S self hI => by
        show impl_look.b0 _ _ _ _ _ = _
        unfold impl_look.b0
        simp only [Int.lt_irrefl, decide_false, cond_false]) [] ⟨by simp, fun x hx => by cases hx⟩ k (by omega)
    rw [forI_appI] at this
    exact this
  show impl_look.r0 k (ps, ()) (([] : List Seen), ([] : List Seen), ([] : List (List Int × Row)), ps, (ps.length : Int), (0 : Int)) = _
  rw [outer]
  show impl_look.q1 _ _ _ = _
  unfold impl_look.q1
  obtain ⟨gl1, gl2⟩ := gather_len (spotsF ps)
  have hT : ∀ y ∈ (spotsF ps).flatMap stubOf1, ∃ x ∈ spotsF ps, sFlag x = 1 ∧ y = (row0, x.1, x.2.1, true, sTp x, sTs x, ()) := fun y hy => by
    obtain ⟨x, hx, hxy⟩ := List.mem_flatMap.1 hy
    unfold stubOf1 at hxy
    split at hxy
    · rename_i hf
      exact ⟨x, hx, hf, List.mem_singleton.1 hxy⟩
    · cases hxy
  -- stubs that lead nowhere
  have l2w : impl_look.r2 k (ps, ()) ((spotsF ps).flatMap rowsOf1) ((spotsF ps).flatMap stubOf1) ((spotsF ps).flatMap movOf1) (((spotsF ps).flatMap stubOf1).length : Int) (0 : Int) = if (spotsF ps).all (stubOk ps) then impl_look.Q2 k (ps, ()) ((spotsF ps).flatMap rowsOf1) ((spotsF ps).flatMap stubOf1) ((spotsF ps).flatMap movOf1) (((spotsF ps).flatMap stubOf1).length : Int) () else some (([] : List Seen), (4 : Int), ()) := by
    obtain ⟨T, hTd⟩ : ∃ T, T = (spotsF ps).flatMap stubOf1 := ⟨_, rfl⟩
    obtain ⟨M, hM⟩ : ∃ M, M = (spotsF ps).flatMap movOf1 := ⟨_, rfl⟩
    rw [← hTd, ← hM]
    have hTl : T.length ≤ 192 := by rw [hTd]; omega
    have := for_loopE (B := fun self v => impl_look.B2 k self (fun z => impl_look.Q2 k (ps, ()) ((spotsF ps).flatMap rowsOf1) T M (T.length : Int) z) (ps, ()) ((spotsF ps).flatMap rowsOf1) T M (T.length : Int) v) T (fun (_ : Unit) (i : Int) => i) (fun i _ y => if (mapGet tK2 M [y.2.2.2.2.1, y.2.2.2.2.2.1]).isSome then .inr () else .inl (some (([] : List Seen), (4 : Int), ()))) (fun _ => impl_look.Q2 k (ps, ()) ((spotsF ps).flatMap rowsOf1) T M (T.length : Int) ()) (fun _ _ => True) (by rw [maxLen_val]; omega)
      (fun i hi s self _ => by
        show impl_look.b2 _ _ _ _ _ _ _ _ = _
        unfold impl_look.b2
        have hlt : (i : Int) < (T.length : Int) := by omega
        simp only [hlt, decide_true, cond_true, Int.natCast_nonneg, and_self, if_true, Int.toNat_natCast, List.getElem?_eq_getElem hi, Option.bind_some, key2_lay, List.length_replicate, List.length_set, show (0 : Nat) < 2 by omega, show (1 : Nat) < 2 by omega]
        cases (mapGet tK2 M [(T[i]).2.2.2.2.1, (T[i]).2.2.2.2.2.1]).isSome <;> rfl)
      (fun _ _ _ _ _ _ => trivial) (fun s self _ => by
        show impl_look.b2 _ _ _ _ _ _ _ _ = _
        unfold impl_look.b2
        simp only [Int.lt_irrefl, decide_false, cond_false]) () trivial k (by omega)
    rw [forI_check (fun y : Seen => (mapGet tK2 M [y.2.2.2.2.1, y.2.2.2.2.2.1]).isSome) (some (([] : List Seen), (4 : Int), ())) (fun _ => impl_look.Q2 k (ps, ()) ((spotsF ps).flatMap rowsOf1) T M (T.length : Int) ())] at this
    refine Eq.trans this ?_
    have hb : T.all (fun y : Seen => (mapGet tK2 M [y.2.2.2.2.1, y.2.2.2.2.2.1]).isSome) = (spotsF ps).all (stubOk ps) := by
      have hone : ∀ x ∈ spotsF ps, sFlag x = 1 → (mapGet tK2 M [sTp x, sTs x]).isSome = stubOk ps x := fun x hx hf => by
        obtain ⟨g1, g2⟩ := spot_nonneg hx
        rw [hM, mov_get h _ _ g1 g2]
        unfold stubOk
        rw [decide_eq_true hf]
        cases ((cellG ps (sTp x) (sTs x)).2 && decide ((cellG ps (sTp x) (sTs x)).1.2.1 = 2)) <;> rfl
      rw [Bool.eq_iff_iff, List.all_eq_true, List.all_eq_true]
      constructor
      · intro hall x hx
        by_cases hf : sFlag x = 1
        · rw [← hone x hx hf]
          have hy : (row0, x.1, x.2.1, true, sTp x, sTs x, ()) ∈ T := by
            rw [hTd]
            exact List.mem_flatMap.2 ⟨x, hx, by unfold stubOf1; rw [if_pos hf]; exact List.mem_singleton.2 rfl⟩
          exact hall _ hy
        · unfold stubOk; rw [decide_eq_false hf]; rfl
      · intro hall y hy
        obtain ⟨x, hx, hf, e⟩ := hT y (hTd ▸ hy)
        subst e
        exact (hone x hx hf).trans (hall x hx)
    rw [hb]
  rw [l2w]
  unfold lookL lookC
  by_cases hst : (spotsF ps).all (stubOk ps) = true
  rotate_left
  · simp only [hst, Bool.false_eq_true, if_false]
    rfl
  simp only [hst, if_true]
  show impl_look.q2 _ _ _ _ _ _ _ = _
  unfold impl_look.q2
  -- stubs that lead to one place
  have l3w : impl_look.r3 k (ps, ()) ((spotsF ps).flatMap rowsOf1) ((spotsF ps).flatMap stubOf1) ((spotsF ps).flatMap movOf1) (((spotsF ps).flatMap stubOf1).length : Int) ((spotsF ps).flatMap stubOf1) ((spotsF ps).flatMap movOf1) (((spotsF ps).flatMap stubOf1).length : Int) ((spotsF ps).flatMap rowsOf1, ([] : List (List Int × Bool)), (0 : Int)) = if ((spotsF ps).filterMap sTgt).Nodup then impl_look.Q3 k (ps, ()) ((spotsF ps).flatMap stubOf1) ((spotsF ps).flatMap movOf1) (((spotsF ps).flatMap stubOf1).length : Int) (listV ps) else some (([] : List Seen), (6 : Int), ()) := by
    have hkeys := tgt_keys (spotsF ps)
    unfold listV
    obtain ⟨T, hTd⟩ : ∃ T, T = (spotsF ps).flatMap stubOf1 := ⟨_, rfl⟩
    obtain ⟨M, hM⟩ : ∃ M, M = (spotsF ps).flatMap movOf1 := ⟨_, rfl⟩
    obtain ⟨L, hL⟩ : ∃ L, L = (spotsF ps).flatMap rowsOf1 := ⟨_, rfl⟩
    have hfill : ∀ y : Seen, fillS ps y = (orZ (mapGet tK2 M [y.2.2.2.2.1, y.2.2.2.2.2.1]) row0, y.2) := fun y => by unfold fillS; rw [hM]
    rw [← hTd, ← hM, ← hL]
    rw [← hTd] at hkeys
    have hTl : T.length ≤ 192 := by rw [hTd]; omega
    have hLl : L.length ≤ 192 := by rw [hL]; omega
    have := for_loopE (B := fun self v => impl_look.B3 k self (fun z => impl_look.Q3 k (ps, ()) T M (T.length : Int) z) (ps, ()) T M (T.length : Int) v) T (fun (_ : Unit) (i : Int) => (L ++ (T.take i.toNat).map (fillS ps), (T.take i.toNat).map toldE, i)) (fun i _ y => if (T.take i).any (fun z => decide (y.2.2.2.2.1 = z.2.2.2.2.1) && decide (y.2.2.2.2.2.1 = z.2.2.2.2.2.1)) then .inl (some (([] : List Seen), (6 : Int), ())) else .inr ()) (fun _ => impl_look.Q3 k (ps, ()) T M (T.length : Int) (L ++ T.map (fillS ps))) (fun _ _ => True) (by rw [maxLen_val]; omega)
      (fun i hi s self _ => by
        show impl_look.b3 _ _ _ _ _ _ _ = _
        unfold impl_look.b3
        have hlt : (i : Int) < (T.length : Int) := by omega
        have hcap : ∀ y : Seen, (L ++ (T.take i).map (fillS ps)).length + [y].length ≤ CAP := fun y => cap_ok (by simp only [List.length_append, List.length_map, List.length_take, List.length_cons, List.length_nil]; omega)
        have hw : (w64 ((i : Int) + 1)).toNat = i + 1 := by rw [w64_in (by omega)]; omega
        have htk : T.take (i + 1) = T.take i ++ [T[i]] := List.take_succ_eq_append_getElem hi
        simp only [hlt, decide_true, cond_true, Int.natCast_nonneg, and_self, if_true, Int.toNat_natCast, List.getElem?_eq_getElem hi, Option.bind_some, key2_lay, List.length_replicate, List.length_set, show (0 : Nat) < 2 by omega, show (1 : Nat) < 2 by omega, told_get, hcap, hw, htk, List.map_append, List.map_cons, List.map_nil]
        have htg := told_get (T.take i) (T[i]).2.2.2.2.1 (T[i]).2.2.2.2.2.1
        refine Eq.trans (congrArg (fun b : Bool => bif b then (some (([] : List Seen), (6 : Int), ()) : Option impl_look.Out) else self (L ++ (T.take i).map (fillS ps) ++ [(orZ (mapGet tK2 M [(T[i]).2.2.2.2.1, (T[i]).2.2.2.2.2.1]) ((0 : Int), (0 : Int), (0 : Int), ([] : List UInt8), ()), (T[i]).2)], mapPut tK2 ((T.take i).map toldE) [(T[i]).2.2.2.2.1, (T[i]).2.2.2.2.2.1] true, w64 ((i : Int) + 1))) htg) ?_
        cases hc : (T.take i).any (fun z => decide ((T[i]).2.2.2.2.1 = z.2.2.2.2.1) && decide ((T[i]).2.2.2.2.2.1 = z.2.2.2.2.2.1)) with
        | true => rfl
        | false =>
          simp only [cond_false, Bool.false_eq_true, if_false]
          have hput : mapPut tK2 ((T.take i).map toldE) [(T[i]).2.2.2.2.1, (T[i]).2.2.2.2.2.1] true = (T.take i).map toldE ++ [toldE T[i]] := mapPut_fresh tK2 _ _ _ fun e he => by
            obtain ⟨z, hz, rfl⟩ := List.mem_map.1 he
            have h1 := List.any_eq_false.1 hc z hz
            have : Ty.eq tK2 [(T[i]).2.2.2.2.1, (T[i]).2.2.2.2.2.1] (toldE z).1 = _ := key2_eq _ _ _ _
            rw [this]
            simpa using h1
          rw [hput, hfill, List.append_assoc])
      (fun _ _ _ _ _ _ => trivial) (fun s self _ => by
        show impl_look.b3 _ _ _ _ _ _ _ = _
        unfold impl_look.b3
        simp only [Int.lt_irrefl, decide_false, cond_false, Int.toNat_natCast, List.take_length]) () trivial k (by omega)
    rw [forI_dup0 keyS2 (some (([] : List Seen), (6 : Int), ())) (fun _ => impl_look.Q3 k (ps, ()) T M (T.length : Int) (L ++ T.map (fillS ps))) (fun y z => decide (y.2.2.2.2.1 = z.2.2.2.2.1) && decide (y.2.2.2.2.2.1 = z.2.2.2.2.2.1)) (fun y z => ?_) T, hkeys] at this
    · simp only [Int.toNat_zero, List.take_zero, List.map_nil, List.append_nil] at this
      exact this
    · unfold keyS2
      simp only [Bool.and_eq_true, decide_eq_true_eq]
      constructor
      · rintro ⟨h1, h2⟩; exact ⟨_, rfl, by rw [h1, h2]⟩
      · rintro ⟨b, h1, h2⟩
        injection h1 with h1
        injection h2 with h2
        rw [← h2] at h1
        injection h1 with h3 h4
        exact ⟨h3, h4⟩
  rw [l3w]
  by_cases htk : ((spotsF ps).filterMap sTgt).Nodup
  rotate_left
  · simp only [htk, if_false]
    rfl
  simp only [htk, if_true]
  show impl_look.q3 _ _ _ _ _ _ = _
  unfold impl_look.q3
  have hperm := listV_perm h hst
  have hvl : (listV ps).length ≤ 192 := by
    have := hperm.length_eq
    rw [List.length_map] at this
    have := seen_len h.1
    omega
  obtain ⟨r, hr1, hr2, hr3⟩ := sort_sem (listV ps) (by omega)
  rw [hr1]
  simp only [Option.bind_some]
  have hrl : r.length ≤ 192 := by have := hr2.length_eq; omega
  have hrp := hr2.trans hperm
  have hkn : (r.map fun x => rk x.1).Nodup ↔ ((seenF ps).map fun x => rk (sRow x)).Nodup := by
    have h1 : (r.map fun x => rk x.1).Perm (((seenF ps).map convS).map fun x => rk x.1) := hrp.map _
    rw [h1.nodup_iff, List.map_map]
    exact Iff.rfl
  refine (adj_walk ps k hk r hrl).trans ?_
  by_cases hnd : ((seenF ps).map fun x => rk (sRow x)).Nodup
  · have hup := sorted_up hr3 (hkn.2 hnd)
    have hun := sortS_unique hrp hup (by rw [List.map_map]; exact hnd)
    simp only [hnd, if_true, up_adjB r hup]
    rw [hun]
  · have : ¬ adjB r = true := fun ha => hnd (hkn.1 (upS_nodup (adj_up r ha)))
    simp only [hnd, this, if_false]
    rfl

theorem implView_eq (ps : Pgs) (hp : ∀ p ∈ ps, p.length ≤ maxLen) : impl_view.sem (ps, ()) = some (viewL ps, viewC ps, ()) := by
  refine lift_eq (k := 300) fun k hk => (impl_view.raw_eq k _).trans ?_
  unfold impl_view.raw impl_view.p viewL viewC
  by_cases hl : 12 < ps.length
  · have : (12 : Int) < (ps.length : Int) := by omega
    simp only [this, decide_true, cond_true, hl, if_true]
    rfl
  have hl' : ¬ ((12 : Int) < (ps.length : Int)) := by omega
  simp only [hl', decide_false, cond_false, hl, if_false]
  have inner : ∀ (self : (Pgs × Pgs × Int × Int) → Option impl_view.Out) (e0 : Pgs → Option impl_view.Out) (i : Nat) (hi : i < ps.length), PageOk ps[i] → impl_view.r1 k self e0 (ps, ()) ps ps[i] ps (ps.length : Int) (i : Int) (pn ps[i] : Int) (0 : Int) = if (List.range (pn ps[i])).all (okCell ps[i]) then self (ps, ps, (ps.length : Int), w64 ((i : Int) + 1)) else some (([] : List Seen), (5 : Int), ()) := fun self e0 i hi hok => by
    have hn := hok.n
    have hlen := hok.len
    have := range_loop (B := fun self' v => impl_view.B1 k self' (fun z => impl_view.Q0 k self e0 (ps, ()) ps ps[i] ps (ps.length : Int) (i : Int) (pn ps[i] : Int) z) (ps, ()) ps ps[i] ps (ps.length : Int) (i : Int) (pn ps[i] : Int) v) (pn ps[i]) (fun (_ : Unit) (j : Int) => j) (fun j _ => if okCell ps[i] j then .inr () else .inl (some (([] : List Seen), (5 : Int), ()))) (fun _ => self (ps, ps, (ps.length : Int), w64 ((i : Int) + 1))) (fun _ _ => True) (by omega)
      (fun j hj s self' hI => by
        show impl_view.b1 _ _ _ _ _ _ _ _ _ _ = _
        unfold impl_view.b1 okCell
        have hlt : (j : Int) < (pn ps[i] : Int) := by omega
        simp only [hlt, decide_true, cond_true, implHas_eq hok, hj, Bool.true_and, Option.bind_some]
        by_cases hz : psz ps[i] j = 0
        · simp only [hz, decide_true, Bool.not_true, cond_false, Bool.true_or, if_true]
        · simp only [hz, decide_false, Bool.not_false, cond_true, implCellAt_eq hok hj, implUnpack_eq _ (Nat.le_trans (cellP_small hok hj) (by omega)), Option.bind_some, Bool.false_or]
          cases hc : (cellF (cellP ps[i] j)).2 with
          | true =>
            have := (cellF_flag _ hc).1
            simp only [if_true, this, decide_true, Bool.not_true, cond_false]
          | false => rfl)
      (fun _ _ _ _ _ _ => trivial) (fun s self' hI => by
        show impl_view.b1 _ _ _ _ _ _ _ _ _ _ = _
        unfold impl_view.b1
        simp only [Int.lt_irrefl, decide_false, cond_false]
        rfl) () trivial k (by omega)
    rw [forI_checkN] at this
    exact this
  have outer : impl_view.r0 k (ps, ()) (ps, ps, (ps.length : Int), (0 : Int)) = if firstF pgC ps = 0 then impl_view.Q1 k (ps, ()) ps else some (([] : List Seen), firstF pgC ps, ()) := by
    have := for_loopE (B := fun self v => impl_view.B0 k self (fun z => impl_view.Q1 k (ps, ()) z) (ps, ()) v) ps (fun (_ : Unit) (i : Int) => (ps, ps, (ps.length : Int), i)) (fun i _ p => if pgC p = 0 then .inr () else .inl (some (([] : List Seen), pgC p, ()))) (fun _ => impl_view.Q1 k (ps, ()) ps) (fun _ _ => True) (by rw [maxLen_val]; omega)
      (fun i hi s self hI => by
        show impl_view.b0 _ _ _ _ _ = _
        unfold impl_view.b0 pgC
        have hlt : (i : Int) < (ps.length : Int) := by omega
        simp only [hlt, decide_true, cond_true, Int.natCast_nonneg, if_true, Int.toNat_natCast, List.getElem?_eq_getElem hi, Option.bind_some, implPage_eq _ (hp _ (List.getElem_mem hi))]
        by_cases h0 : pageF ps[i] = 0
        · have hok := pageF_iff.1 h0
          rw [decide_eq_true h0]
          simp only [Bool.not_true, cond_false, pSlots_eq hok.len, Option.bind_some, inner self _ i hi hok, h0, if_true]
          by_cases hc : (List.range (pn ps[i])).all (okCell ps[i]) = true
          · simp only [hc, if_true]
          · simp only [hc, Bool.false_eq_true, if_false]
            rfl
        · rw [decide_eq_false h0]
          simp only [Bool.not_false, cond_true, h0, if_false])
      (fun _ _ _ _ _ _ => trivial) (fun s self _ => by
        show impl_view.b0 _ _ _ _ _ = _
        unfold impl_view.b0
        simp only [Int.lt_irrefl, decide_false, cond_false]) () trivial k (by omega)
    rw [forI_first pgC (fun c => some (([] : List Seen), c, ())) (fun _ => impl_view.Q1 k (ps, ()) ps)] at this
    exact this
  rw [outer]
  by_cases hc : firstF pgC ps = 0
  · simp only [hc, if_true]
    show impl_view.q1 _ _ = _
    unfold impl_view.q1
    rw [implLook_eq ps (cells_of (by omega) hc)]
    rfl
  · simp only [hc, if_false]

theorem implPages_eq (ps : Pgs) (hp : ∀ p ∈ ps, p.length ≤ maxLen) : impl_PagesFault.sem (ps, ()) = some (viewC ps, ()) := by
  refine lift_eq (k := 0) fun k hk => (impl_PagesFault.raw_eq k _).trans ?_
  show impl_PagesFault.p _ = _
  unfold impl_PagesFault.p
  rw [implView_eq ps hp]
  rfl
end OT

set_option linter.unusedVariables false
set_option linter.unusedSimpArgs false
namespace OT
open Go

theorem ahead_eq (c d : Change) : spec_l9Ahead.sem (c, d, ()) = some (befB (ck c) (ck d), ()) := by
  refine lift_eq (k := 0) fun k _ => (spec_l9Ahead.raw_eq k _).trans ?_
  show spec_l9Ahead.p _ = _
  unfold spec_l9Ahead.p befB
  simp only [specKey_eq, Option.bind_some]
  by_cases h1 : (ck c).1 < (ck d).1 <;> by_cases h2 : (ck c).1 = (ck d).1 <;> simp [h1, h2]

def foldStep (xs : List Change) (i : Nat) (x : Change) : Sum (Int × Unit) Unit :=
  if chS x = 0 then (if 0 < i then (match xs[i - 1]? with | some y => if befB (ck y) (ck x) then .inr () else .inl (1, ()) | none => .inl (1, ())) else .inr ()) else .inl (chS x, ())
def foldF (xs : List Change) : Int := if 60 < xs.length then 2 else (forI (fun i (_ : Unit) x => foldStep xs i x) (fun _ => ((0 : Int), ())) 0 xs ()).1

theorem specList_eq (xs : List Change) (hl : xs.length ≤ maxLen) (h : ∀ c ∈ xs, cl c) : spec_l9List.sem (xs, ()) = some (foldF xs, ()) := by
  refine lift_eq (k := xs.length + 1) fun k hk => (spec_l9List.raw_eq k _).trans ?_
  have := for_loop (B := fun self v => spec_l9List.B0 0 self (fun z => spec_l9List.Q0 0 (xs, ()) z) (xs, ()) v) xs (fun (_ : Unit) (i : Int) => i) (fun i _ x => foldStep xs i x) (fun _ => (0, ())) (fun _ _ => True) hl
    (fun i hi _ self _ => by
      show spec_l9List.b0 _ _ _ _ = _
      unfold spec_l9List.b0 foldStep
      have hlt : (i : Int) < (xs.length : Int) := by omega
      simp only [hlt, decide_true, cond_true, Int.natCast_nonneg, if_true, Int.toNat_natCast, List.getElem?_eq_getElem hi, Option.bind_some, specChangeS_eq _ (h _ (List.getElem_mem hi))]
      by_cases h1 : chS xs[i] = 0
      · simp only [h1, decide_true, Bool.not_true, cond_false, if_true]
        by_cases h0 : 0 < i
        · have h0' : (0 : Int) < (i : Int) := by omega
          have hi' : i - 1 < xs.length := by omega
          simp only [h0, h0', decide_true, cond_true, if_true, wprev h0 (by omega), Int.natCast_nonneg, Int.toNat_natCast, List.getElem?_eq_getElem hi', Option.bind_some, ahead_eq]
          cases befB (ck xs[i - 1]) (ck xs[i]) <;> rfl
        · have h0' : ¬ (0 : Int) < (i : Int) := by omega
          simp [h0, h0']
      · simp [h1]) (fun _ _ _ _ _ _ => trivial) (fun _ self _ => by
      show spec_l9List.b0 _ _ _ _ = _
      unfold spec_l9List.b0
      simp [spec_l9List.Q0, spec_l9List.q0]) () trivial k (by omega)
  have this : spec_l9List.r0 k (xs, ()) 0 = _ := this
  unfold spec_l9List.raw spec_l9List.p foldF
  rw [this, show (60 : Int) = ((60 : Nat) : Int) from rfl]
  simp only [len60]
  by_cases h1 : 60 < xs.length <;> simp [h1] <;> rfl

theorem folded_eq (xs : List Change) (hl : xs.length ≤ maxLen) (h : ∀ c ∈ xs, cl c) : impl_foldedFault.sem (xs, ()) = some (foldF xs, ()) := by
  refine lift_eq (k := xs.length + 1) fun k hk => (impl_foldedFault.raw_eq k _).trans ?_
  have := for_loop (B := fun self v => impl_foldedFault.B0 0 self (fun z => impl_foldedFault.Q0 0 (xs, ()) z) (xs, ()) v) xs (fun (_ : Unit) (i : Int) => i) (fun i _ x => foldStep xs i x) (fun _ => (0, ())) (fun _ _ => True) hl
    (fun i hi _ self _ => by
      show impl_foldedFault.b0 _ _ _ _ = _
      unfold impl_foldedFault.b0 foldStep
      have hlt : (i : Int) < (xs.length : Int) := by omega
      simp only [hlt, decide_true, cond_true, Int.natCast_nonneg, if_true, Int.toNat_natCast, List.getElem?_eq_getElem hi, Option.bind_some, single_eq _ (h _ (List.getElem_mem hi))]
      by_cases h1 : chS xs[i] = 0
      · simp only [h1, decide_true, Bool.not_true, cond_false, if_true]
        by_cases h0 : 0 < i
        · have h0' : (0 : Int) < (i : Int) := by omega
          have hi' : i - 1 < xs.length := by omega
          simp only [h0, h0', decide_true, cond_true, if_true, wprev h0 (by omega), Int.natCast_nonneg, Int.toNat_natCast, List.getElem?_eq_getElem hi', Option.bind_some, implKey_eq, isBefore_eq, keyRow_ck]
          cases befB (ck xs[i - 1]) (ck xs[i]) <;> rfl
        · have h0' : ¬ (0 : Int) < (i : Int) := by omega
          simp [h0, h0']
      · simp [h1]) (fun _ _ _ _ _ _ => trivial) (fun _ self _ => by
      show impl_foldedFault.b0 _ _ _ _ = _
      unfold impl_foldedFault.b0
      simp [impl_foldedFault.Q0, impl_foldedFault.q0]) () trivial k (by omega)
  have this : impl_foldedFault.r0 k (xs, ()) 0 = _ := this
  unfold impl_foldedFault.raw impl_foldedFault.p foldF
  rw [this, show (60 : Int) = ((60 : Nat) : Int) from rfl]
  simp only [len60]
  by_cases h1 : 60 < xs.length <;> simp [h1] <;> rfl
end OT

set_option linter.unusedVariables false
set_option linter.unusedSimpArgs false
namespace OT
open Go

def txB (xs : List Buffer) (t : Int) : Int := whereF (fun b => decide (b.1 = t)) 0 xs
theorem where_le {α : Type} (p : α → Bool) : ∀ (xs : List α) (i j : Nat) (hj : j < xs.length), p xs[j] = true → (i : Int) ≤ whereF p i xs ∧ whereF p i xs ≤ ((i + j : Nat) : Int)
  | x :: xs, i, j, hj, h => by
    simp only [whereF]
    by_cases hx : p x = true
    · rw [if_pos hx]; omega
    · rw [if_neg hx]
      cases j with
      | zero => exact absurd h hx
      | succ j =>
        have := where_le p xs (i + 1) j (by simpa using hj) (by simpa using h)
        omega
def openStep (xs : List Buffer) (i : Nat) (b : Buffer) : Sum (Int × Unit) Unit :=
  if inB b.1 1 99 then (if foldF b.2.1 = 0 then (if txB xs b.1 = (i : Int) then .inr () else .inl (6, ())) else .inl (foldF b.2.1, ())) else .inl (3, ())
def minerF (m : Miner) : Int := if viewC m.1 = 0 then (if 8 < List.length m.2.1 then 2 else (forI (fun i (_ : Unit) b => openStep m.2.1 i b) (fun _ => ((0 : Int), ())) 0 m.2.1 ()).1) else viewC m.1
structure okM (m : Miner) : Prop where
  pl : List.length m.1 ≤ 1048576
  pages : ∀ p ∈ (m.1 : Pgs), p.length ≤ maxLen
  bl : List.length m.2.1 ≤ 1048576
  buf : ∀ b ∈ (m.2.1 : List Buffer), List.length b.2.1 ≤ 1048576 ∧ ∀ c ∈ (b.2.1 : List Change), cl c
theorem specMAt_eq (m : Miner) (t : Int) (h : List.length m.2.1 ≤ 1048576) : spec_l9At.sem (m, t, ()) = some (txB m.2.1 t, ()) := by
  refine lift_eq (k := 1048577) fun k hk => (spec_l9At.raw_eq k _).trans ?_
  have := for_loop (B := fun self v => spec_l9At.B0 k self (fun z => spec_l9At.Q0 k (m, t, ()) z) (m, t, ()) v) m.2.1 (fun (_ : Unit) (i : Int) => i) (fun i _ b => if decide (b.1 = t) then .inl ((i : Int), ()) else .inr ()) (fun _ => ((-1 : Int), ())) (fun _ _ => True) (by rw [maxLen_val]; omega)
    (fun i hi s self _ => by
      show spec_l9At.b0 _ _ _ _ = _
      unfold spec_l9At.b0
      have hlt : (i : Int) < (List.length m.2.1 : Int) := by omega
      simp only [hlt, decide_true, cond_true, Int.natCast_nonneg, if_true, Int.toNat_natCast, List.getElem?_eq_getElem hi, Option.bind_some]
      cases decide ((m.2.1[i]).1 = t) <;> rfl)
    (fun _ _ _ _ _ _ => trivial) (fun s self _ => by
      show spec_l9At.b0 _ _ _ _ = _
      unfold spec_l9At.b0
      simp only [Int.lt_irrefl, decide_false, cond_false]
      rfl) () trivial k (by omega)
  rw [forI_where (fun b : Buffer => decide (b.1 = t))] at this
  exact this
theorem implMAt_eq (m : Miner) (t : Int) (h : List.length m.2.1 ≤ 1048576) : impl_Miner_open.sem (m, t, ()) = some (txB m.2.1 t, ()) := by
  have hone : ∀ b : Buffer, impl_Miner_open_1.sem (b, t, ()) = some (decide (b.1 = t), ()) := fun b => by
    refine lift_eq (k := 0) fun k hk => (impl_Miner_open_1.raw_eq k _).trans ?_
    rfl
  have hidx : ∀ f : Nat, slices_IndexFunc_Buffer.sem (m.2.1, ((f, t) : Nat × Int), ()) = some (txB m.2.1 t, ()) := fun f => by
    refine lift_eq (k := 1048577) fun k hk => (slices_IndexFunc_Buffer.raw_eq k _).trans ?_
    have := for_loop (B := fun self v => slices_IndexFunc_Buffer.B0 k self (fun z => slices_IndexFunc_Buffer.Q0 k (m.2.1, (f, t), ()) z) (m.2.1, (f, t), ()) v) m.2.1 (fun (_ : Unit) (i : Int) => i) (fun i _ b => if decide (b.1 = t) then .inl ((i : Int), ()) else .inr ()) (fun _ => ((-1 : Int), ())) (fun _ _ => True) (by rw [maxLen_val]; omega)
      (fun i hi s self _ => by
        show slices_IndexFunc_Buffer.b0 _ _ _ _ = _
        unfold slices_IndexFunc_Buffer.b0
        have hlt : (i : Int) < (List.length m.2.1 : Int) := by omega
        simp only [hlt, decide_true, cond_true, Int.natCast_nonneg, if_true, Int.toNat_natCast, List.getElem?_eq_getElem hi, Option.bind_some, hone]
        cases decide ((m.2.1[i]).1 = t) <;> rfl)
      (fun _ _ _ _ _ _ => trivial) (fun s self _ => by
        show slices_IndexFunc_Buffer.b0 _ _ _ _ = _
        unfold slices_IndexFunc_Buffer.b0
        simp only [Int.lt_irrefl, decide_false, cond_false]
        rfl) () trivial k (by omega)
    rw [forI_where (fun b : Buffer => decide (b.1 = t))] at this
    exact this
  refine lift_eq (k := 0) fun k hk => (impl_Miner_open.raw_eq k _).trans ?_
  show impl_Miner_open.p _ = _
  unfold impl_Miner_open.p
  rw [hidx]
  rfl
theorem specMiner_eq (m : Miner) (h : okM m) : spec_l9Fault.sem (m, ()) = some (minerF m, ()) := by
  refine lift_eq (k := 1048577) fun k hk => (spec_l9Fault.raw_eq k _).trans ?_
  unfold spec_l9Fault.raw spec_l9Fault.p minerF
  rw [specView_eq m.1 h.pages]
  simp only [Option.bind_some]
  by_cases hv : viewC m.1 = 0
  rotate_left
  · simp only [hv, decide_false, Bool.not_false, cond_true, if_false]
  simp only [hv, decide_true, Bool.not_true, cond_false, if_true]
  by_cases h8 : 8 < List.length m.2.1
  · have : (8 : Int) < (List.length m.2.1 : Int) := by omega
    simp only [this, h8, decide_true, cond_true, if_true]
  have h8' : ¬ ((8 : Int) < (List.length m.2.1 : Int)) := by omega
  simp only [h8, h8', decide_false, cond_false, if_false]
  have hb := h.bl
  exact for_loop (B := fun self v => spec_l9Fault.B0 k self (fun z => spec_l9Fault.Q0 k (m, ()) z) (m, ()) v) m.2.1 (fun (_ : Unit) (i : Int) => i) (fun i _ b => openStep m.2.1 i b) (fun _ => ((0 : Int), ())) (fun _ _ => True) (by rw [maxLen_val]; omega)
    (fun i hi s self _ => by
      show spec_l9Fault.b0 _ _ _ _ = _
      unfold spec_l9Fault.b0 openStep
      have hlt : (i : Int) < (List.length m.2.1 : Int) := by omega
      obtain ⟨g1, g2⟩ := h.buf _ (List.getElem_mem hi)
      simp only [hlt, decide_true, cond_true, Int.natCast_nonneg, if_true, Int.toNat_natCast, List.getElem?_eq_getElem hi, Option.bind_some, specIn_eq, specList_eq _ (show List.length (m.2.1[i]).2.1 ≤ maxLen by rw [maxLen_val]; omega) g2, specMAt_eq m _ hb]
      unfold inB
      cases (decide ((1 : Int) ≤ (m.2.1[i]).1) && decide ((m.2.1[i]).1 ≤ 99)) with
      | false => rfl
      | true =>
        simp only [Bool.not_true, cond_false, if_true]
        by_cases hf : foldF (m.2.1[i]).2.1 = 0
        · simp only [hf, decide_true, Bool.not_true, cond_false, if_true]
          by_cases ht : txB m.2.1 (m.2.1[i]).1 = (i : Int)
          · simp only [ht, decide_true, Bool.not_true, cond_false, if_true]
          · simp only [ht, decide_false, Bool.not_false, cond_true, if_false]
        · simp only [hf, decide_false, Bool.not_false, cond_true, if_false])
    (fun _ _ _ _ _ _ => trivial) (fun s self _ => by
      show spec_l9Fault.b0 _ _ _ _ = _
      unfold spec_l9Fault.b0
      simp only [Int.lt_irrefl, decide_false, cond_false]
      rfl) () trivial k (by omega)
theorem implMiner_eq (m : Miner) (h : okM m) : impl_MinerFault.sem (m, ()) = some (minerF m, ()) := by
  refine lift_eq (k := 1048577) fun k hk => (impl_MinerFault.raw_eq k _).trans ?_
  unfold impl_MinerFault.raw impl_MinerFault.p minerF
  rw [implPages_eq m.1 h.pages]
  simp only [Option.bind_some]
  by_cases hv : viewC m.1 = 0
  rotate_left
  · simp only [hv, decide_false, Bool.not_false, cond_true, if_false]
  simp only [hv, decide_true, Bool.not_true, cond_false, if_true]
  by_cases h8 : 8 < List.length m.2.1
  · have : (8 : Int) < (List.length m.2.1 : Int) := by omega
    simp only [this, h8, decide_true, cond_true, if_true]
  have h8' : ¬ ((8 : Int) < (List.length m.2.1 : Int)) := by omega
  simp only [h8, h8', decide_false, cond_false, if_false]
  have hb := h.bl
  exact for_loop (B := fun self v => impl_MinerFault.B0 k self (fun z => impl_MinerFault.Q0 k (m, ()) z) (m, ()) v) m.2.1 (fun (_ : Unit) (i : Int) => i) (fun i _ b => openStep m.2.1 i b) (fun _ => ((0 : Int), ())) (fun _ _ => True) (by rw [maxLen_val]; omega)
    (fun i hi s self _ => by
      show impl_MinerFault.b0 _ _ _ _ = _
      unfold impl_MinerFault.b0 openStep
      have hlt : (i : Int) < (List.length m.2.1 : Int) := by omega
      obtain ⟨g1, g2⟩ := h.buf _ (List.getElem_mem hi)
      simp only [hlt, decide_true, cond_true, Int.natCast_nonneg, if_true, Int.toNat_natCast, List.getElem?_eq_getElem hi, Option.bind_some, isTx_eq, folded_eq _ (show List.length (m.2.1[i]).2.1 ≤ maxLen by rw [maxLen_val]; omega) g2, implMAt_eq m _ hb]
      unfold inB
      cases (decide ((1 : Int) ≤ (m.2.1[i]).1) && decide ((m.2.1[i]).1 ≤ 99)) with
      | false => rfl
      | true =>
        simp only [Bool.not_true, cond_false, if_true]
        by_cases hf : foldF (m.2.1[i]).2.1 = 0
        · simp only [hf, decide_true, Bool.not_true, cond_false, if_true]
          have hle := where_le (fun b : Buffer => decide (b.1 = (m.2.1[i]).1)) m.2.1 0 i hi (by simp)
          have hle2 : txB m.2.1 (m.2.1[i]).1 ≤ (i : Int) := by unfold txB; omega
          by_cases ht : txB m.2.1 (m.2.1[i]).1 = (i : Int)
          · have : ¬ (txB m.2.1 (m.2.1[i]).1 < (i : Int)) := by omega
            rw [decide_eq_false this, if_pos ht]
            rfl
          · have : txB m.2.1 (m.2.1[i]).1 < (i : Int) := by omega
            rw [decide_eq_true this, if_neg ht]
            rfl
        · simp only [hf, decide_false, Bool.not_false, cond_true, if_false])
    (fun _ _ _ _ _ _ => trivial) (fun s self _ => by
      show impl_MinerFault.b0 _ _ _ _ = _
      unfold impl_MinerFault.b0
      simp only [Int.lt_irrefl, decide_false, cond_false]
      rfl) () trivial k (by omega)

def connF (c : Connector) : Int := if minerF c.1 = 0 then (if minerF c.2.2.1 = 0 then (if inB c.2.1 0 16000 && inB c.2.2.2.1 0 c.2.1 then 0 else 3) else minerF c.2.2.1) else minerF c.1
theorem specConn_eq (c : Connector) (h1 : okM c.1) (h2 : okM c.2.2.1) : spec_l14Fault.sem (c, ()) = some (connF c, ()) := by
  refine lift_eq (k := 0) fun k hk => (spec_l14Fault.raw_eq k _).trans ?_
  show spec_l14Fault.p _ = _
  unfold spec_l14Fault.p connF
  simp only [specMiner_eq _ h1, specMiner_eq _ h2, specIn_eq, Option.bind_some]
  by_cases c1 : minerF c.1 = 0
  rotate_left
  · simp only [c1, decide_false, Bool.not_false, cond_true, if_false]
  by_cases c2 : minerF c.2.2.1 = 0
  rotate_left
  · simp only [c1, c2, decide_true, decide_false, Bool.not_true, Bool.not_false, cond_true, cond_false, if_true, if_false]
  simp only [c1, c2, decide_true, Bool.not_true, cond_false, if_true]
  unfold inB
  cases (decide ((0 : Int) ≤ c.2.1) && decide (c.2.1 ≤ 16000)) <;> cases (decide ((0 : Int) ≤ c.2.2.2.1) && decide (c.2.2.2.1 ≤ c.2.1)) <;> rfl
theorem implConn_eq (c : Connector) (h1 : okM c.1) (h2 : okM c.2.2.1) : impl_ConnectorFault.sem (c, ()) = some (connF c, ()) := by
  refine lift_eq (k := 0) fun k hk => (impl_ConnectorFault.raw_eq k _).trans ?_
  show impl_ConnectorFault.p _ = _
  unfold impl_ConnectorFault.p connF
  simp only [implMiner_eq _ h1, implMiner_eq _ h2, implIn_eq, Option.bind_some]
  by_cases c1 : minerF c.1 = 0
  rotate_left
  · simp only [c1, decide_false, Bool.not_false, cond_true, if_false]
  by_cases c2 : minerF c.2.2.1 = 0
  rotate_left
  · simp only [c1, c2, decide_true, decide_false, Bool.not_true, Bool.not_false, cond_true, cond_false, if_true, if_false]
  simp only [c1, c2, decide_true, Bool.not_true, cond_false, if_true]
  unfold inB
  cases (decide ((0 : Int) ≤ c.2.1) && decide (c.2.1 ≤ 16000)) <;> cases (decide ((0 : Int) ≤ c.2.2.2.1) && decide (c.2.2.2.1 ≤ c.2.1)) <;> rfl

/-! Copies. -/
structure fineM (m : Miner) : Prop where
  pages : gp m.1
  bl : List.length m.2.1 ≤ 1048576
  buf : ∀ b ∈ (m.2.1 : List Buffer), List.length b.2.1 ≤ 1048576
/-! What the laws hand over. -/
theorem okM_of {m : Miner} (hv : okD tMiner m) (hz : zz tMiner m ≤ 1048576) : okM m := by
  have h0 : zz tMiner m = zz (.slc (.slc u8)) m.1 + (zz (.slc tBuffer) m.2.1 + 0) := rfl
  have h1 : List.length m.1 ≤ zz (.slc (.slc u8)) m.1 := zz_len (e := .slc u8) m.1
  have h2 : List.length m.2.1 ≤ zz (.slc tBuffer) m.2.1 := zz_len (e := tBuffer) m.2.1
  refine ⟨by omega, fun p hp => ?_, by omega, fun b hb => ⟨?_, fun c hc => ?_⟩⟩
  · have h3 := zz_mem (e := .slc u8) hp
    have h4 : List.length p ≤ zz (.slc u8) p := zz_len (e := u8) p
    rw [maxLen_val]; omega
  · have h3 := zz_mem (e := tBuffer) hb
    have h4 : zz tBuffer b = 0 + (zz (.slc tChange) b.2.1 + 0) := rfl
    have h5 : List.length b.2.1 ≤ zz (.slc tChange) b.2.1 := zz_len (e := tChange) b.2.1
    omega
  · exact cl_ok ((hv.2.1.2 b hb).2.1.2 c hc)
end OT

set_option linter.unusedVariables false
set_option linter.unusedSimpArgs false
namespace OT
open Go

end OT

set_option linter.unusedVariables false
set_option linter.unusedSimpArgs false
namespace OT
open Go

theorem specConnF_eq (c : Connector) (h1 : okM c.1) (h2 : okM c.2.2.1) : spec_ConnectorFault.sem (c, ()) = some (connF c, ()) := by
  refine lift_eq (k := 0) fun k hk => (spec_ConnectorFault.raw_eq k _).trans ?_
  show spec_ConnectorFault.p _ = _
  unfold spec_ConnectorFault.p
  rw [specConn_eq c h1 h2]
  rfl
theorem connFault_true (v : laws_FnExactConnectorFault.Arg) (hv : okA laws_FnExactConnectorFault.ps v) : laws_FnExactConnectorFault.sem v = some (true, ()) := by
  obtain ⟨c, ⟨⟩⟩ := v
  obtain ⟨hv_c, _⟩ := hv
  refine lift_eq (k := 0) fun k _ => (laws_FnExactConnectorFault.raw_eq k _).trans ?_
  show laws_FnExactConnectorFault.p _ = _
  unfold laws_FnExactConnectorFault.p
  simp only [szConnector_eq c 1048576 hv_c (show (0 : Int) ≤ 1048576 by omega) (by omega), Option.bind_some]
  by_cases hz1 : ((zz tConnector c : Nat) : Int) ≤ 1048576
  rotate_left
  · have : lft (1048576) (zz tConnector c) = -1 := if_neg hz1
    simp only [this]
    rfl
  have e1 : lft (1048576) (zz tConnector c) = 1048576 - ((zz tConnector c : Nat) : Int) := if_pos hz1
  have n1 : ¬ (1048576 - ((zz tConnector c : Nat) : Int) < 0) := by omega
  have hz0 : zz tConnector c = zz tMiner c.1 + (0 + (zz tMiner c.2.2.1 + (0 + 0))) := rfl
  have h1 : okM c.1 := okM_of hv_c.1 (by omega)
  have h2 : okM c.2.2.1 := okM_of hv_c.2.2.1 (by omega)
  simp only [e1, n1, decide_false, cond_false, toConnector_eq c (by omega), specConnF_eq c h1 h2, implConn_eq c h1 h2, eqConnector_self c (by omega), Option.bind_some, Bool.not_true, decide_true, cond_true]

end OT

namespace Go.Proofs.Ytcpoeochapnmlaa.connectorFault
open Go Go.ChangeShapes Go.WideShapes Go.ChangeAt Go.RowKit

theorem own : ownKnob Try.prog.godebug = none := by kernel_rfl
theorem laidOut : laidOutB Try.prog = true := by kernel_rfl
theorem htrue : ∀ v, OT.okA OT.laws_FnExactConnectorFault.ps v → ∃ u, OT.laws_FnExactConnectorFault.sem v = some (true, u) := fun v hv => ⟨(), OT.connFault_true v hv⟩

theorem trod_len {H : Type} {enc : TypeId × Value → H} {P : Program} {w : World} {base : Nat} {sp : Nat → Bool} {held : Bool} : ∀ (ts : List TypeId) (vs : List Value) (ds : List (DataW H)) (ps : List MemPlace), DataW.TrodAll enc P w base sp held ts vs ds ps → ds.length = ts.length
  | [], [], [], _, _ => rfl
  | _ :: ts, _ :: vs, _ :: ds, _, ⟨_, q, _, h, _⟩ => congrArg (· + 1) (trod_len ts vs ds q h)
  | [], _ :: _, _, _, h => h.elim
  | [], [], _ :: _, _, h => h.elim
  | _ :: _, [], _, _, h => h.elim
  | _ :: _, _ :: _, [], _, h => h.elim

set_option maxRecDepth 100000 in
theorem lifted (os : Os) (started : os.Started) (H : Type) (enc : TypeId × Value → H) :
    ReturnsInHanded {} Try.checked os 4 .any (Rows.fnExactConnectorFaultSpec.pre6 enc Try.prog Try.f4 Rows.fnExactConnectorFaultRow.domain false) (Rows.fnExactConnectorFaultSpec.post enc Try.prog Try.f4 false true false false) := by
  refine returnsInHanded_of_change (C := Try.checked) own started (by kernel_rfl) Try.func4
    (ChangeSpec.witness6 (enc := enc) (C := Try.checked) false ⟨#[], #[.agg #[.slice none 0 0, .slice none 0 0, .int .i64 0, .slice none 0 0, .slice none 0 0, .int .i64 0]], []⟩ 8 (by kernel_rfl) (by kernel_rfl) (by kernel_rfl) (by kernel_rfl)) ?_
  intro W base args ds gs before hval0 hW hcnd _
  have hval : ∀ (j : Nat) t v, Try.f4.params[j]? = some t → args[j]? = some v → Value.okWide Try.prog W .any base t v := hval0
  have hW' := hW
  obtain ⟨p, q, hA0, hV, rfl, hfz, hnd⟩ := hW
  have hA : DataW.TrodAll enc Try.prog W 0 (fun _ => true) true Try.f4.params.toList args.toList ds p := hA0
  obtain ⟨rfl, rfl⟩ := trodVars_none hV
  simp only [List.append_nil] at hW'
  have hl : OT.roLay Try.prog OT.laws_FnExactConnectorFault.ps Try.f4.params.toList = true := by kernel_rfl
  have hc := OT.law_calls (enc := enc) OT.laws_FnExactConnectorFault.ok.1 htrue hl hA (b0 := base) (fun j t v ht hv => hval j t v (by simpa using ht) (by simpa using hv))
  simp only [Array.toArray_toList] at hc
  refine hc.mono fun e W' ⟨he, hb⟩ => ?_
  refine ⟨_, he, OT.law_post (C := Try.checked) laidOut rfl hl (by kernel_rfl) Try.underlying4 rfl hW' hA ?_ hb⟩
  have hlen : ds.length = 1 := trod_len _ _ _ _ hA
  match ds, hlen with
  | [d1], _ => rfl

set_option maxHeartbeats 8000000 in
/-- The row's closed facts, each by itself. -/
theorem closed : joinedFacts Try.prog 4 Try.f4 Rows.fnExactConnectorFaultSpec Rows.fnExactConnectorFaultRow = true := by
  unfold joinedFacts
  simp only [Bool.and_eq_true]
  repeat' apply And.intro
  all_goals (as_aux_lemma => kernel_rfl)

theorem over : Rows.fnExactConnectorFaultRow.holds Try.pinned (OpenSpec.ofChange Rows.fnExactConnectorFaultSpec) :=
  OpenClaim.holds_of_wide 4 Try.f4 rfl rfl rfl rfl rfl rfl rfl ⟨rfl, rfl, rfl, rfl, rfl⟩ rfl rfl rfl rfl rfl (by kernel_rfl) Try.func4 closed
    (of_decide_eq_true (by kernel_rfl)) (by unfold Func.isWrapper; first | (rw [if_pos (by decide +kernel)]; kernel_rfl) | (rw [if_neg (by decide +kernel)]; exact ⟨rfl, rfl⟩))
    (fun os started H enc _ => lifted os started H enc)
theorem proved : Rows.FnExactConnectorFaultSaid := over
#print axioms proved
end Go.Proofs.Ytcpoeochapnmlaa.connectorFault
