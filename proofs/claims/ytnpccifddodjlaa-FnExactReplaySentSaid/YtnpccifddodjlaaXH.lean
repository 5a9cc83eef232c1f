/- Printed by px.py, a program of this claim: what the helpers of the laws compute. -/
import Derived.Test.YtnpccifddodjlaaG0
import Derived.Test.YtnpccifddodjlaaOUm
set_option linter.unusedVariables false
set_option linter.unusedSimpArgs false
namespace OT
open Go
theorem szRow_eq (x : Row) (n : Int) (hx : okD tRow x) (h0 : 0 ≤ n) (h1 : n ≤ 1048576) : laws_szRow.sem (x, n, ()) = some (lft n (zz tRow x), ()) := by
  have hz : zz tRow x = (0 + (0 + (0 + (List.length x.2.2.2.1 + 0)))) := rfl
  refine lift_eq (k := 0) fun k _ => (laws_szRow.raw_eq k _).trans ?_
  show laws_szRow.p _ = _
  unfold laws_szRow.p
  have hw : w64 (n - (List.length x.2.2.2.1 : Int)) = n - (List.length x.2.2.2.1 : Int) := w64_in (by have h9 := hx.2.2.2.1; simp only [okD] at h9; rw [maxLen_val] at h9; omega)
  simp only [hw]
  by_cases hc : ((List.length x.2.2.2.1 : Nat) : Int) ≤ n
  rotate_left
  · have n1 : n - ((List.length x.2.2.2.1 : Nat) : Int) < 0 := by omega
    have e2 : lft n (zz tRow x) = -1 := if_neg (by omega)
    rw [e2]; simp only [n1, decide_true, cond_true]
  have n1 : ¬ (n - ((List.length x.2.2.2.1 : Nat) : Int) < 0) := by omega
  simp only [n1, decide_false, cond_false]
  clear n1 hw
  have e2 : lft n (zz tRow x) = (n - ((List.length x.2.2.2.1 : Nat) : Int)) := by unfold lft; rw [if_pos (by omega)]; omega
  rw [e2]
theorem szChange_eq (x : Change) (n : Int) (hx : okD tChange x) (h0 : 0 ≤ n) (h1 : n ≤ 1048576) : laws_szChange.sem (x, n, ()) = some (lft n (zz tChange x), ()) := by
  have hz : zz tChange x = (0 + ((0 + (0 + (0 + (List.length x.2.1.2.2.2.1 + 0)))) + (0 + ((0 + (0 + (0 + (List.length x.2.2.2.1.2.2.2.1 + 0)))) + 0)))) := rfl
  refine lift_eq (k := 0) fun k _ => (laws_szChange.raw_eq k _).trans ?_
  show laws_szChange.p _ = _
  unfold laws_szChange.p
  have hz1 : zz tRow x.2.1 = (0 + (0 + (0 + (List.length x.2.1.2.2.2.1 + 0)))) := rfl
  simp only [szRow_eq x.2.1 (n) hx.2.1 (by omega) (by omega), Option.bind_some]
  by_cases hc : ((zz tRow x.2.1 : Nat) : Int) ≤ n
  rotate_left
  · have e1 : lft (n) (zz tRow x.2.1) = -1 := if_neg hc
    have e2 : lft n (zz tChange x) = -1 := if_neg (by omega)
    rw [e1, e2]; rfl
  have e1 : lft (n) (zz tRow x.2.1) = n - ((zz tRow x.2.1 : Nat) : Int) := if_pos hc
  have n1 : ¬ (n - ((zz tRow x.2.1 : Nat) : Int) < 0) := by omega
  simp only [e1, n1, decide_false, cond_false]
  clear e1 n1
  have hz3 : zz tRow x.2.2.2.1 = (0 + (0 + (0 + (List.length x.2.2.2.1.2.2.2.1 + 0)))) := rfl
  simp only [szRow_eq x.2.2.2.1 ((n - ((zz tRow x.2.1 : Nat) : Int))) hx.2.2.2.1 (by omega) (by omega), Option.bind_some]
  by_cases hc : ((zz tRow x.2.2.2.1 : Nat) : Int) ≤ (n - ((zz tRow x.2.1 : Nat) : Int))
  rotate_left
  · have e1 : lft ((n - ((zz tRow x.2.1 : Nat) : Int))) (zz tRow x.2.2.2.1) = -1 := if_neg hc
    have e2 : lft n (zz tChange x) = -1 := if_neg (by omega)
    rw [e1, e2]; rfl
  have e1 : lft ((n - ((zz tRow x.2.1 : Nat) : Int))) (zz tRow x.2.2.2.1) = (n - ((zz tRow x.2.1 : Nat) : Int)) - ((zz tRow x.2.2.2.1 : Nat) : Int) := if_pos hc
  have n1 : ¬ ((n - ((zz tRow x.2.1 : Nat) : Int)) - ((zz tRow x.2.2.2.1 : Nat) : Int) < 0) := by omega
  simp only [e1, n1, decide_false, cond_false]
  clear e1 n1
  have e2 : lft n (zz tChange x) = ((n - ((zz tRow x.2.1 : Nat) : Int)) - ((zz tRow x.2.2.2.1 : Nat) : Int)) := by unfold lft; rw [if_pos (by omega)]; omega
  rw [e2]
theorem szChangeS_eq (x : List Change) (n : Int) (hx : okD (.slc tChange) x) (h0 : 0 ≤ n) (h1 : n ≤ 1048576) : laws_szChangeS.sem (x, n, ()) = some (lft n (zz (.slc tChange) x), ()) := by
  obtain ⟨hl, hel⟩ := hx
  have hl' := hl
  rw [maxLen_val] at hl'
  have hl' : List.length x ≤ 9223372036854775807 := hl'
  have hw : w64 (n - (List.length x : Int)) = n - (List.length x : Int) := w64_in (by omega)
  have hz : zz (.slc tChange) x = List.length x + sumW (zz tChange) x := rfl
  by_cases hc : n - (List.length x : Int) < 0
  · have e1 : lft n (zz (.slc tChange) x) = -1 := if_neg (by omega)
    rw [e1]
    refine lift_eq (k := 0) fun k _ => (laws_szChangeS.raw_eq k _).trans ?_
    unfold laws_szChangeS.raw laws_szChangeS.p
    simp only [hw, hc, decide_true, cond_true]
    rfl
  · have e1 : lft n (zz (.slc tChange) x) = lft (n - (List.length x : Int)) (sumW (zz tChange) x) := by rw [hz, lft_add (by omega)]
    rw [e1]
    refine lift_eq (k := List.length x + 1) fun k hk => (laws_szChangeS.raw_eq k _).trans ?_
    unfold laws_szChangeS.raw laws_szChangeS.p
    simp only [hw, hc, decide_false, cond_false]
    exact sz_loop (B := fun self v => laws_szChangeS.B0 0 self (fun z => laws_szChangeS.Q0 0 (x, n, ()) z) (x, n, ()) v) (xs := x) hl (zz tChange) (fun i hi m self hm0 hm1 => by
        show laws_szChangeS.b0 _ _ _ _ = _
        unfold laws_szChangeS.b0
        have hlt : (i : Int) < (List.length x : Int) := by omega
        simp only [hlt, decide_true, cond_true, Int.natCast_nonneg, if_true, Int.toNat_natCast, List.getElem?_eq_getElem hi, Option.bind_some, szChange_eq x[i] m (hel _ (List.getElem_mem hi)) hm0 hm1]
        by_cases hs : lft m (zz tChange x[i]) < 0 <;> simp [hs]) (fun m self => by
        show laws_szChangeS.b0 _ _ _ _ = _
        unfold laws_szChangeS.b0
        simp [laws_szChangeS.Q0, laws_szChangeS.q0]) _ (by omega) (by omega) k (by omega)
theorem szSent_eq (x : Sent) (n : Int) (hx : okD tSent x) (h0 : 0 ≤ n) (h1 : n ≤ 1048576) : laws_szSent.sem (x, n, ()) = some (lft n (zz tSent x), ()) := by
  have hz : zz tSent x = (0 + (0 + (zz (.slc tChange) x.2.2.1 + 0))) := rfl
  refine lift_eq (k := 0) fun k _ => (laws_szSent.raw_eq k _).trans ?_
  show laws_szSent.p _ = _
  unfold laws_szSent.p
  simp only [szChangeS_eq x.2.2.1 (n) hx.2.2.1 (by omega) (by omega), Option.bind_some]
  by_cases hc : ((zz (.slc tChange) x.2.2.1 : Nat) : Int) ≤ n
  rotate_left
  · have e1 : lft (n) (zz (.slc tChange) x.2.2.1) = -1 := if_neg hc
    have e2 : lft n (zz tSent x) = -1 := if_neg (by omega)
    rw [e1, e2]; rfl
  have e1 : lft (n) (zz (.slc tChange) x.2.2.1) = n - ((zz (.slc tChange) x.2.2.1 : Nat) : Int) := if_pos hc
  have n1 : ¬ (n - ((zz (.slc tChange) x.2.2.1 : Nat) : Int) < 0) := by omega
  simp only [e1, n1, decide_false, cond_false]
  clear e1 n1
  have e2 : lft n (zz tSent x) = (n - ((zz (.slc tChange) x.2.2.1 : Nat) : Int)) := by unfold lft; rw [if_pos (by omega)]; omega
  rw [e2]
theorem szSentS_eq (x : List Sent) (n : Int) (hx : okD (.slc tSent) x) (h0 : 0 ≤ n) (h1 : n ≤ 1048576) : laws_szSentS.sem (x, n, ()) = some (lft n (zz (.slc tSent) x), ()) := by
  obtain ⟨hl, hel⟩ := hx
  have hl' := hl
  rw [maxLen_val] at hl'
  have hl' : List.length x ≤ 9223372036854775807 := hl'
  have hw : w64 (n - (List.length x : Int)) = n - (List.length x : Int) := w64_in (by omega)
  have hz : zz (.slc tSent) x = List.length x + sumW (zz tSent) x := rfl
  by_cases hc : n - (List.length x : Int) < 0
  · have e1 : lft n (zz (.slc tSent) x) = -1 := if_neg (by omega)
    rw [e1]
    refine lift_eq (k := 0) fun k _ => (laws_szSentS.raw_eq k _).trans ?_
    unfold laws_szSentS.raw laws_szSentS.p
    simp only [hw, hc, decide_true, cond_true]
    rfl
  · have e1 : lft n (zz (.slc tSent) x) = lft (n - (List.length x : Int)) (sumW (zz tSent) x) := by rw [hz, lft_add (by omega)]
    rw [e1]
    refine lift_eq (k := List.length x + 1) fun k hk => (laws_szSentS.raw_eq k _).trans ?_
    unfold laws_szSentS.raw laws_szSentS.p
    simp only [hw, hc, decide_false, cond_false]
    exact sz_loop (B := fun self v => laws_szSentS.B0 0 self (fun z => laws_szSentS.Q0 0 (x, n, ()) z) (x, n, ()) v) (xs := x) hl (zz tSent) (fun i hi m self hm0 hm1 => by
        show laws_szSentS.b0 _ _ _ _ = _
        unfold laws_szSentS.b0
        have hlt : (i : Int) < (List.length x : Int) := by omega
        simp only [hlt, decide_true, cond_true, Int.natCast_nonneg, if_true, Int.toNat_natCast, List.getElem?_eq_getElem hi, Option.bind_some, szSent_eq x[i] m (hel _ (List.getElem_mem hi)) hm0 hm1]
        by_cases hs : lft m (zz tSent x[i]) < 0 <;> simp [hs]) (fun m self => by
        show laws_szSentS.b0 _ _ _ _ = _
        unfold laws_szSentS.b0
        simp [laws_szSentS.Q0, laws_szSentS.q0]) _ (by omega) (by omega) k (by omega)
theorem toRow_eq (x : Row) (h : zz tRow x ≤ 1048576) : laws_toRow.sem (x, ()) = some (x, ()) := by
  have hz : zz tRow x = (0 + (0 + (0 + (List.length x.2.2.2.1 + 0)))) := rfl
  refine lift_eq (k := 0) fun k _ => (laws_toRow.raw_eq k _).trans ?_
  show laws_toRow.p _ = _
  unfold laws_toRow.p
  rfl
theorem toChange_eq (x : Change) (h : zz tChange x ≤ 1048576) : laws_toChange.sem (x, ()) = some (x, ()) := by
  have hz : zz tChange x = (0 + ((0 + (0 + (0 + (List.length x.2.1.2.2.2.1 + 0)))) + (0 + ((0 + (0 + (0 + (List.length x.2.2.2.1.2.2.2.1 + 0)))) + 0)))) := rfl
  have hz1 : zz tRow x.2.1 = (0 + (0 + (0 + (List.length x.2.1.2.2.2.1 + 0)))) := rfl
  have hz3 : zz tRow x.2.2.2.1 = (0 + (0 + (0 + (List.length x.2.2.2.1.2.2.2.1 + 0)))) := rfl
  refine lift_eq (k := 0) fun k _ => (laws_toChange.raw_eq k _).trans ?_
  show laws_toChange.p _ = _
  unfold laws_toChange.p
  simp only [toRow_eq x.2.1 (by omega), toRow_eq x.2.2.2.1 (by omega), Option.bind_some]
theorem toChangeS_eq (x : List Change) (h : zz (.slc tChange) x ≤ 1048576) : laws_toChangeS.sem (x, ()) = some (x, ()) := by
  have hl : x.length ≤ 1048576 := Nat.le_trans (zz_len (e := tChange) x) h
  refine lift_eq (k := x.length + 1) fun k hk => (laws_toChangeS.raw_eq k _).trans ?_
  unfold laws_toChangeS.raw laws_toChangeS.p
  have hc : 0 ≤ (x.length : Int) ∧ (x.length : Int) ≤ (x.length : Int) ∧ (x.length : Int) ≤ (CAP : Int) := by simp only [CAP]; omega
  simp only [hc, and_self, if_true, Int.toNat_natCast]
  exact copy_loop (B := fun self v => laws_toChangeS.B0 k self (fun z => laws_toChangeS.Q0 k (x, ()) z) (x, ()) v) (xs := x) (by rw [maxLen_val]; omega) (fun i hi acc self ha => by
    show laws_toChangeS.b0 _ _ _ _ = _
    unfold laws_toChangeS.b0
    have hlt : (i : Int) < (x.length : Int) := by omega
    have hlt2 : (i : Int) < (acc.length : Int) := by omega
    simp only [hlt, hlt2, decide_true, cond_true, Int.natCast_nonneg, and_self, if_true, Int.toNat_natCast, List.getElem?_eq_getElem hi, List.getElem?_eq_getElem (show i < acc.length by omega), Option.bind_some, toChange_eq x[i] (by have := zz_mem (e := tChange) (List.getElem_mem hi); omega)]) (fun acc self => by
    show laws_toChangeS.b0 _ _ _ _ = _
    unfold laws_toChangeS.b0
    simp [laws_toChangeS.Q0, laws_toChangeS.q0]) _ k (by omega)
theorem toSent_eq (x : Sent) (h : zz tSent x ≤ 1048576) : laws_toSent.sem (x, ()) = some (x, ()) := by
  have hz : zz tSent x = (0 + (0 + (zz (.slc tChange) x.2.2.1 + 0))) := rfl
  refine lift_eq (k := 0) fun k _ => (laws_toSent.raw_eq k _).trans ?_
  show laws_toSent.p _ = _
  unfold laws_toSent.p
  simp only [toChangeS_eq x.2.2.1 (by omega), Option.bind_some]
theorem toSentS_eq (x : List Sent) (h : zz (.slc tSent) x ≤ 1048576) : laws_toSentS.sem (x, ()) = some (x, ()) := by
  have hl : x.length ≤ 1048576 := Nat.le_trans (zz_len (e := tSent) x) h
  refine lift_eq (k := x.length + 1) fun k hk => (laws_toSentS.raw_eq k _).trans ?_
  unfold laws_toSentS.raw laws_toSentS.p
  have hc : 0 ≤ (x.length : Int) ∧ (x.length : Int) ≤ (x.length : Int) ∧ (x.length : Int) ≤ (CAP : Int) := by simp only [CAP]; omega
  simp only [hc, and_self, if_true, Int.toNat_natCast]
  exact copy_loop (B := fun self v => laws_toSentS.B0 k self (fun z => laws_toSentS.Q0 k (x, ()) z) (x, ()) v) (xs := x) (by rw [maxLen_val]; omega) (fun i hi acc self ha => by
    show laws_toSentS.b0 _ _ _ _ = _
    unfold laws_toSentS.b0
    have hlt : (i : Int) < (x.length : Int) := by omega
    have hlt2 : (i : Int) < (acc.length : Int) := by omega
    simp only [hlt, hlt2, decide_true, cond_true, Int.natCast_nonneg, and_self, if_true, Int.toNat_natCast, List.getElem?_eq_getElem hi, List.getElem?_eq_getElem (show i < acc.length by omega), Option.bind_some, toSent_eq x[i] (by have := zz_mem (e := tSent) (List.getElem_mem hi); omega)]) (fun acc self => by
    show laws_toSentS.b0 _ _ _ _ = _
    unfold laws_toSentS.b0
    simp [laws_toSentS.Q0, laws_toSentS.q0]) _ k (by omega)
theorem eqRow_self (x : Row) (h : zz tRow x ≤ 4611686018427387904) : laws_eqRow.sem (x, x, ()) = some (true, ()) := by
  have hz : zz tRow x = (0 + (0 + (0 + (List.length x.2.2.2.1 + 0)))) := rfl
  refine lift_eq (k := 0) fun k _ => (laws_eqRow.raw_eq k _).trans ?_
  show laws_eqRow.p _ = _
  unfold laws_eqRow.p
  simp []
theorem eqChange_self (x : Change) (h : zz tChange x ≤ 4611686018427387904) : laws_eqChange.sem (x, x, ()) = some (true, ()) := by
  have hz : zz tChange x = (0 + ((0 + (0 + (0 + (List.length x.2.1.2.2.2.1 + 0)))) + (0 + ((0 + (0 + (0 + (List.length x.2.2.2.1.2.2.2.1 + 0)))) + 0)))) := rfl
  have hz1 : zz tRow x.2.1 = (0 + (0 + (0 + (List.length x.2.1.2.2.2.1 + 0)))) := rfl
  have hz3 : zz tRow x.2.2.2.1 = (0 + (0 + (0 + (List.length x.2.2.2.1.2.2.2.1 + 0)))) := rfl
  refine lift_eq (k := 0) fun k _ => (laws_eqChange.raw_eq k _).trans ?_
  show laws_eqChange.p _ = _
  unfold laws_eqChange.p
  have q0 := eqRow_self x.2.1 (by omega)
  have q1 := eqRow_self x.2.2.2.1 (by omega)
  simp [q0, q1]
theorem eqChangeS_self (x : List Change) (h : zz (.slc tChange) x ≤ 4611686018427387904) : laws_eqChangeS.sem (x, x, ()) = some (true, ()) := by
  have hl : x.length ≤ 4611686018427387904 := Nat.le_trans (zz_len (e := tChange) x) h
  refine lift_eq (k := x.length + 1) fun k hk => (laws_eqChangeS.raw_eq k _).trans ?_
  unfold laws_eqChangeS.raw laws_eqChangeS.p
  simp only [decide_true, Bool.not_true, cond_false]
  have := all_loop (B := fun self v => laws_eqChangeS.B0 k self (fun z => laws_eqChangeS.Q0 k (x, x, ()) z) (x, x, ()) v) (xs := x) (ys := x) (fun _ _ => true) rfl (by rw [maxLen_val]; omega) (fun i hi hj self => by
      show laws_eqChangeS.b0 _ _ _ _ = _
      unfold laws_eqChangeS.b0
      have hlt : (i : Int) < (x.length : Int) := by omega
      simp only [hlt, decide_true, cond_true, Int.natCast_nonneg, if_true, Int.toNat_natCast, List.getElem?_eq_getElem hi, Option.bind_some, Bool.not_true, cond_false, eqChange_self x[i] (by have := zz_mem (e := tChange) (List.getElem_mem hi); omega)]) (fun self => by
      show laws_eqChangeS.b0 _ _ _ _ = _
      unfold laws_eqChangeS.b0
      simp [laws_eqChangeS.Q0, laws_eqChangeS.q0]) k (by omega)
  rw [show allB (fun _ _ => true) x x = true by simp [allB]] at this
  exact this
theorem eqSent_self (x : Sent) (h : zz tSent x ≤ 4611686018427387904) : laws_eqSent.sem (x, x, ()) = some (true, ()) := by
  have hz : zz tSent x = (0 + (0 + (zz (.slc tChange) x.2.2.1 + 0))) := rfl
  refine lift_eq (k := 0) fun k _ => (laws_eqSent.raw_eq k _).trans ?_
  show laws_eqSent.p _ = _
  unfold laws_eqSent.p
  have q0 := eqChangeS_self x.2.2.1 (by omega)
  simp [q0]
theorem eqSentS_self (x : List Sent) (h : zz (.slc tSent) x ≤ 4611686018427387904) : laws_eqSentS.sem (x, x, ()) = some (true, ()) := by
  have hl : x.length ≤ 4611686018427387904 := Nat.le_trans (zz_len (e := tSent) x) h
  refine lift_eq (k := x.length + 1) fun k hk => (laws_eqSentS.raw_eq k _).trans ?_
  unfold laws_eqSentS.raw laws_eqSentS.p
  simp only [decide_true, Bool.not_true, cond_false]
  have := all_loop (B := fun self v => laws_eqSentS.B0 k self (fun z => laws_eqSentS.Q0 k (x, x, ()) z) (x, x, ()) v) (xs := x) (ys := x) (fun _ _ => true) rfl (by rw [maxLen_val]; omega) (fun i hi hj self => by
      show laws_eqSentS.b0 _ _ _ _ = _
      unfold laws_eqSentS.b0
      have hlt : (i : Int) < (x.length : Int) := by omega
      simp only [hlt, decide_true, cond_true, Int.natCast_nonneg, if_true, Int.toNat_natCast, List.getElem?_eq_getElem hi, Option.bind_some, Bool.not_true, cond_false, eqSent_self x[i] (by have := zz_mem (e := tSent) (List.getElem_mem hi); omega)]) (fun self => by
      show laws_eqSentS.b0 _ _ _ _ = _
      unfold laws_eqSentS.b0
      simp [laws_eqSentS.Q0, laws_eqSentS.q0]) k (by omega)
  rw [show allB (fun _ _ => true) x x = true by simp [allB]] at this
  exact this
theorem eqRowS_self (x : List Row) (h : zz (.slc tRow) x ≤ 4611686018427387904) : laws_eqRowS.sem (x, x, ()) = some (true, ()) := by
  have hl : x.length ≤ 4611686018427387904 := Nat.le_trans (zz_len (e := tRow) x) h
  refine lift_eq (k := x.length + 1) fun k hk => (laws_eqRowS.raw_eq k _).trans ?_
  unfold laws_eqRowS.raw laws_eqRowS.p
  simp only [decide_true, Bool.not_true, cond_false]
  have := all_loop (B := fun self v => laws_eqRowS.B0 k self (fun z => laws_eqRowS.Q0 k (x, x, ()) z) (x, x, ()) v) (xs := x) (ys := x) (fun _ _ => true) rfl (by rw [maxLen_val]; omega) (fun i hi hj self => by
      show laws_eqRowS.b0 _ _ _ _ = _
      unfold laws_eqRowS.b0
      have hlt : (i : Int) < (x.length : Int) := by omega
      simp only [hlt, decide_true, cond_true, Int.natCast_nonneg, if_true, Int.toNat_natCast, List.getElem?_eq_getElem hi, Option.bind_some, Bool.not_true, cond_false, eqRow_self x[i] (by have := zz_mem (e := tRow) (List.getElem_mem hi); omega)]) (fun self => by
      show laws_eqRowS.b0 _ _ _ _ = _
      unfold laws_eqRowS.b0
      simp [laws_eqRowS.Q0, laws_eqRowS.q0]) k (by omega)
  rw [show allB (fun _ _ => true) x x = true by simp [allB]] at this
  exact this
noncomputable def mtext (n : Int) : List UInt8 := ((laws_markText.sem (n, ())).map (·.1)).getD []
theorem markText_eq (n : Int) (h : n ≤ 9223372036854775807) : laws_markText.sem (n, ()) = some (mtext n, ()) := by
  have main : ∃ t, laws_markText.sem (n, ()) = some (t, ()) := by
    by_cases hn : n ≤ 0
    · refine ⟨[109, 48], lift_eq (k := 0) fun k _ => (laws_markText.raw_eq k _).trans ?_⟩
      unfold laws_markText.raw laws_markText.p
      simp only [hn, decide_true, cond_true]
      rfl
    · have key : ∀ (f : Nat) (m : Int) (out : List UInt8), 0 ≤ m → m ≤ 9223372036854775807 → m < 10 ^ f → out.length + f ≤ 100 → ∃ t, t.length ≤ 100 ∧ ∀ k, f < k → rawIter (fun self v => laws_markText.B0 0 self (fun z => laws_markText.Q0 0 (n, ()) z) (n, ()) v) k (m, out) = some (109 :: t, ()) := by
        intro f
        induction f with
        | zero =>
          intro m out h0 h9 h1 h2
          have hm : m = 0 := by simp at h1; omega
          subst hm
          refine ⟨out, by omega, fun k hk => ?_⟩
          cases k with
          | zero => omega
          | succ k =>
            rw [rawIter_succ]
            show laws_markText.b0 _ _ _ _ = _
            unfold laws_markText.b0 laws_markText.Q0 laws_markText.q0
            have hc : ([109] : List UInt8).length + out.length ≤ CAP := by simp only [CAP, List.length_cons, List.length_nil]; omega
            simp only [show ¬ ((0 : Int) < 0) by omega, decide_false, cond_false, hc, if_true]
            rfl
        | succ f ih =>
          intro m out h0 h9 h1 h2
          by_cases hm : 0 < m
          · have hq0 : 0 ≤ m.tdiv 10 := Int.tdiv_nonneg h0 (by omega)
            have hq : m.tdiv 10 < 10 ^ f := by
              rw [Int.tdiv_eq_ediv_of_nonneg h0]
              have : (10 : Int) ^ (f + 1) = 10 ^ f * 10 := Int.pow_succ 10 f
              omega
            have hd := Int.emod_nonneg m (b := 10) (by omega)
            have hd2 := Int.emod_lt_of_pos m (b := 10) (by omega)
            obtain ⟨t, t1, t2⟩ := ih (m.tdiv 10) ([UInt8.ofInt (w64 (48 + m.tmod 10))] ++ out) hq0 (by rw [Int.tdiv_eq_ediv_of_nonneg h0]; omega) hq (by simp; omega)
            refine ⟨t, t1, fun k hk => ?_⟩
            cases k with
            | zero => omega
            | succ k =>
              rw [rawIter_succ]
              show laws_markText.b0 _ _ _ _ = _
              unfold laws_markText.b0
              have hw : w64 (m.tdiv 10) = m.tdiv 10 := w64_in ⟨by omega, by
                rw [Int.tdiv_eq_ediv_of_nonneg h0]
                omega⟩
              have hc : [UInt8.ofInt (w64 (48 + m.tmod 10))].length + out.length ≤ CAP := by simp only [CAP, List.length_cons, List.length_nil]; omega
              simp only [hm, decide_true, cond_true, hc, if_true, hw]
              exact t2 k (by omega)
          · have hm : m = 0 := by omega
            subst hm
            refine ⟨out, by omega, fun k hk => ?_⟩
            cases k with
            | zero => omega
            | succ k =>
              rw [rawIter_succ]
              show laws_markText.b0 _ _ _ _ = _
              unfold laws_markText.b0 laws_markText.Q0 laws_markText.q0
              have hc : ([109] : List UInt8).length + out.length ≤ CAP := by simp only [CAP, List.length_cons, List.length_nil]; omega
              simp only [show ¬ ((0 : Int) < 0) by omega, decide_false, cond_false, hc, if_true]
              rfl
      obtain ⟨t, t1, t2⟩ := key 19 n [] (by omega) h (by omega) (by simp)
      refine ⟨109 :: t, lift_eq (k := 20) fun k hk => (laws_markText.raw_eq k _).trans ?_⟩
      unfold laws_markText.raw laws_markText.p
      simp only [hn, decide_false, cond_false]
      exact t2 k (by omega)
  obtain ⟨t, ht⟩ := main
  rw [ht]
  simp [mtext, ht]
def KRowS (x : Row) (k : Int) (y : Row) (k' : Int) : Prop := y = ((k), (k + 1), (k + 1 + 1), (mtext (k + 1 + 1 + 1)), x.2.2.2.2) ∧ k + 1 + 1 + 1 + 1 = k'
theorem mkRowS (x : List Row) (k : Int) (h0 : 0 ≤ k) (h1 : k + 32 * ((zz (.slc tRow) x : Nat) : Int) ≤ BIG) : ∃ (k' : Int) (y : List Row), laws_markRowS.sem (x, k, ()) = some (k', y, ()) ∧ k ≤ k' ∧ k' ≤ k + 32 * ((zz (.slc tRow) x : Nat) : Int) := by
  have hB : BIG = 4611686018427387904 := rfl
  have hl : List.length x ≤ zz (.slc tRow) x := zz_len (e := tRow) x
  have hs : sumW (fun x : Row => 32 * (zz tRow x + 1)) x = 32 * zz (.slc tRow) x := sumW_32 (zz tRow) x
  obtain ⟨ys, k', g1, g2, g3, g4, g5⟩ := mark_loop (B := fun self v => laws_markRowS.B0 0 self (fun z => laws_markRowS.Q0 0 (x, k, ()) z) (x, k, ()) v) (xs := x) (by rw [maxLen_val]; omega) KRowS (fun x : Row => 32 * (zz tRow x + 1)) (fun x hx k h0 h1 => by
      have hz : zz tRow x = (0 + (0 + (0 + (List.length x.2.2.2.1 + 0)))) := rfl
      exact ⟨_, _, by omega, by omega, ⟨rfl, rfl⟩⟩) (fun i acc k self x y k' hi hx h0 h1 h2 h3 hE => by
      have hz : zz tRow x = (0 + (0 + (0 + (List.length x.2.2.2.1 + 0)))) := rfl
      obtain ⟨rfl, rfl⟩ := hE
      show laws_markRowS.b0 _ _ _ _ = _
      unfold laws_markRowS.b0
      have hlt : (i : Int) < (acc.length : Int) := by omega
      simp (disch := omega) only [hlt, decide_true, cond_true, Int.natCast_nonneg, and_self, if_true, Int.toNat_natCast, hx, Option.bind_some, List.length_set, get_self_set, List.set_set, w64_in, markText_eq]) (fun acc k self => by
      show laws_markRowS.b0 _ _ _ _ = _
      unfold laws_markRowS.b0
      simp [laws_markRowS.Q0, laws_markRowS.q0]) k h0 (by rw [hs]; omega)
  refine ⟨k', ys, lift_eq (k := x.length + 1) fun f hf => (laws_markRowS.raw_eq f _).trans (g5 f (by omega)), g1, by rw [hs] at g2; omega⟩
def KChangeS (x : Change) (k : Int) (y : Change) (k' : Int) : Prop := y = ((decide ((k).tmod (3 : Int) = (0 : Int))), ((k + 1), (k + 1 + 1), (k + 1 + 1 + 1), (mtext (k + 1 + 1 + 1 + 1)), x.2.1.2.2.2.2), (decide ((k + 1 + 1 + 1 + 1 + 1).tmod (3 : Int) = (0 : Int))), ((k + 1 + 1 + 1 + 1 + 1 + 1), (k + 1 + 1 + 1 + 1 + 1 + 1 + 1), (k + 1 + 1 + 1 + 1 + 1 + 1 + 1 + 1), (mtext (k + 1 + 1 + 1 + 1 + 1 + 1 + 1 + 1 + 1)), x.2.2.2.1.2.2.2.2), x.2.2.2.2) ∧ k + 1 + 1 + 1 + 1 + 1 + 1 + 1 + 1 + 1 + 1 = k'
theorem mkChangeS (x : List Change) (k : Int) (h0 : 0 ≤ k) (h1 : k + 32 * ((zz (.slc tChange) x : Nat) : Int) ≤ BIG) : ∃ (k' : Int) (y : List Change), laws_markChangeS.sem (x, k, ()) = some (k', y, ()) ∧ k ≤ k' ∧ k' ≤ k + 32 * ((zz (.slc tChange) x : Nat) : Int) := by
  have hB : BIG = 4611686018427387904 := rfl
  have hl : List.length x ≤ zz (.slc tChange) x := zz_len (e := tChange) x
  have hs : sumW (fun x : Change => 32 * (zz tChange x + 1)) x = 32 * zz (.slc tChange) x := sumW_32 (zz tChange) x
  obtain ⟨ys, k', g1, g2, g3, g4, g5⟩ := mark_loop (B := fun self v => laws_markChangeS.B0 0 self (fun z => laws_markChangeS.Q0 0 (x, k, ()) z) (x, k, ()) v) (xs := x) (by rw [maxLen_val]; omega) KChangeS (fun x : Change => 32 * (zz tChange x + 1)) (fun x hx k h0 h1 => by
      have hz : zz tChange x = (0 + ((0 + (0 + (0 + (List.length x.2.1.2.2.2.1 + 0)))) + (0 + ((0 + (0 + (0 + (List.length x.2.2.2.1.2.2.2.1 + 0)))) + 0)))) := rfl
      exact ⟨_, _, by omega, by omega, ⟨rfl, rfl⟩⟩) (fun i acc k self x y k' hi hx h0 h1 h2 h3 hE => by
      have hz : zz tChange x = (0 + ((0 + (0 + (0 + (List.length x.2.1.2.2.2.1 + 0)))) + (0 + ((0 + (0 + (0 + (List.length x.2.2.2.1.2.2.2.1 + 0)))) + 0)))) := rfl
      obtain ⟨rfl, rfl⟩ := hE
      show laws_markChangeS.b0 _ _ _ _ = _
      unfold laws_markChangeS.b0
      have hlt : (i : Int) < (acc.length : Int) := by omega
      simp (disch := omega) only [hlt, decide_true, cond_true, Int.natCast_nonneg, and_self, if_true, Int.toNat_natCast, hx, Option.bind_some, List.length_set, get_self_set, List.set_set, w64_in, markText_eq]) (fun acc k self => by
      show laws_markChangeS.b0 _ _ _ _ = _
      unfold laws_markChangeS.b0
      simp [laws_markChangeS.Q0, laws_markChangeS.q0]) k h0 (by rw [hs]; omega)
  refine ⟨k', ys, lift_eq (k := x.length + 1) fun f hf => (laws_markChangeS.raw_eq f _).trans (g5 f (by omega)), g1, by rw [hs] at g2; omega⟩
def ERowS (x : Row) (k : Int) (y : Row) (k' : Int) : Prop := y = ((k), (k + 1), (k + 1 + 1), (mtext (k + 1 + 1 + 1)), x.2.2.2.2) ∧ k + 1 + 1 + 1 + 1 = k'
theorem mhRowS (x : List Row) (k : Int) (h0 : 0 ≤ k) (h1 : k + 32 * ((zz (.slc tRow) x : Nat) : Int) ≤ BIG) : ∃ (k' : Int) (y : List Row), laws_markRowS.sem (x, k, ()) = some (k', y, ()) ∧ laws_heldRowS.sem (y, k, ()) = some (k', ()) ∧ k ≤ k' ∧ k' ≤ k + 32 * ((zz (.slc tRow) x : Nat) : Int) := by
  have hB : BIG = 4611686018427387904 := rfl
  have hl : List.length x ≤ zz (.slc tRow) x := zz_len (e := tRow) x
  have hs : sumW (fun x : Row => 32 * (zz tRow x + 1)) x = 32 * zz (.slc tRow) x := sumW_32 (zz tRow) x
  obtain ⟨ys, k', g1, g2, g3, g4, g5⟩ := mark_loop (B := fun self v => laws_markRowS.B0 0 self (fun z => laws_markRowS.Q0 0 (x, k, ()) z) (x, k, ()) v) (xs := x) (by rw [maxLen_val]; omega) ERowS (fun x : Row => 32 * (zz tRow x + 1)) (fun x hx k h0 h1 => by
      have hz : zz tRow x = (0 + (0 + (0 + (List.length x.2.2.2.1 + 0)))) := rfl
      exact ⟨_, _, by omega, by omega, ⟨rfl, rfl⟩⟩) (fun i acc k self x y k' hi hx h0 h1 h2 h3 hE => by
      have hz : zz tRow x = (0 + (0 + (0 + (List.length x.2.2.2.1 + 0)))) := rfl
      obtain ⟨rfl, rfl⟩ := hE
      show laws_markRowS.b0 _ _ _ _ = _
      unfold laws_markRowS.b0
      have hlt : (i : Int) < (acc.length : Int) := by omega
      simp (disch := omega) only [hlt, decide_true, cond_true, Int.natCast_nonneg, and_self, if_true, Int.toNat_natCast, hx, Option.bind_some, List.length_set, get_self_set, List.set_set, w64_in, markText_eq]) (fun acc k self => by
      show laws_markRowS.b0 _ _ _ _ = _
      unfold laws_markRowS.b0
      simp [laws_markRowS.Q0, laws_markRowS.q0]) k h0 (by rw [hs]; omega)
  refine ⟨k', ys, lift_eq (k := x.length + 1) fun f hf => (laws_markRowS.raw_eq f _).trans (g5 f (by omega)), ?_, g1, by rw [hs] at g2; omega⟩
  refine lift_eq (k := ys.length + 1) fun f hf => (laws_heldRowS.raw_eq f _).trans ?_
  exact held_loop (B := fun self v => laws_heldRowS.B0 0 self (fun z => laws_heldRowS.Q0 0 (ys, k, ()) z) (ys, k, ()) v) (by rw [maxLen_val]; omega) g4 (fun i k self x y k' hi hx h0 h1 h2 h3 hE => by
      have hz : zz tRow x = (0 + (0 + (0 + (List.length x.2.2.2.1 + 0)))) := rfl
      obtain ⟨rfl, rfl⟩ := hE
      show laws_heldRowS.b0 _ _ _ _ = _
      unfold laws_heldRowS.b0
      have hlt : (i : Int) < (ys.length : Int) := by omega
      simp (disch := omega) only [hlt, decide_true, cond_true, Int.natCast_nonneg, and_self, if_true, Int.toNat_natCast, hx, Option.bind_some, w64_in, markText_eq, beq_self_eq_true, Bool.not_true, cond_false, decide_false]) (fun k self => by
      show laws_heldRowS.b0 _ _ _ _ = _
      unfold laws_heldRowS.b0
      simp [laws_heldRowS.Q0, laws_heldRowS.q0]) f (by omega)
theorem szRowS_eq (x : List Row) (n : Int) (hx : okD (.slc tRow) x) (h0 : 0 ≤ n) (h1 : n ≤ 1048576) : laws_szRowS.sem (x, n, ()) = some (lft n (zz (.slc tRow) x), ()) := by
  obtain ⟨hl, hel⟩ := hx
  have hl' := hl
  rw [maxLen_val] at hl'
  have hl' : List.length x ≤ 9223372036854775807 := hl'
  have hw : w64 (n - (List.length x : Int)) = n - (List.length x : Int) := w64_in (by omega)
  have hz : zz (.slc tRow) x = List.length x + sumW (zz tRow) x := rfl
  by_cases hc : n - (List.length x : Int) < 0
  · have e1 : lft n (zz (.slc tRow) x) = -1 := if_neg (by omega)
    rw [e1]
    refine lift_eq (k := 0) fun k _ => (laws_szRowS.raw_eq k _).trans ?_
    unfold laws_szRowS.raw laws_szRowS.p
    simp only [hw, hc, decide_true, cond_true]
    rfl
  · have e1 : lft n (zz (.slc tRow) x) = lft (n - (List.length x : Int)) (sumW (zz tRow) x) := by rw [hz, lft_add (by omega)]
    rw [e1]
    refine lift_eq (k := List.length x + 1) fun k hk => (laws_szRowS.raw_eq k _).trans ?_
    unfold laws_szRowS.raw laws_szRowS.p
    simp only [hw, hc, decide_false, cond_false]
    exact sz_loop (B := fun self v => laws_szRowS.B0 0 self (fun z => laws_szRowS.Q0 0 (x, n, ()) z) (x, n, ()) v) (xs := x) hl (zz tRow) (fun i hi m self hm0 hm1 => by
        show laws_szRowS.b0 _ _ _ _ = _
        unfold laws_szRowS.b0
        have hlt : (i : Int) < (List.length x : Int) := by omega
        simp only [hlt, decide_true, cond_true, Int.natCast_nonneg, if_true, Int.toNat_natCast, List.getElem?_eq_getElem hi, Option.bind_some, szRow_eq x[i] m (hel _ (List.getElem_mem hi)) hm0 hm1]
        by_cases hs : lft m (zz tRow x[i]) < 0 <;> simp [hs]) (fun m self => by
        show laws_szRowS.b0 _ _ _ _ = _
        unfold laws_szRowS.b0
        simp [laws_szRowS.Q0, laws_szRowS.q0]) _ (by omega) (by omega) k (by omega)
theorem toRowS_eq (x : List Row) (h : zz (.slc tRow) x ≤ 1048576) : laws_toRowS.sem (x, ()) = some (x, ()) := by
  have hl : x.length ≤ 1048576 := Nat.le_trans (zz_len (e := tRow) x) h
  refine lift_eq (k := x.length + 1) fun k hk => (laws_toRowS.raw_eq k _).trans ?_
  unfold laws_toRowS.raw laws_toRowS.p
  have hc : 0 ≤ (x.length : Int) ∧ (x.length : Int) ≤ (x.length : Int) ∧ (x.length : Int) ≤ (CAP : Int) := by simp only [CAP]; omega
  simp only [hc, and_self, if_true, Int.toNat_natCast]
  exact copy_loop (B := fun self v => laws_toRowS.B0 k self (fun z => laws_toRowS.Q0 k (x, ()) z) (x, ()) v) (xs := x) (by rw [maxLen_val]; omega) (fun i hi acc self ha => by
    show laws_toRowS.b0 _ _ _ _ = _
    unfold laws_toRowS.b0
    have hlt : (i : Int) < (x.length : Int) := by omega
    have hlt2 : (i : Int) < (acc.length : Int) := by omega
    simp only [hlt, hlt2, decide_true, cond_true, Int.natCast_nonneg, and_self, if_true, Int.toNat_natCast, List.getElem?_eq_getElem hi, List.getElem?_eq_getElem (show i < acc.length by omega), Option.bind_some, toRow_eq x[i] (by have := zz_mem (e := tRow) (List.getElem_mem hi); omega)]) (fun acc self => by
    show laws_toRowS.b0 _ _ _ _ = _
    unfold laws_toRowS.b0
    simp [laws_toRowS.Q0, laws_toRowS.q0]) _ k (by omega)
theorem eqRowsResult_self (x : RowsResult) (h : zz tRowsResult x ≤ 4611686018427387904) : laws_eqRowsResult.sem (x, x, ()) = some (true, ()) := by
  have hz : zz tRowsResult x = (0 + (zz (.slc tRow) x.2.1 + 0)) := rfl
  refine lift_eq (k := 0) fun k _ => (laws_eqRowsResult.raw_eq k _).trans ?_
  show laws_eqRowsResult.p _ = _
  unfold laws_eqRowsResult.p
  have q0 := eqRowS_self x.2.1 (by omega)
  simp [q0]
def KSentS (x : Sent) (k : Int) (y : Sent) (k' : Int) : Prop := ∃ (r1 : Int) (y1 : List Change), laws_markChangeS.sem (x.2.2.1, k + 1 + 1, ()) = some (r1, y1, ()) ∧ k + 1 + 1 ≤ r1 ∧ r1 ≤ k + 1 + 1 + 32 * ((zz (.slc tChange) x.2.2.1 : Nat) : Int) ∧ y = ((k), (k + 1), y1, x.2.2.2) ∧ r1 = k'
theorem mkSentS (x : List Sent) (k : Int) (h0 : 0 ≤ k) (h1 : k + 32 * ((zz (.slc tSent) x : Nat) : Int) ≤ BIG) : ∃ (k' : Int) (y : List Sent), laws_markSentS.sem (x, k, ()) = some (k', y, ()) ∧ k ≤ k' ∧ k' ≤ k + 32 * ((zz (.slc tSent) x : Nat) : Int) := by
  have hB : BIG = 4611686018427387904 := rfl
  have hl : List.length x ≤ zz (.slc tSent) x := zz_len (e := tSent) x
  have hs : sumW (fun x : Sent => 32 * (zz tSent x + 1)) x = 32 * zz (.slc tSent) x := sumW_32 (zz tSent) x
  obtain ⟨ys, k', g1, g2, g3, g4, g5⟩ := mark_loop (B := fun self v => laws_markSentS.B0 0 self (fun z => laws_markSentS.Q0 0 (x, k, ()) z) (x, k, ()) v) (xs := x) (by rw [maxLen_val]; omega) KSentS (fun x : Sent => 32 * (zz tSent x + 1)) (fun x hx k h0 h1 => by
      have hz : zz tSent x = (0 + (0 + (zz (.slc tChange) x.2.2.1 + 0))) := rfl
      obtain ⟨r1, y1, e1, g1, i1⟩ := mkChangeS x.2.2.1 (k + 1 + 1) (by omega) (by omega)
      exact ⟨_, _, by omega, by omega, ⟨r1, y1, e1, g1, i1, rfl, rfl⟩⟩) (fun i acc k self x y k' hi hx h0 h1 h2 h3 hE => by
      have hz : zz tSent x = (0 + (0 + (zz (.slc tChange) x.2.2.1 + 0))) := rfl
      obtain ⟨r1, y1, e1, g1, i1, rfl, rfl⟩ := hE
      show laws_markSentS.b0 _ _ _ _ = _
      unfold laws_markSentS.b0
      have hlt : (i : Int) < (acc.length : Int) := by omega
      simp (disch := omega) only [hlt, decide_true, cond_true, Int.natCast_nonneg, and_self, if_true, Int.toNat_natCast, hx, Option.bind_some, List.length_set, get_self_set, List.set_set, w64_in, markText_eq, e1]) (fun acc k self => by
      show laws_markSentS.b0 _ _ _ _ = _
      unfold laws_markSentS.b0
      simp [laws_markSentS.Q0, laws_markSentS.q0]) k h0 (by rw [hs]; omega)
  refine ⟨k', ys, lift_eq (k := x.length + 1) fun f hf => (laws_markSentS.raw_eq f _).trans (g5 f (by omega)), g1, by rw [hs] at g2; omega⟩
theorem mkRowsResult (x : RowsResult) (k : Int) (h0 : 0 ≤ k) (h1 : k + 32 * ((zz tRowsResult x : Nat) : Int) ≤ BIG) : ∃ (k' : Int) (y : RowsResult), laws_markRowsResult.sem (x, k, ()) = some (k', y, ()) ∧ k ≤ k' ∧ k' ≤ k + 32 * ((zz tRowsResult x : Nat) : Int) := by
  have hB : BIG = 4611686018427387904 := rfl
  have hz : zz tRowsResult x = (0 + (zz (.slc tRow) x.2.1 + 0)) := rfl
  obtain ⟨k1, y1, e1, g1, i1⟩ := mkRowS x.2.1 k (by omega) (by omega)
  have n1 : ¬ k1 < 0 := by omega
  refine ⟨k1, (x.1, y1, x.2.2), lift_eq (k := 0) fun f _ => (laws_markRowsResult.raw_eq f _).trans ?_, by omega, by omega⟩
  · show laws_markRowsResult.p _ = _
    unfold laws_markRowsResult.p
    simp only [e1, Option.bind_some]
theorem mhRowsResult (x : RowsResult) (k : Int) (h0 : 0 ≤ k) (h1 : k + 32 * ((zz tRowsResult x : Nat) : Int) ≤ BIG) : ∃ (k' : Int) (y : RowsResult), laws_markRowsResult.sem (x, k, ()) = some (k', y, ()) ∧ laws_heldRowsResult.sem (y, k, ()) = some (k', ()) ∧ k ≤ k' ∧ k' ≤ k + 32 * ((zz tRowsResult x : Nat) : Int) := by
  have hB : BIG = 4611686018427387904 := rfl
  have hz : zz tRowsResult x = (0 + (zz (.slc tRow) x.2.1 + 0)) := rfl
  obtain ⟨k1, y1, e1, f1, g1, i1⟩ := mhRowS x.2.1 k (by omega) (by omega)
  have n1 : ¬ k1 < 0 := by omega
  refine ⟨k1, (x.1, y1, x.2.2), lift_eq (k := 0) fun f _ => (laws_markRowsResult.raw_eq f _).trans ?_, lift_eq (k := 0) fun f _ => (laws_heldRowsResult.raw_eq f _).trans ?_, by omega, by omega⟩
  · show laws_markRowsResult.p _ = _
    unfold laws_markRowsResult.p
    simp only [e1, Option.bind_some]
  · show laws_heldRowsResult.p _ = _
    unfold laws_heldRowsResult.p
    simp only [f1, n1, Option.bind_some, decide_false, cond_false]
end OT
