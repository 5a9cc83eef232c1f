/- Printed by px.py, a program of this claim: what the helpers of the laws compute. -/
import Derived.Test.YtkimdiobckckiaaG0
import Derived.Test.YtkimdiobckckiaaOUm
set_option linter.unusedVariables false
set_option linter.unusedSimpArgs false
namespace OT
open Go
theorem szRow_eq (x : Row) (n : Int) (hx : okD tRow x) (h0 : 0 ≤ n) (h1 : n ≤ 1048576) : laws_szRow.sem (x, n, ()) = some (lft n (zz tRow x), ()) := by
  have hz : zz tRow x = (0 + (0 + (0 + (List.length x.2.2.2.1 + 0)))) := rfl
  refine lift_eq (k := 0) fun k _ => (laws_szRow.raw_eq k _).trans ?_
  show laws_szRow.p _ = _
  unfold laws_szRow.p
  have hw : w64 (n - (List.length x.2.2.2.1 : Int)) = n - (List.length x.2.2.2.1 : Int) := w64_in (by have h9 := hx.2.2.2.1; simp only [okD] at h9; rw [maxLen_val] at h9; omega)
  simp only [hw]
  by_cases hc : ((List.length x.2.2.2.1 : Nat) : Int) ≤ n
  rotate_left
  · have n1 : n - ((List.length x.2.2.2.1 : Nat) : Int) < 0 := by omega
    have e2 : lft n (zz tRow x) = -1 := if_neg (by omega)
    rw [e2]; simp only [n1, decide_true, cond_true]
  have n1 : ¬ (n - ((List.length x.2.2.2.1 : Nat) : Int) < 0) := by omega
  simp only [n1, decide_false, cond_false]
  clear n1 hw
  have e2 : lft n (zz tRow x) = (n - ((List.length x.2.2.2.1 : Nat) : Int)) := by unfold lft; rw [if_pos (by omega)]; omega
  rw [e2]
theorem szRowS_eq (x : List Row) (n : Int) (hx : okD (.slc tRow) x) (h0 : 0 ≤ n) (h1 : n ≤ 1048576) : laws_szRowS.sem (x, n, ()) = some (lft n (zz (.slc tRow) x), ()) := by
  obtain ⟨hl, hel⟩ := hx
  have hl' := hl
  rw [maxLen_val] at hl'
  have hl' : List.length x ≤ 9223372036854775807 := hl'
  have hw : w64 (n - (List.length x : Int)) = n - (List.length x : Int) := w64_in (by omega)
  have hz : zz (.slc tRow) x = List.length x + sumW (zz tRow) x := rfl
  by_cases hc : n - (List.length x : Int) < 0
  · have e1 : lft n (zz (.slc tRow) x) = -1 := if_neg (by omega)
    rw [e1]
    refine lift_eq (k := 0) fun k _ => (laws_szRowS.raw_eq k _).trans ?_
    unfold laws_szRowS.raw laws_szRowS.p
    simp only [hw, hc, decide_true, cond_true]
    rfl
  · have e1 : lft n (zz (.slc tRow) x) = lft (n - (List.length x : Int)) (sumW (zz tRow) x) := by rw [hz, lft_add (by omega)]
    rw [e1]
    refine lift_eq (k := List.length x + 1) fun k hk => (laws_szRowS.raw_eq k _).trans ?_
    unfold laws_szRowS.raw laws_szRowS.p
    simp only [hw, hc, decide_false, cond_false]
    exact sz_loop (B := fun self v => laws_szRowS.B0 0 self (fun z => laws_szRowS.Q0 0 (x, n, ()) z) (x, n, ()) v) (xs := x) hl (zz tRow) (fun i hi m self hm0 hm1 => by
        show laws_szRowS.b0 _ _ _ _ = _
        unfold laws_szRowS.b0
        have hlt : (i : Int) < (List.length x : Int) := by omega
        simp only [hlt, decide_true, cond_true, Int.natCast_nonneg, if_true, Int.toNat_natCast, List.getElem?_eq_getElem hi, Option.bind_some, szRow_eq x[i] m (hel _ (List.getElem_mem hi)) hm0 hm1]
        by_cases hs : lft m (zz tRow x[i]) < 0 <;> simp [hs]) (fun m self => by
        show laws_szRowS.b0 _ _ _ _ = _
        unfold laws_szRowS.b0
        simp [laws_szRowS.Q0, laws_szRowS.q0]) _ (by omega) (by omega) k (by omega)
theorem szChange_eq (x : Change) (n : Int) (hx : okD tChange x) (h0 : 0 ≤ n) (h1 : n ≤ 1048576) : laws_szChange.sem (x, n, ()) = some (lft n (zz tChange x), ()) := by
  have hz : zz tChange x = (0 + ((0 + (0 + (0 + (List.length x.2.1.2.2.2.1 + 0)))) + (0 + ((0 + (0 + (0 + (List.length x.2.2.2.1.2.2.2.1 + 0)))) + 0)))) := rfl
  refine lift_eq (k := 0) fun k _ => (laws_szChange.raw_eq k _).trans ?_
  show laws_szChange.p _ = _
  unfold laws_szChange.p
  have hz1 : zz tRow x.2.1 = (0 + (0 + (0 + (List.length x.2.1.2.2.2.1 + 0)))) := rfl
  simp only [szRow_eq x.2.1 (n) hx.2.1 (by omega) (by omega), Option.bind_some]
  by_cases hc : ((zz tRow x.2.1 : Nat) : Int) ≤ n
  rotate_left
  · have e1 : lft (n) (zz tRow x.2.1) = -1 := if_neg hc
    have e2 : lft n (zz tChange x) = -1 := if_neg (by omega)
    rw [e1, e2]; rfl
  have e1 : lft (n) (zz tRow x.2.1) = n - ((zz tRow x.2.1 : Nat) : Int) := if_pos hc
  have n1 : ¬ (n - ((zz tRow x.2.1 : Nat) : Int) < 0) := by omega
  simp only [e1, n1, decide_false, cond_false]
  clear e1 n1
  have hz3 : zz tRow x.2.2.2.1 = (0 + (0 + (0 + (List.length x.2.2.2.1.2.2.2.1 + 0)))) := rfl
  simp only [szRow_eq x.2.2.2.1 ((n - ((zz tRow x.2.1 : Nat) : Int))) hx.2.2.2.1 (by omega) (by omega), Option.bind_some]
  by_cases hc : ((zz tRow x.2.2.2.1 : Nat) : Int) ≤ (n - ((zz tRow x.2.1 : Nat) : Int))
  rotate_left
  · have e1 : lft ((n - ((zz tRow x.2.1 : Nat) : Int))) (zz tRow x.2.2.2.1) = -1 := if_neg hc
    have e2 : lft n (zz tChange x) = -1 := if_neg (by omega)
    rw [e1, e2]; rfl
  have e1 : lft ((n - ((zz tRow x.2.1 : Nat) : Int))) (zz tRow x.2.2.2.1) = (n - ((zz tRow x.2.1 : Nat) : Int)) - ((zz tRow x.2.2.2.1 : Nat) : Int) := if_pos hc
  have n1 : ¬ ((n - ((zz tRow x.2.1 : Nat) : Int)) - ((zz tRow x.2.2.2.1 : Nat) : Int) < 0) := by omega
  simp only [e1, n1, decide_false, cond_false]
  clear e1 n1
  have e2 : lft n (zz tChange x) = ((n - ((zz tRow x.2.1 : Nat) : Int)) - ((zz tRow x.2.2.2.1 : Nat) : Int)) := by unfold lft; rw [if_pos (by omega)]; omega
  rw [e2]
theorem szChangeS_eq (x : List Change) (n : Int) (hx : okD (.slc tChange) x) (h0 : 0 ≤ n) (h1 : n ≤ 1048576) : laws_szChangeS.sem (x, n, ()) = some (lft n (zz (.slc tChange) x), ()) := by
  obtain ⟨hl, hel⟩ := hx
  have hl' := hl
  rw [maxLen_val] at hl'
  have hl' : List.length x ≤ 9223372036854775807 := hl'
  have hw : w64 (n - (List.length x : Int)) = n - (List.length x : Int) := w64_in (by omega)
  have hz : zz (.slc tChange) x = List.length x + sumW (zz tChange) x := rfl
  by_cases hc : n - (List.length x : Int) < 0
  · have e1 : lft n (zz (.slc tChange) x) = -1 := if_neg (by omega)
    rw [e1]
    refine lift_eq (k := 0) fun k _ => (laws_szChangeS.raw_eq k _).trans ?_
    unfold laws_szChangeS.raw laws_szChangeS.p
    simp only [hw, hc, decide_true, cond_true]
    rfl
  · have e1 : lft n (zz (.slc tChange) x) = lft (n - (List.length x : Int)) (sumW (zz tChange) x) := by rw [hz, lft_add (by omega)]
    rw [e1]
    refine lift_eq (k := List.length x + 1) fun k hk => (laws_szChangeS.raw_eq k _).trans ?_
    unfold laws_szChangeS.raw laws_szChangeS.p
    simp only [hw, hc, decide_false, cond_false]
    exact sz_loop (B := fun self v => laws_szChangeS.B0 0 self (fun z => laws_szChangeS.Q0 0 (x, n, ()) z) (x, n, ()) v) (xs := x) hl (zz tChange) (fun i hi m self hm0 hm1 => by
        show laws_szChangeS.b0 _ _ _ _ = _
        unfold laws_szChangeS.b0
        have hlt : (i : Int) < (List.length x : Int) := by omega
        simp only [hlt, decide_true, cond_true, Int.natCast_nonneg, if_true, Int.toNat_natCast, List.getElem?_eq_getElem hi, Option.bind_some, szChange_eq x[i] m (hel _ (List.getElem_mem hi)) hm0 hm1]
        by_cases hs : lft m (zz tChange x[i]) < 0 <;> simp [hs]) (fun m self => by
        show laws_szChangeS.b0 _ _ _ _ = _
        unfold laws_szChangeS.b0
        simp [laws_szChangeS.Q0, laws_szChangeS.q0]) _ (by omega) (by omega) k (by omega)
theorem szInt64S_eq (x : List Int) (n : Int) (hx : okD (.slc i64) x) (h0 : 0 ≤ n) (h1 : n ≤ 1048576) : laws_szInt64S.sem (x, n, ()) = some (lft n (zz (.slc i64) x), ()) := by
  obtain ⟨hl, hel⟩ := hx
  have hl' := hl
  rw [maxLen_val] at hl'
  have hl' : List.length x ≤ 9223372036854775807 := hl'
  have hw : w64 (n - (List.length x : Int)) = n - (List.length x : Int) := w64_in (by omega)
  have hz : zz (.slc i64) x = List.length x + 0 := by show List.length x + sumW _ _ = _; exact congrArg (List.length x + ·) (sumW_zero _ (fun _ => rfl) x)
  refine lift_eq (k := 0) fun k _ => (laws_szInt64S.raw_eq k _).trans ?_
  show laws_szInt64S.p _ = _
  unfold laws_szInt64S.p
  simp only [hw, hz, Nat.add_zero]
  by_cases hc : (List.length x : Int) ≤ n
  · have e1 : lft n (List.length x) = n - (List.length x : Int) := if_pos hc
    have n1 : ¬ (n - (List.length x : Int) < 0) := by omega
    simp [e1, n1]
  · have e1 : lft n (List.length x) = -1 := if_neg hc
    have n1 : n - (List.length x : Int) < 0 := by omega
    simp [e1, n1]
theorem szKeyS_eq (x : List Key) (n : Int) (hx : okD (.slc tKey) x) (h0 : 0 ≤ n) (h1 : n ≤ 1048576) : laws_szKeyS.sem (x, n, ()) = some (lft n (zz (.slc tKey) x), ()) := by
  obtain ⟨hl, hel⟩ := hx
  have hl' := hl
  rw [maxLen_val] at hl'
  have hl' : List.length x ≤ 9223372036854775807 := hl'
  have hw : w64 (n - (List.length x : Int)) = n - (List.length x : Int) := w64_in (by omega)
  have hz : zz (.slc tKey) x = List.length x + 0 := by show List.length x + sumW _ _ = _; exact congrArg (List.length x + ·) (sumW_zero _ (fun _ => rfl) x)
  refine lift_eq (k := 0) fun k _ => (laws_szKeyS.raw_eq k _).trans ?_
  show laws_szKeyS.p _ = _
  unfold laws_szKeyS.p
  simp only [hw, hz, Nat.add_zero]
  by_cases hc : (List.length x : Int) ≤ n
  · have e1 : lft n (List.length x) = n - (List.length x : Int) := if_pos hc
    have n1 : ¬ (n - (List.length x : Int) < 0) := by omega
    simp [e1, n1]
  · have e1 : lft n (List.length x) = -1 := if_neg hc
    have n1 : n - (List.length x : Int) < 0 := by omega
    simp [e1, n1]
theorem szTx_eq (x : Tx) (n : Int) (hx : okD tTx x) (h0 : 0 ≤ n) (h1 : n ≤ 1048576) : laws_szTx.sem (x, n, ()) = some (lft n (zz tTx x), ()) := by
  have hz : zz tTx x = (0 + (zz (.slc tChange) x.2.1 + (zz (.slc i64) x.2.2.1 + (zz (.slc tKey) x.2.2.2.1 + 0)))) := rfl
  refine lift_eq (k := 0) fun k _ => (laws_szTx.raw_eq k _).trans ?_
  show laws_szTx.p _ = _
  unfold laws_szTx.p
  simp only [szChangeS_eq x.2.1 (n) hx.2.1 (by omega) (by omega), Option.bind_some]
  by_cases hc : ((zz (.slc tChange) x.2.1 : Nat) : Int) ≤ n
  rotate_left
  · have e1 : lft (n) (zz (.slc tChange) x.2.1) = -1 := if_neg hc
    have e2 : lft n (zz tTx x) = -1 := if_neg (by omega)
    rw [e1, e2]; rfl
  have e1 : lft (n) (zz (.slc tChange) x.2.1) = n - ((zz (.slc tChange) x.2.1 : Nat) : Int) := if_pos hc
  have n1 : ¬ (n - ((zz (.slc tChange) x.2.1 : Nat) : Int) < 0) := by omega
  simp only [e1, n1, decide_false, cond_false]
  clear e1 n1
  simp only [szInt64S_eq x.2.2.1 ((n - ((zz (.slc tChange) x.2.1 : Nat) : Int))) hx.2.2.1 (by omega) (by omega), Option.bind_some]
  by_cases hc : ((zz (.slc i64) x.2.2.1 : Nat) : Int) ≤ (n - ((zz (.slc tChange) x.2.1 : Nat) : Int))
  rotate_left
  · have e1 : lft ((n - ((zz (.slc tChange) x.2.1 : Nat) : Int))) (zz (.slc i64) x.2.2.1) = -1 := if_neg hc
    have e2 : lft n (zz tTx x) = -1 := if_neg (by omega)
    rw [e1, e2]; rfl
  have e1 : lft ((n - ((zz (.slc tChange) x.2.1 : Nat) : Int))) (zz (.slc i64) x.2.2.1) = (n - ((zz (.slc tChange) x.2.1 : Nat) : Int)) - ((zz (.slc i64) x.2.2.1 : Nat) : Int) := if_pos hc
  have n1 : ¬ ((n - ((zz (.slc tChange) x.2.1 : Nat) : Int)) - ((zz (.slc i64) x.2.2.1 : Nat) : Int) < 0) := by omega
  simp only [e1, n1, decide_false, cond_false]
  clear e1 n1
  simp only [szKeyS_eq x.2.2.2.1 (((n - ((zz (.slc tChange) x.2.1 : Nat) : Int)) - ((zz (.slc i64) x.2.2.1 : Nat) : Int))) hx.2.2.2.1 (by omega) (by omega), Option.bind_some]
  by_cases hc : ((zz (.slc tKey) x.2.2.2.1 : Nat) : Int) ≤ ((n - ((zz (.slc tChange) x.2.1 : Nat) : Int)) - ((zz (.slc i64) x.2.2.1 : Nat) : Int))
  rotate_left
  · have e1 : lft (((n - ((zz (.slc tChange) x.2.1 : Nat) : Int)) - ((zz (.slc i64) x.2.2.1 : Nat) : Int))) (zz (.slc tKey) x.2.2.2.1) = -1 := if_neg hc
    have e2 : lft n (zz tTx x) = -1 := if_neg (by omega)
    rw [e1, e2]; rfl
  have e1 : lft (((n - ((zz (.slc tChange) x.2.1 : Nat) : Int)) - ((zz (.slc i64) x.2.2.1 : Nat) : Int))) (zz (.slc tKey) x.2.2.2.1) = ((n - ((zz (.slc tChange) x.2.1 : Nat) : Int)) - ((zz (.slc i64) x.2.2.1 : Nat) : Int)) - ((zz (.slc tKey) x.2.2.2.1 : Nat) : Int) := if_pos hc
  have n1 : ¬ (((n - ((zz (.slc tChange) x.2.1 : Nat) : Int)) - ((zz (.slc i64) x.2.2.1 : Nat) : Int)) - ((zz (.slc tKey) x.2.2.2.1 : Nat) : Int) < 0) := by omega
  simp only [e1, n1, decide_false, cond_false]
  clear e1 n1
  have e2 : lft n (zz tTx x) = (((n - ((zz (.slc tChange) x.2.1 : Nat) : Int)) - ((zz (.slc i64) x.2.2.1 : Nat) : Int)) - ((zz (.slc tKey) x.2.2.2.1 : Nat) : Int)) := by unfold lft; rw [if_pos (by omega)]; omega
  rw [e2]
theorem szTxS_eq (x : List Tx) (n : Int) (hx : okD (.slc tTx) x) (h0 : 0 ≤ n) (h1 : n ≤ 1048576) : laws_szTxS.sem (x, n, ()) = some (lft n (zz (.slc tTx) x), ()) := by
  obtain ⟨hl, hel⟩ := hx
  have hl' := hl
  rw [maxLen_val] at hl'
  have hl' : List.length x ≤ 9223372036854775807 := hl'
  have hw : w64 (n - (List.length x : Int)) = n - (List.length x : Int) := w64_in (by omega)
  have hz : zz (.slc tTx) x = List.length x + sumW (zz tTx) x := rfl
  by_cases hc : n - (List.length x : Int) < 0
  · have e1 : lft n (zz (.slc tTx) x) = -1 := if_neg (by omega)
    rw [e1]
    refine lift_eq (k := 0) fun k _ => (laws_szTxS.raw_eq k _).trans ?_
    unfold laws_szTxS.raw laws_szTxS.p
    simp only [hw, hc, decide_true, cond_true]
    rfl
  · have e1 : lft n (zz (.slc tTx) x) = lft (n - (List.length x : Int)) (sumW (zz tTx) x) := by rw [hz, lft_add (by omega)]
    rw [e1]
    refine lift_eq (k := List.length x + 1) fun k hk => (laws_szTxS.raw_eq k _).trans ?_
    unfold laws_szTxS.raw laws_szTxS.p
    simp only [hw, hc, decide_false, cond_false]
    exact sz_loop (B := fun self v => laws_szTxS.B0 0 self (fun z => laws_szTxS.Q0 0 (x, n, ()) z) (x, n, ()) v) (xs := x) hl (zz tTx) (fun i hi m self hm0 hm1 => by
        show laws_szTxS.b0 _ _ _ _ = _
        unfold laws_szTxS.b0
        have hlt : (i : Int) < (List.length x : Int) := by omega
        simp only [hlt, decide_true, cond_true, Int.natCast_nonneg, if_true, Int.toNat_natCast, List.getElem?_eq_getElem hi, Option.bind_some, szTx_eq x[i] m (hel _ (List.getElem_mem hi)) hm0 hm1]
        by_cases hs : lft m (zz tTx x[i]) < 0 <;> simp [hs]) (fun m self => by
        show laws_szTxS.b0 _ _ _ _ = _
        unfold laws_szTxS.b0
        simp [laws_szTxS.Q0, laws_szTxS.q0]) _ (by omega) (by omega) k (by omega)
theorem szPlain_eq (x : Plain) (n : Int) (hx : okD tPlain x) (h0 : 0 ≤ n) (h1 : n ≤ 1048576) : laws_szPlain.sem (x, n, ()) = some (lft n (zz tPlain x), ()) := by
  have hz : zz tPlain x = (zz (.slc tRow) x.1 + (zz (.slc tTx) x.2.1 + (0 + 0))) := rfl
  refine lift_eq (k := 0) fun k _ => (laws_szPlain.raw_eq k _).trans ?_
  show laws_szPlain.p _ = _
  unfold laws_szPlain.p
  simp only [szRowS_eq x.1 (n) hx.1 (by omega) (by omega), Option.bind_some]
  by_cases hc : ((zz (.slc tRow) x.1 : Nat) : Int) ≤ n
  rotate_left
  · have e1 : lft (n) (zz (.slc tRow) x.1) = -1 := if_neg hc
    have e2 : lft n (zz tPlain x) = -1 := if_neg (by omega)
    rw [e1, e2]; rfl
  have e1 : lft (n) (zz (.slc tRow) x.1) = n - ((zz (.slc tRow) x.1 : Nat) : Int) := if_pos hc
  have n1 : ¬ (n - ((zz (.slc tRow) x.1 : Nat) : Int) < 0) := by omega
  simp only [e1, n1, decide_false, cond_false]
  clear e1 n1
  simp only [szTxS_eq x.2.1 ((n - ((zz (.slc tRow) x.1 : Nat) : Int))) hx.2.1 (by omega) (by omega), Option.bind_some]
  by_cases hc : ((zz (.slc tTx) x.2.1 : Nat) : Int) ≤ (n - ((zz (.slc tRow) x.1 : Nat) : Int))
  rotate_left
  · have e1 : lft ((n - ((zz (.slc tRow) x.1 : Nat) : Int))) (zz (.slc tTx) x.2.1) = -1 := if_neg hc
    have e2 : lft n (zz tPlain x) = -1 := if_neg (by omega)
    rw [e1, e2]; rfl
  have e1 : lft ((n - ((zz (.slc tRow) x.1 : Nat) : Int))) (zz (.slc tTx) x.2.1) = (n - ((zz (.slc tRow) x.1 : Nat) : Int)) - ((zz (.slc tTx) x.2.1 : Nat) : Int) := if_pos hc
  have n1 : ¬ ((n - ((zz (.slc tRow) x.1 : Nat) : Int)) - ((zz (.slc tTx) x.2.1 : Nat) : Int) < 0) := by omega
  simp only [e1, n1, decide_false, cond_false]
  clear e1 n1
  have e2 : lft n (zz tPlain x) = ((n - ((zz (.slc tRow) x.1 : Nat) : Int)) - ((zz (.slc tTx) x.2.1 : Nat) : Int)) := by unfold lft; rw [if_pos (by omega)]; omega
  rw [e2]
theorem toRow_eq (x : Row) (h : zz tRow x ≤ 1048576) : laws_toRow.sem (x, ()) = some (x, ()) := by
  have hz : zz tRow x = (0 + (0 + (0 + (List.length x.2.2.2.1 + 0)))) := rfl
  refine lift_eq (k := 0) fun k _ => (laws_toRow.raw_eq k _).trans ?_
  show laws_toRow.p _ = _
  unfold laws_toRow.p
  rfl
theorem toRowS_eq (x : List Row) (h : zz (.slc tRow) x ≤ 1048576) : laws_toRowS.sem (x, ()) = some (x, ()) := by
  have hl : x.length ≤ 1048576 := Nat.le_trans (zz_len (e := tRow) x) h
  refine lift_eq (k := x.length + 1) fun k hk => (laws_toRowS.raw_eq k _).trans ?_
  unfold laws_toRowS.raw laws_toRowS.p
  have hc : 0 ≤ (x.length : Int) ∧ (x.length : Int) ≤ (x.length : Int) ∧ (x.length : Int) ≤ (CAP : Int) := by simp only [CAP]; omega
  simp only [hc, and_self, if_true, Int.toNat_natCast]
  exact copy_loop (B := fun self v => laws_toRowS.B0 k self (fun z => laws_toRowS.Q0 k (x, ()) z) (x, ()) v) (xs := x) (by rw [maxLen_val]; omega) (fun i hi acc self ha => by
    show laws_toRowS.b0 _ _ _ _ = _
    unfold laws_toRowS.b0
    have hlt : (i : Int) < (x.length : Int) := by omega
    have hlt2 : (i : Int) < (acc.length : Int) := by omega
    simp only [hlt, hlt2, decide_true, cond_true, Int.natCast_nonneg, and_self, if_true, Int.toNat_natCast, List.getElem?_eq_getElem hi, List.getElem?_eq_getElem (show i < acc.length by omega), Option.bind_some, toRow_eq x[i] (by have := zz_mem (e := tRow) (List.getElem_mem hi); omega)]) (fun acc self => by
    show laws_toRowS.b0 _ _ _ _ = _
    unfold laws_toRowS.b0
    simp [laws_toRowS.Q0, laws_toRowS.q0]) _ k (by omega)
theorem toChange_eq (x : Change) (h : zz tChange x ≤ 1048576) : laws_toChange.sem (x, ()) = some (x, ()) := by
  have hz : zz tChange x = (0 + ((0 + (0 + (0 + (List.length x.2.1.2.2.2.1 + 0)))) + (0 + ((0 + (0 + (0 + (List.length x.2.2.2.1.2.2.2.1 + 0)))) + 0)))) := rfl
  have hz1 : zz tRow x.2.1 = (0 + (0 + (0 + (List.length x.2.1.2.2.2.1 + 0)))) := rfl
  have hz3 : zz tRow x.2.2.2.1 = (0 + (0 + (0 + (List.length x.2.2.2.1.2.2.2.1 + 0)))) := rfl
  refine lift_eq (k := 0) fun k _ => (laws_toChange.raw_eq k _).trans ?_
  show laws_toChange.p _ = _
  unfold laws_toChange.p
  simp only [toRow_eq x.2.1 (by omega), toRow_eq x.2.2.2.1 (by omega), Option.bind_some]
theorem toChangeS_eq (x : List Change) (h : zz (.slc tChange) x ≤ 1048576) : laws_toChangeS.sem (x, ()) = some (x, ()) := by
  have hl : x.length ≤ 1048576 := Nat.le_trans (zz_len (e := tChange) x) h
  refine lift_eq (k := x.length + 1) fun k hk => (laws_toChangeS.raw_eq k _).trans ?_
  unfold laws_toChangeS.raw laws_toChangeS.p
  have hc : 0 ≤ (x.length : Int) ∧ (x.length : Int) ≤ (x.length : Int) ∧ (x.length : Int) ≤ (CAP : Int) := by simp only [CAP]; omega
  simp only [hc, and_self, if_true, Int.toNat_natCast]
  exact copy_loop (B := fun self v => laws_toChangeS.B0 k self (fun z => laws_toChangeS.Q0 k (x, ()) z) (x, ()) v) (xs := x) (by rw [maxLen_val]; omega) (fun i hi acc self ha => by
    show laws_toChangeS.b0 _ _ _ _ = _
    unfold laws_toChangeS.b0
    have hlt : (i : Int) < (x.length : Int) := by omega
    have hlt2 : (i : Int) < (acc.length : Int) := by omega
    simp only [hlt, hlt2, decide_true, cond_true, Int.natCast_nonneg, and_self, if_true, Int.toNat_natCast, List.getElem?_eq_getElem hi, List.getElem?_eq_getElem (show i < acc.length by omega), Option.bind_some, toChange_eq x[i] (by have := zz_mem (e := tChange) (List.getElem_mem hi); omega)]) (fun acc self => by
    show laws_toChangeS.b0 _ _ _ _ = _
    unfold laws_toChangeS.b0
    simp [laws_toChangeS.Q0, laws_toChangeS.q0]) _ k (by omega)
theorem toInt64S_eq (x : List Int) (h : zz (.slc i64) x ≤ 1048576) : laws_toInt64S.sem (x, ()) = some (x, ()) := by
  have hl : x.length ≤ 1048576 := Nat.le_trans (zz_len (e := i64) x) h
  refine lift_eq (k := x.length + 1) fun k hk => (laws_toInt64S.raw_eq k _).trans ?_
  unfold laws_toInt64S.raw laws_toInt64S.p
  have hc : 0 ≤ (x.length : Int) ∧ (x.length : Int) ≤ (x.length : Int) ∧ (x.length : Int) ≤ (CAP : Int) := by simp only [CAP]; omega
  simp only [hc, and_self, if_true, Int.toNat_natCast]
  exact copy_loop (B := fun self v => laws_toInt64S.B0 k self (fun z => laws_toInt64S.Q0 k (x, ()) z) (x, ()) v) (xs := x) (by rw [maxLen_val]; omega) (fun i hi acc self ha => by
    show laws_toInt64S.b0 _ _ _ _ = _
    unfold laws_toInt64S.b0
    have hlt : (i : Int) < (x.length : Int) := by omega
    have hlt2 : (i : Int) < (acc.length : Int) := by omega
    simp only [hlt, hlt2, decide_true, cond_true, Int.natCast_nonneg, and_self, if_true, Int.toNat_natCast, List.getElem?_eq_getElem hi, List.getElem?_eq_getElem (show i < acc.length by omega), Option.bind_some]) (fun acc self => by
    show laws_toInt64S.b0 _ _ _ _ = _
    unfold laws_toInt64S.b0
    simp [laws_toInt64S.Q0, laws_toInt64S.q0]) _ k (by omega)
theorem toKey_eq (x : Key) (h : zz tKey x ≤ 1048576) : laws_toKey.sem (x, ()) = some (x, ()) := by
  have hz : zz tKey x = (0 + (0 + 0)) := rfl
  refine lift_eq (k := 0) fun k _ => (laws_toKey.raw_eq k _).trans ?_
  show laws_toKey.p _ = _
  unfold laws_toKey.p
  rfl
theorem toKeyS_eq (x : List Key) (h : zz (.slc tKey) x ≤ 1048576) : laws_toKeyS.sem (x, ()) = some (x, ()) := by
  have hl : x.length ≤ 1048576 := Nat.le_trans (zz_len (e := tKey) x) h
  refine lift_eq (k := x.length + 1) fun k hk => (laws_toKeyS.raw_eq k _).trans ?_
  unfold laws_toKeyS.raw laws_toKeyS.p
  have hc : 0 ≤ (x.length : Int) ∧ (x.length : Int) ≤ (x.length : Int) ∧ (x.length : Int) ≤ (CAP : Int) := by simp only [CAP]; omega
  simp only [hc, and_self, if_true, Int.toNat_natCast]
  exact copy_loop (B := fun self v => laws_toKeyS.B0 k self (fun z => laws_toKeyS.Q0 k (x, ()) z) (x, ()) v) (xs := x) (by rw [maxLen_val]; omega) (fun i hi acc self ha => by
    show laws_toKeyS.b0 _ _ _ _ = _
    unfold laws_toKeyS.b0
    have hlt : (i : Int) < (x.length : Int) := by omega
    have hlt2 : (i : Int) < (acc.length : Int) := by omega
    simp only [hlt, hlt2, decide_true, cond_true, Int.natCast_nonneg, and_self, if_true, Int.toNat_natCast, List.getElem?_eq_getElem hi, List.getElem?_eq_getElem (show i < acc.length by omega), Option.bind_some, toKey_eq x[i] (by have := zz_mem (e := tKey) (List.getElem_mem hi); omega)]) (fun acc self => by
    show laws_toKeyS.b0 _ _ _ _ = _
    unfold laws_toKeyS.b0
    simp [laws_toKeyS.Q0, laws_toKeyS.q0]) _ k (by omega)
theorem toTx_eq (x : Tx) (h : zz tTx x ≤ 1048576) : laws_toTx.sem (x, ()) = some (x, ()) := by
  have hz : zz tTx x = (0 + (zz (.slc tChange) x.2.1 + (zz (.slc i64) x.2.2.1 + (zz (.slc tKey) x.2.2.2.1 + 0)))) := rfl
  refine lift_eq (k := 0) fun k _ => (laws_toTx.raw_eq k _).trans ?_
  show laws_toTx.p _ = _
  unfold laws_toTx.p
  simp only [toChangeS_eq x.2.1 (by omega), toInt64S_eq x.2.2.1 (by omega), toKeyS_eq x.2.2.2.1 (by omega), Option.bind_some]
theorem toTxS_eq (x : List Tx) (h : zz (.slc tTx) x ≤ 1048576) : laws_toTxS.sem (x, ()) = some (x, ()) := by
  have hl : x.length ≤ 1048576 := Nat.le_trans (zz_len (e := tTx) x) h
  refine lift_eq (k := x.length + 1) fun k hk => (laws_toTxS.raw_eq k _).trans ?_
  unfold laws_toTxS.raw laws_toTxS.p
  have hc : 0 ≤ (x.length : Int) ∧ (x.length : Int) ≤ (x.length : Int) ∧ (x.length : Int) ≤ (CAP : Int) := by simp only [CAP]; omega
  simp only [hc, and_self, if_true, Int.toNat_natCast]
  exact copy_loop (B := fun self v => laws_toTxS.B0 k self (fun z => laws_toTxS.Q0 k (x, ()) z) (x, ()) v) (xs := x) (by rw [maxLen_val]; omega) (fun i hi acc self ha => by
    show laws_toTxS.b0 _ _ _ _ = _
    unfold laws_toTxS.b0
    have hlt : (i : Int) < (x.length : Int) := by omega
    have hlt2 : (i : Int) < (acc.length : Int) := by omega
    simp only [hlt, hlt2, decide_true, cond_true, Int.natCast_nonneg, and_self, if_true, Int.toNat_natCast, List.getElem?_eq_getElem hi, List.getElem?_eq_getElem (show i < acc.length by omega), Option.bind_some, toTx_eq x[i] (by have := zz_mem (e := tTx) (List.getElem_mem hi); omega)]) (fun acc self => by
    show laws_toTxS.b0 _ _ _ _ = _
    unfold laws_toTxS.b0
    simp [laws_toTxS.Q0, laws_toTxS.q0]) _ k (by omega)
theorem toPlain_eq (x : Plain) (h : zz tPlain x ≤ 1048576) : laws_toPlain.sem (x, ()) = some (x, ()) := by
  have hz : zz tPlain x = (zz (.slc tRow) x.1 + (zz (.slc tTx) x.2.1 + (0 + 0))) := rfl
  refine lift_eq (k := 0) fun k _ => (laws_toPlain.raw_eq k _).trans ?_
  show laws_toPlain.p _ = _
  unfold laws_toPlain.p
  simp only [toRowS_eq x.1 (by omega), toTxS_eq x.2.1 (by omega), Option.bind_some]
theorem eqRow_self (x : Row) (h : zz tRow x ≤ 4611686018427387904) : laws_eqRow.sem (x, x, ()) = some (true, ()) := by
  have hz : zz tRow x = (0 + (0 + (0 + (List.length x.2.2.2.1 + 0)))) := rfl
  refine lift_eq (k := 0) fun k _ => (laws_eqRow.raw_eq k _).trans ?_
  show laws_eqRow.p _ = _
  unfold laws_eqRow.p
  simp []
theorem eqRowS_self (x : List Row) (h : zz (.slc tRow) x ≤ 4611686018427387904) : laws_eqRowS.sem (x, x, ()) = some (true, ()) := by
  have hl : x.length ≤ 4611686018427387904 := Nat.le_trans (zz_len (e := tRow) x) h
  refine lift_eq (k := x.length + 1) fun k hk => (laws_eqRowS.raw_eq k _).trans ?_
  unfold laws_eqRowS.raw laws_eqRowS.p
  simp only [decide_true, Bool.not_true, cond_false]
  have := all_loop (B := fun self v => laws_eqRowS.B0 k self (fun z => laws_eqRowS.Q0 k (x, x, ()) z) (x, x, ()) v) (xs := x) (ys := x) (fun _ _ => true) rfl (by rw [maxLen_val]; omega) (fun i hi hj self => by
      show laws_eqRowS.b0 _ _ _ _ = _
      unfold laws_eqRowS.b0
      have hlt : (i : Int) < (x.length : Int) := by omega
      simp only [hlt, decide_true, cond_true, Int.natCast_nonneg, if_true, Int.toNat_natCast, List.getElem?_eq_getElem hi, Option.bind_some, Bool.not_true, cond_false, eqRow_self x[i] (by have := zz_mem (e := tRow) (List.getElem_mem hi); omega)]) (fun self => by
      show laws_eqRowS.b0 _ _ _ _ = _
      unfold laws_eqRowS.b0
      simp [laws_eqRowS.Q0, laws_eqRowS.q0]) k (by omega)
  rw [show allB (fun _ _ => true) x x = true by simp [allB]] at this
  exact this
theorem eqChange_self (x : Change) (h : zz tChange x ≤ 4611686018427387904) : laws_eqChange.sem (x, x, ()) = some (true, ()) := by
  have hz : zz tChange x = (0 + ((0 + (0 + (0 + (List.length x.2.1.2.2.2.1 + 0)))) + (0 + ((0 + (0 + (0 + (List.length x.2.2.2.1.2.2.2.1 + 0)))) + 0)))) := rfl
  have hz1 : zz tRow x.2.1 = (0 + (0 + (0 + (List.length x.2.1.2.2.2.1 + 0)))) := rfl
  have hz3 : zz tRow x.2.2.2.1 = (0 + (0 + (0 + (List.length x.2.2.2.1.2.2.2.1 + 0)))) := rfl
  refine lift_eq (k := 0) fun k _ => (laws_eqChange.raw_eq k _).trans ?_
  show laws_eqChange.p _ = _
  unfold laws_eqChange.p
  have q0 := eqRow_self x.2.1 (by omega)
  have q1 := eqRow_self x.2.2.2.1 (by omega)
  simp [q0, q1]
theorem eqChangeS_self (x : List Change) (h : zz (.slc tChange) x ≤ 4611686018427387904) : laws_eqChangeS.sem (x, x, ()) = some (true, ()) := by
  have hl : x.length ≤ 4611686018427387904 := Nat.le_trans (zz_len (e := tChange) x) h
  refine lift_eq (k := x.length + 1) fun k hk => (laws_eqChangeS.raw_eq k _).trans ?_
  unfold laws_eqChangeS.raw laws_eqChangeS.p
  simp only [decide_true, Bool.not_true, cond_false]
  have := all_loop (B := fun self v => laws_eqChangeS.B0 k self (fun z => laws_eqChangeS.Q0 k (x, x, ()) z) (x, x, ()) v) (xs := x) (ys := x) (fun _ _ => true) rfl (by rw [maxLen_val]; omega) (fun i hi hj self => by
      show laws_eqChangeS.b0 _ _ _ _ = _
      unfold laws_eqChangeS.b0
      have hlt : (i : Int) < (x.length : Int) := by omega
      simp only [hlt, decide_true, cond_true, Int.natCast_nonneg, if_true, Int.toNat_natCast, List.getElem?_eq_getElem hi, Option.bind_some, Bool.not_true, cond_false, eqChange_self x[i] (by have := zz_mem (e := tChange) (List.getElem_mem hi); omega)]) (fun self => by
      show laws_eqChangeS.b0 _ _ _ _ = _
      unfold laws_eqChangeS.b0
      simp [laws_eqChangeS.Q0, laws_eqChangeS.q0]) k (by omega)
  rw [show allB (fun _ _ => true) x x = true by simp [allB]] at this
  exact this
theorem eqInt64S_self (x : List Int) (h : zz (.slc i64) x ≤ 4611686018427387904) : laws_eqInt64S.sem (x, x, ()) = some (true, ()) := by
  have hl : x.length ≤ 4611686018427387904 := Nat.le_trans (zz_len (e := i64) x) h
  refine lift_eq (k := x.length + 1) fun k hk => (laws_eqInt64S.raw_eq k _).trans ?_
  unfold laws_eqInt64S.raw laws_eqInt64S.p
  simp only [decide_true, Bool.not_true, cond_false]
  have := all_loop (B := fun self v => laws_eqInt64S.B0 k self (fun z => laws_eqInt64S.Q0 k (x, x, ()) z) (x, x, ()) v) (xs := x) (ys := x) (fun _ _ => true) rfl (by rw [maxLen_val]; omega) (fun i hi hj self => by
      show laws_eqInt64S.b0 _ _ _ _ = _
      unfold laws_eqInt64S.b0
      have hlt : (i : Int) < (x.length : Int) := by omega
      simp only [hlt, decide_true, cond_true, Int.natCast_nonneg, if_true, Int.toNat_natCast, List.getElem?_eq_getElem hi, Option.bind_some, Bool.not_true, cond_false]) (fun self => by
      show laws_eqInt64S.b0 _ _ _ _ = _
      unfold laws_eqInt64S.b0
      simp [laws_eqInt64S.Q0, laws_eqInt64S.q0]) k (by omega)
  rw [show allB (fun _ _ => true) x x = true by simp [allB]] at this
  exact this
theorem eqKey_self (x : Key) (h : zz tKey x ≤ 4611686018427387904) : laws_eqKey.sem (x, x, ()) = some (true, ()) := by
  have hz : zz tKey x = (0 + (0 + 0)) := rfl
  refine lift_eq (k := 0) fun k _ => (laws_eqKey.raw_eq k _).trans ?_
  show laws_eqKey.p _ = _
  unfold laws_eqKey.p
  simp []
theorem eqKeyS_self (x : List Key) (h : zz (.slc tKey) x ≤ 4611686018427387904) : laws_eqKeyS.sem (x, x, ()) = some (true, ()) := by
  have hl : x.length ≤ 4611686018427387904 := Nat.le_trans (zz_len (e := tKey) x) h
  refine lift_eq (k := x.length + 1) fun k hk => (laws_eqKeyS.raw_eq k _).trans ?_
  unfold laws_eqKeyS.raw laws_eqKeyS.p
  simp only [decide_true, Bool.not_true, cond_false]
  have := all_loop (B := fun self v => laws_eqKeyS.B0 k self (fun z => laws_eqKeyS.Q0 k (x, x, ()) z) (x, x, ()) v) (xs := x) (ys := x) (fun _ _ => true) rfl (by rw [maxLen_val]; omega) (fun i hi hj self => by
      show laws_eqKeyS.b0 _ _ _ _ = _
      unfold laws_eqKeyS.b0
      have hlt : (i : Int) < (x.length : Int) := by omega
      simp only [hlt, decide_true, cond_true, Int.natCast_nonneg, if_true, Int.toNat_natCast, List.getElem?_eq_getElem hi, Option.bind_some, Bool.not_true, cond_false, eqKey_self x[i] (by have := zz_mem (e := tKey) (List.getElem_mem hi); omega)]) (fun self => by
      show laws_eqKeyS.b0 _ _ _ _ = _
      unfold laws_eqKeyS.b0
      simp [laws_eqKeyS.Q0, laws_eqKeyS.q0]) k (by omega)
  rw [show allB (fun _ _ => true) x x = true by simp [allB]] at this
  exact this
theorem eqTx_self (x : Tx) (h : zz tTx x ≤ 4611686018427387904) : laws_eqTx.sem (x, x, ()) = some (true, ()) := by
  have hz : zz tTx x = (0 + (zz (.slc tChange) x.2.1 + (zz (.slc i64) x.2.2.1 + (zz (.slc tKey) x.2.2.2.1 + 0)))) := rfl
  refine lift_eq (k := 0) fun k _ => (laws_eqTx.raw_eq k _).trans ?_
  show laws_eqTx.p _ = _
  unfold laws_eqTx.p
  have q0 := eqChangeS_self x.2.1 (by omega)
  have q1 := eqInt64S_self x.2.2.1 (by omega)
  have q2 := eqKeyS_self x.2.2.2.1 (by omega)
  simp [q0, q1, q2]
theorem eqTxS_self (x : List Tx) (h : zz (.slc tTx) x ≤ 4611686018427387904) : laws_eqTxS.sem (x, x, ()) = some (true, ()) := by
  have hl : x.length ≤ 4611686018427387904 := Nat.le_trans (zz_len (e := tTx) x) h
  refine lift_eq (k := x.length + 1) fun k hk => (laws_eqTxS.raw_eq k _).trans ?_
  unfold laws_eqTxS.raw laws_eqTxS.p
  simp only [decide_true, Bool.not_true, cond_false]
  have := all_loop (B := fun self v => laws_eqTxS.B0 k self (fun z => laws_eqTxS.Q0 k (x, x, ()) z) (x, x, ()) v) (xs := x) (ys := x) (fun _ _ => true) rfl (by rw [maxLen_val]; omega) (fun i hi hj self => by
      show laws_eqTxS.b0 _ _ _ _ = _
      unfold laws_eqTxS.b0
      have hlt : (i : Int) < (x.length : Int) := by omega
      simp only [hlt, decide_true, cond_true, Int.natCast_nonneg, if_true, Int.toNat_natCast, List.getElem?_eq_getElem hi, Option.bind_some, Bool.not_true, cond_false, eqTx_self x[i] (by have := zz_mem (e := tTx) (List.getElem_mem hi); omega)]) (fun self => by
      show laws_eqTxS.b0 _ _ _ _ = _
      unfold laws_eqTxS.b0
      simp [laws_eqTxS.Q0, laws_eqTxS.q0]) k (by omega)
  rw [show allB (fun _ _ => true) x x = true by simp [allB]] at this
  exact this
theorem eqPlain_self (x : Plain) (h : zz tPlain x ≤ 4611686018427387904) : laws_eqPlain.sem (x, x, ()) = some (true, ()) := by
  have hz : zz tPlain x = (zz (.slc tRow) x.1 + (zz (.slc tTx) x.2.1 + (0 + 0))) := rfl
  refine lift_eq (k := 0) fun k _ => (laws_eqPlain.raw_eq k _).trans ?_
  show laws_eqPlain.p _ = _
  unfold laws_eqPlain.p
  have q0 := eqRowS_self x.1 (by omega)
  have q1 := eqTxS_self x.2.1 (by omega)
  simp [q0, q1]
theorem eqRowsResult_self (x : RowsResult) (h : zz tRowsResult x ≤ 4611686018427387904) : laws_eqRowsResult.sem (x, x, ()) = some (true, ()) := by
  have hz : zz tRowsResult x = (0 + (zz (.slc tRow) x.2.1 + 0)) := rfl
  refine lift_eq (k := 0) fun k _ => (laws_eqRowsResult.raw_eq k _).trans ?_
  show laws_eqRowsResult.p _ = _
  unfold laws_eqRowsResult.p
  have q0 := eqRowS_self x.2.1 (by omega)
  simp [q0]
noncomputable def mtext (n : Int) : List UInt8 := ((laws_markText.sem (n, ())).map (·.1)).getD []
theorem markText_eq (n : Int) (h : n ≤ 9223372036854775807) : laws_markText.sem (n, ()) = some (mtext n, ()) := by
  have main : ∃ t, laws_markText.sem (n, ()) = some (t, ()) := by
    by_cases hn : n ≤ 0
    · refine ⟨[109, 48], lift_eq (k := 0) fun k _ => (laws_markText.raw_eq k _).trans ?_⟩
      unfold laws_markText.raw laws_markText.p
      simp only [hn, decide_true, cond_true]
      rfl
    · have key : ∀ (f : Nat) (m : Int) (out : List UInt8), 0 ≤ m → m ≤ 9223372036854775807 → m < 10 ^ f → out.length + f ≤ 100 → ∃ t, t.length ≤ 100 ∧ ∀ k, f < k → rawIter (fun self v => laws_markText.B0 0 self (fun z => laws_markText.Q0 0 (n, ()) z) (n, ()) v) k (m, out) = some (109 :: t, ()) := by
        intro f
        induction f with
        | zero =>
          intro m out h0 h9 h1 h2
          have hm : m = 0 := by simp at h1; omega
          subst hm
          refine ⟨out, by omega, fun k hk => ?_⟩
          cases k with
          | zero => omega
          | succ k =>
            rw [rawIter_succ]
            show laws_markText.b0 _ _ _ _ = _
            unfold laws_markText.b0 laws_markText.Q0 laws_markText.q0
            have hc : ([109] : List UInt8).length + out.length ≤ CAP := by simp only [CAP, List.length_cons, List.length_nil]; omega
            simp only [show ¬ ((0 : Int) < 0) by omega, decide_false, cond_false, hc, if_true]
            rfl
        | succ f ih =>
          intro m out h0 h9 h1 h2
          by_cases hm : 0 < m
          · have hq0 : 0 ≤ m.tdiv 10 := Int.tdiv_nonneg h0 (by omega)
            have hq : m.tdiv 10 < 10 ^ f := by
              rw [Int.tdiv_eq_ediv_of_nonneg h0]
              have : (10 : Int) ^ (f + 1) = 10 ^ f * 10 := Int.pow_succ 10 f
              omega
            have hd := Int.emod_nonneg m (b := 10) (by omega)
            have hd2 := Int.emod_lt_of_pos m (b := 10) (by omega)
            obtain ⟨t, t1, t2⟩ := ih (m.tdiv 10) ([UInt8.ofInt (w64 (48 + m.tmod 10))] ++ out) hq0 (by rw [Int.tdiv_eq_ediv_of_nonneg h0]; omega) hq (by simp; omega)
            refine ⟨t, t1, fun k hk => ?_⟩
            cases k with
            | zero => omega
            | succ k =>
              rw [rawIter_succ]
              show laws_markText.b0 _ _ _ _ = _
              unfold laws_markText.b0
              have hw : w64 (m.tdiv 10) = m.tdiv 10 := w64_in ⟨by omega, by
                rw [Int.tdiv_eq_ediv_of_nonneg h0]
                omega⟩
              have hc : [UInt8.ofInt (w64 (48 + m.tmod 10))].length + out.length ≤ CAP := by simp only [CAP, List.length_cons, List.length_nil]; omega
              simp only [hm, decide_true, cond_true, hc, if_true, hw]
              exact t2 k (by omega)
          · have hm : m = 0 := by omega
            subst hm
            refine ⟨out, by omega, fun k hk => ?_⟩
            cases k with
            | zero => omega
            | succ k =>
              rw [rawIter_succ]
              show laws_markText.b0 _ _ _ _ = _
              unfold laws_markText.b0 laws_markText.Q0 laws_markText.q0
              have hc : ([109] : List UInt8).length + out.length ≤ CAP := by simp only [CAP, List.length_cons, List.length_nil]; omega
              simp only [show ¬ ((0 : Int) < 0) by omega, decide_false, cond_false, hc, if_true]
              rfl
      obtain ⟨t, t1, t2⟩ := key 19 n [] (by omega) h (by omega) (by simp)
      refine ⟨109 :: t, lift_eq (k := 20) fun k hk => (laws_markText.raw_eq k _).trans ?_⟩
      unfold laws_markText.raw laws_markText.p
      simp only [hn, decide_false, cond_false]
      exact t2 k (by omega)
  obtain ⟨t, ht⟩ := main
  rw [ht]
  simp [mtext, ht]
def KRowS (x : Row) (k : Int) (y : Row) (k' : Int) : Prop := y = ((k), (k + 1), (k + 1 + 1), (mtext (k + 1 + 1 + 1)), x.2.2.2.2) ∧ k + 1 + 1 + 1 + 1 = k'
theorem mkRowS (x : List Row) (k : Int) (h0 : 0 ≤ k) (h1 : k + 32 * ((zz (.slc tRow) x : Nat) : Int) ≤ BIG) : ∃ (k' : Int) (y : List Row), laws_markRowS.sem (x, k, ()) = some (k', y, ()) ∧ k ≤ k' ∧ k' ≤ k + 32 * ((zz (.slc tRow) x : Nat) : Int) := by
  have hB : BIG = 4611686018427387904 := rfl
  have hl : List.length x ≤ zz (.slc tRow) x := zz_len (e := tRow) x
  have hs : sumW (fun x : Row => 32 * (zz tRow x + 1)) x = 32 * zz (.slc tRow) x := sumW_32 (zz tRow) x
  obtain ⟨ys, k', g1, g2, g3, g4, g5⟩ := mark_loop (B := fun self v => laws_markRowS.B0 0 self (fun z => laws_markRowS.Q0 0 (x, k, ()) z) (x, k, ()) v) (xs := x) (by rw [maxLen_val]; omega) KRowS (fun x : Row => 32 * (zz tRow x + 1)) (fun x hx k h0 h1 => by
      have hz : zz tRow x = (0 + (0 + (0 + (List.length x.2.2.2.1 + 0)))) := rfl
      exact ⟨_, _, by omega, by omega, ⟨rfl, rfl⟩⟩) (fun i acc k self x y k' hi hx h0 h1 h2 h3 hE => by
      have hz : zz tRow x = (0 + (0 + (0 + (List.length x.2.2.2.1 + 0)))) := rfl
      obtain ⟨rfl, rfl⟩ := hE
      show laws_markRowS.b0 _ _ _ _ = _
      unfold laws_markRowS.b0
      have hlt : (i : Int) < (acc.length : Int) := by omega
      simp (disch := omega) only [hlt, decide_true, cond_true, Int.natCast_nonneg, and_self, if_true, Int.toNat_natCast, hx, Option.bind_some, List.length_set, get_self_set, List.set_set, w64_in, markText_eq]) (fun acc k self => by
      show laws_markRowS.b0 _ _ _ _ = _
      unfold laws_markRowS.b0
      simp [laws_markRowS.Q0, laws_markRowS.q0]) k h0 (by rw [hs]; omega)
  refine ⟨k', ys, lift_eq (k := x.length + 1) fun f hf => (laws_markRowS.raw_eq f _).trans (g5 f (by omega)), g1, by rw [hs] at g2; omega⟩
def KChangeS (x : Change) (k : Int) (y : Change) (k' : Int) : Prop := y = ((decide ((k).tmod (3 : Int) = (0 : Int))), ((k + 1), (k + 1 + 1), (k + 1 + 1 + 1), (mtext (k + 1 + 1 + 1 + 1)), x.2.1.2.2.2.2), (decide ((k + 1 + 1 + 1 + 1 + 1).tmod (3 : Int) = (0 : Int))), ((k + 1 + 1 + 1 + 1 + 1 + 1), (k + 1 + 1 + 1 + 1 + 1 + 1 + 1), (k + 1 + 1 + 1 + 1 + 1 + 1 + 1 + 1), (mtext (k + 1 + 1 + 1 + 1 + 1 + 1 + 1 + 1 + 1)), x.2.2.2.1.2.2.2.2), x.2.2.2.2) ∧ k + 1 + 1 + 1 + 1 + 1 + 1 + 1 + 1 + 1 + 1 = k'
theorem mkChangeS (x : List Change) (k : Int) (h0 : 0 ≤ k) (h1 : k + 32 * ((zz (.slc tChange) x : Nat) : Int) ≤ BIG) : ∃ (k' : Int) (y : List Change), laws_markChangeS.sem (x, k, ()) = some (k', y, ()) ∧ k ≤ k' ∧ k' ≤ k + 32 * ((zz (.slc tChange) x : Nat) : Int) := by
  have hB : BIG = 4611686018427387904 := rfl
  have hl : List.length x ≤ zz (.slc tChange) x := zz_len (e := tChange) x
  have hs : sumW (fun x : Change => 32 * (zz tChange x + 1)) x = 32 * zz (.slc tChange) x := sumW_32 (zz tChange) x
  obtain ⟨ys, k', g1, g2, g3, g4, g5⟩ := mark_loop (B := fun self v => laws_markChangeS.B0 0 self (fun z => laws_markChangeS.Q0 0 (x, k, ()) z) (x, k, ()) v) (xs := x) (by rw [maxLen_val]; omega) KChangeS (fun x : Change => 32 * (zz tChange x + 1)) (fun x hx k h0 h1 => by
      have hz : zz tChange x = (0 + ((0 + (0 + (0 + (List.length x.2.1.2.2.2.1 + 0)))) + (0 + ((0 + (0 + (0 + (List.length x.2.2.2.1.2.2.2.1 + 0)))) + 0)))) := rfl
      exact ⟨_, _, by omega, by omega, ⟨rfl, rfl⟩⟩) (fun i acc k self x y k' hi hx h0 h1 h2 h3 hE => by
      have hz : zz tChange x = (0 + ((0 + (0 + (0 + (List.length x.2.1.2.2.2.1 + 0)))) + (0 + ((0 + (0 + (0 + (List.length x.2.2.2.1.2.2.2.1 + 0)))) + 0)))) := rfl
      obtain ⟨rfl, rfl⟩ := hE
      show laws_markChangeS.b0 _ _ _ _ = _
      unfold laws_markChangeS.b0
      have hlt : (i : Int) < (acc.length : Int) := by omega
      simp (disch := omega) only [hlt, decide_true, cond_true, Int.natCast_nonneg, and_self, if_true, Int.toNat_natCast, hx, Option.bind_some, List.length_set, get_self_set, List.set_set, w64_in, markText_eq]) (fun acc k self => by
      show laws_markChangeS.b0 _ _ _ _ = _
      unfold laws_markChangeS.b0
      simp [laws_markChangeS.Q0, laws_markChangeS.q0]) k h0 (by rw [hs]; omega)
  refine ⟨k', ys, lift_eq (k := x.length + 1) fun f hf => (laws_markChangeS.raw_eq f _).trans (g5 f (by omega)), g1, by rw [hs] at g2; omega⟩
def KInt64S (x : Int) (k : Int) (y : Int) (k' : Int) : Prop := y = (k) ∧ k + 1 = k'
theorem mkInt64S (x : List Int) (k : Int) (h0 : 0 ≤ k) (h1 : k + 32 * ((zz (.slc i64) x : Nat) : Int) ≤ BIG) : ∃ (k' : Int) (y : List Int), laws_markInt64S.sem (x, k, ()) = some (k', y, ()) ∧ k ≤ k' ∧ k' ≤ k + 32 * ((zz (.slc i64) x : Nat) : Int) := by
  have hB : BIG = 4611686018427387904 := rfl
  have hl : List.length x ≤ zz (.slc i64) x := zz_len (e := i64) x
  have hs : sumW (fun x : Int => 32 * (zz i64 x + 1)) x = 32 * zz (.slc i64) x := sumW_32 (zz i64) x
  obtain ⟨ys, k', g1, g2, g3, g4, g5⟩ := mark_loop (B := fun self v => laws_markInt64S.B0 0 self (fun z => laws_markInt64S.Q0 0 (x, k, ()) z) (x, k, ()) v) (xs := x) (by rw [maxLen_val]; omega) KInt64S (fun x : Int => 32 * (zz i64 x + 1)) (fun x hx k h0 h1 => by
      exact ⟨_, _, by omega, by omega, ⟨rfl, rfl⟩⟩) (fun i acc k self x y k' hi hx h0 h1 h2 h3 hE => by
      obtain ⟨rfl, rfl⟩ := hE
      show laws_markInt64S.b0 _ _ _ _ = _
      unfold laws_markInt64S.b0
      have hlt : (i : Int) < (acc.length : Int) := by omega
      simp (disch := omega) only [hlt, decide_true, cond_true, Int.natCast_nonneg, and_self, if_true, Int.toNat_natCast, hx, Option.bind_some, List.length_set, get_self_set, List.set_set, w64_in, markText_eq]) (fun acc k self => by
      show laws_markInt64S.b0 _ _ _ _ = _
      unfold laws_markInt64S.b0
      simp [laws_markInt64S.Q0, laws_markInt64S.q0]) k h0 (by rw [hs]; omega)
  refine ⟨k', ys, lift_eq (k := x.length + 1) fun f hf => (laws_markInt64S.raw_eq f _).trans (g5 f (by omega)), g1, by rw [hs] at g2; omega⟩
def KKeyS (x : Key) (k : Int) (y : Key) (k' : Int) : Prop := y = ((k), (k + 1), x.2.2) ∧ k + 1 + 1 = k'
theorem mkKeyS (x : List Key) (k : Int) (h0 : 0 ≤ k) (h1 : k + 32 * ((zz (.slc tKey) x : Nat) : Int) ≤ BIG) : ∃ (k' : Int) (y : List Key), laws_markKeyS.sem (x, k, ()) = some (k', y, ()) ∧ k ≤ k' ∧ k' ≤ k + 32 * ((zz (.slc tKey) x : Nat) : Int) := by
  have hB : BIG = 4611686018427387904 := rfl
  have hl : List.length x ≤ zz (.slc tKey) x := zz_len (e := tKey) x
  have hs : sumW (fun x : Key => 32 * (zz tKey x + 1)) x = 32 * zz (.slc tKey) x := sumW_32 (zz tKey) x
  obtain ⟨ys, k', g1, g2, g3, g4, g5⟩ := mark_loop (B := fun self v => laws_markKeyS.B0 0 self (fun z => laws_markKeyS.Q0 0 (x, k, ()) z) (x, k, ()) v) (xs := x) (by rw [maxLen_val]; omega) KKeyS (fun x : Key => 32 * (zz tKey x + 1)) (fun x hx k h0 h1 => by
      have hz : zz tKey x = (0 + (0 + 0)) := rfl
      exact ⟨_, _, by omega, by omega, ⟨rfl, rfl⟩⟩) (fun i acc k self x y k' hi hx h0 h1 h2 h3 hE => by
      have hz : zz tKey x = (0 + (0 + 0)) := rfl
      obtain ⟨rfl, rfl⟩ := hE
      show laws_markKeyS.b0 _ _ _ _ = _
      unfold laws_markKeyS.b0
      have hlt : (i : Int) < (acc.length : Int) := by omega
      simp (disch := omega) only [hlt, decide_true, cond_true, Int.natCast_nonneg, and_self, if_true, Int.toNat_natCast, hx, Option.bind_some, List.length_set, get_self_set, List.set_set, w64_in, markText_eq]) (fun acc k self => by
      show laws_markKeyS.b0 _ _ _ _ = _
      unfold laws_markKeyS.b0
      simp [laws_markKeyS.Q0, laws_markKeyS.q0]) k h0 (by rw [hs]; omega)
  refine ⟨k', ys, lift_eq (k := x.length + 1) fun f hf => (laws_markKeyS.raw_eq f _).trans (g5 f (by omega)), g1, by rw [hs] at g2; omega⟩
def KTxS (x : Tx) (k : Int) (y : Tx) (k' : Int) : Prop := ∃ (r1 : Int) (y1 : List Change), ∃ (r2 : Int) (y2 : List Int), ∃ (r3 : Int) (y3 : List Key), laws_markChangeS.sem (x.2.1, k + 1, ()) = some (r1, y1, ()) ∧ k + 1 ≤ r1 ∧ r1 ≤ k + 1 + 32 * ((zz (.slc tChange) x.2.1 : Nat) : Int) ∧ laws_markInt64S.sem (x.2.2.1, r1, ()) = some (r2, y2, ()) ∧ r1 ≤ r2 ∧ r2 ≤ r1 + 32 * ((zz (.slc i64) x.2.2.1 : Nat) : Int) ∧ laws_markKeyS.sem (x.2.2.2.1, r2, ()) = some (r3, y3, ()) ∧ r2 ≤ r3 ∧ r3 ≤ r2 + 32 * ((zz (.slc tKey) x.2.2.2.1 : Nat) : Int) ∧ y = ((k), y1, y2, y3, x.2.2.2.2) ∧ r3 = k'
theorem mkTxS (x : List Tx) (k : Int) (h0 : 0 ≤ k) (h1 : k + 32 * ((zz (.slc tTx) x : Nat) : Int) ≤ BIG) : ∃ (k' : Int) (y : List Tx), laws_markTxS.sem (x, k, ()) = some (k', y, ()) ∧ k ≤ k' ∧ k' ≤ k + 32 * ((zz (.slc tTx) x : Nat) : Int) := by
  have hB : BIG = 4611686018427387904 := rfl
  have hl : List.length x ≤ zz (.slc tTx) x := zz_len (e := tTx) x
  have hs : sumW (fun x : Tx => 32 * (zz tTx x + 1)) x = 32 * zz (.slc tTx) x := sumW_32 (zz tTx) x
  obtain ⟨ys, k', g1, g2, g3, g4, g5⟩ := mark_loop (B := fun self v => laws_markTxS.B0 0 self (fun z => laws_markTxS.Q0 0 (x, k, ()) z) (x, k, ()) v) (xs := x) (by rw [maxLen_val]; omega) KTxS (fun x : Tx => 32 * (zz tTx x + 1)) (fun x hx k h0 h1 => by
      have hz : zz tTx x = (0 + (zz (.slc tChange) x.2.1 + (zz (.slc i64) x.2.2.1 + (zz (.slc tKey) x.2.2.2.1 + 0)))) := rfl
      obtain ⟨r1, y1, e1, g1, i1⟩ := mkChangeS x.2.1 (k + 1) (by omega) (by omega)
      obtain ⟨r2, y2, e2, g2, i2⟩ := mkInt64S x.2.2.1 (r1) (by omega) (by omega)
      obtain ⟨r3, y3, e3, g3, i3⟩ := mkKeyS x.2.2.2.1 (r2) (by omega) (by omega)
      exact ⟨_, _, by omega, by omega, ⟨r1, y1, r2, y2, r3, y3, e1, g1, i1, e2, g2, i2, e3, g3, i3, rfl, rfl⟩⟩) (fun i acc k self x y k' hi hx h0 h1 h2 h3 hE => by
      have hz : zz tTx x = (0 + (zz (.slc tChange) x.2.1 + (zz (.slc i64) x.2.2.1 + (zz (.slc tKey) x.2.2.2.1 + 0)))) := rfl
      obtain ⟨r1, y1, r2, y2, r3, y3, e1, g1, i1, e2, g2, i2, e3, g3, i3, rfl, rfl⟩ := hE
      show laws_markTxS.b0 _ _ _ _ = _
      unfold laws_markTxS.b0
      have hlt : (i : Int) < (acc.length : Int) := by omega
      simp (disch := omega) only [hlt, decide_true, cond_true, Int.natCast_nonneg, and_self, if_true, Int.toNat_natCast, hx, Option.bind_some, List.length_set, get_self_set, List.set_set, w64_in, markText_eq, e1, e2, e3]) (fun acc k self => by
      show laws_markTxS.b0 _ _ _ _ = _
      unfold laws_markTxS.b0
      simp [laws_markTxS.Q0, laws_markTxS.q0]) k h0 (by rw [hs]; omega)
  refine ⟨k', ys, lift_eq (k := x.length + 1) fun f hf => (laws_markTxS.raw_eq f _).trans (g5 f (by omega)), g1, by rw [hs] at g2; omega⟩
theorem mkPlain (x : Plain) (k : Int) (h0 : 0 ≤ k) (h1 : k + 32 * ((zz tPlain x : Nat) : Int) ≤ BIG) : ∃ (k' : Int) (y : Plain), laws_markPlain.sem (x, k, ()) = some (k', y, ()) ∧ k ≤ k' ∧ k' ≤ k + 32 * ((zz tPlain x : Nat) : Int) := by
  have hB : BIG = 4611686018427387904 := rfl
  have hz : zz tPlain x = (zz (.slc tRow) x.1 + (zz (.slc tTx) x.2.1 + (0 + 0))) := rfl
  obtain ⟨k1, y1, e1, g1, i1⟩ := mkRowS x.1 k (by omega) (by omega)
  have n1 : ¬ k1 < 0 := by omega
  obtain ⟨k2, y2, e2, g2, i2⟩ := mkTxS x.2.1 k1 (by omega) (by omega)
  have n2 : ¬ k2 < 0 := by omega
  refine ⟨k2, (y1, y2, x.2.2.1, x.2.2.2), lift_eq (k := 0) fun f _ => (laws_markPlain.raw_eq f _).trans ?_, by omega, by omega⟩
  · show laws_markPlain.p _ = _
    unfold laws_markPlain.p
    simp only [e1, e2, Option.bind_some]
theorem mkRowsResult (x : RowsResult) (k : Int) (h0 : 0 ≤ k) (h1 : k + 32 * ((zz tRowsResult x : Nat) : Int) ≤ BIG) : ∃ (k' : Int) (y : RowsResult), laws_markRowsResult.sem (x, k, ()) = some (k', y, ()) ∧ k ≤ k' ∧ k' ≤ k + 32 * ((zz tRowsResult x : Nat) : Int) := by
  have hB : BIG = 4611686018427387904 := rfl
  have hz : zz tRowsResult x = (0 + (zz (.slc tRow) x.2.1 + 0)) := rfl
  obtain ⟨k1, y1, e1, g1, i1⟩ := mkRowS x.2.1 k (by omega) (by omega)
  have n1 : ¬ k1 < 0 := by omega
  refine ⟨k1, (x.1, y1, x.2.2), lift_eq (k := 0) fun f _ => (laws_markRowsResult.raw_eq f _).trans ?_, by omega, by omega⟩
  · show laws_markRowsResult.p _ = _
    unfold laws_markRowsResult.p
    simp only [e1, Option.bind_some]
def ERowS (x : Row) (k : Int) (y : Row) (k' : Int) : Prop := y = ((k), (k + 1), (k + 1 + 1), (mtext (k + 1 + 1 + 1)), x.2.2.2.2) ∧ k + 1 + 1 + 1 + 1 = k'
theorem mhRowS (x : List Row) (k : Int) (h0 : 0 ≤ k) (h1 : k + 32 * ((zz (.slc tRow) x : Nat) : Int) ≤ BIG) : ∃ (k' : Int) (y : List Row), laws_markRowS.sem (x, k, ()) = some (k', y, ()) ∧ laws_heldRowS.sem (y, k, ()) = some (k', ()) ∧ k ≤ k' ∧ k' ≤ k + 32 * ((zz (.slc tRow) x : Nat) : Int) := by
  have hB : BIG = 4611686018427387904 := rfl
  have hl : List.length x ≤ zz (.slc tRow) x := zz_len (e := tRow) x
  have hs : sumW (fun x : Row => 32 * (zz tRow x + 1)) x = 32 * zz (.slc tRow) x := sumW_32 (zz tRow) x
  obtain ⟨ys, k', g1, g2, g3, g4, g5⟩ := mark_loop (B := fun self v => laws_markRowS.B0 0 self (fun z => laws_markRowS.Q0 0 (x, k, ()) z) (x, k, ()) v) (xs := x) (by rw [maxLen_val]; omega) ERowS (fun x : Row => 32 * (zz tRow x + 1)) (fun x hx k h0 h1 => by
      have hz : zz tRow x = (0 + (0 + (0 + (List.length x.2.2.2.1 + 0)))) := rfl
      exact ⟨_, _, by omega, by omega, ⟨rfl, rfl⟩⟩) (fun i acc k self x y k' hi hx h0 h1 h2 h3 hE => by
      have hz : zz tRow x = (0 + (0 + (0 + (List.length x.2.2.2.1 + 0)))) := rfl
      obtain ⟨rfl, rfl⟩ := hE
      show laws_markRowS.b0 _ _ _ _ = _
      unfold laws_markRowS.b0
      have hlt : (i : Int) < (acc.length : Int) := by omega
      simp (disch := omega) only [hlt, decide_true, cond_true, Int.natCast_nonneg, and_self, if_true, Int.toNat_natCast, hx, Option.bind_some, List.length_set, get_self_set, List.set_set, w64_in, markText_eq]) (fun acc k self => by
      show laws_markRowS.b0 _ _ _ _ = _
      unfold laws_markRowS.b0
      simp [laws_markRowS.Q0, laws_markRowS.q0]) k h0 (by rw [hs]; omega)
  refine ⟨k', ys, lift_eq (k := x.length + 1) fun f hf => (laws_markRowS.raw_eq f _).trans (g5 f (by omega)), ?_, g1, by rw [hs] at g2; omega⟩
  refine lift_eq (k := ys.length + 1) fun f hf => (laws_heldRowS.raw_eq f _).trans ?_
  exact held_loop (B := fun self v => laws_heldRowS.B0 0 self (fun z => laws_heldRowS.Q0 0 (ys, k, ()) z) (ys, k, ()) v) (by rw [maxLen_val]; omega) g4 (fun i k self x y k' hi hx h0 h1 h2 h3 hE => by
      have hz : zz tRow x = (0 + (0 + (0 + (List.length x.2.2.2.1 + 0)))) := rfl
      obtain ⟨rfl, rfl⟩ := hE
      show laws_heldRowS.b0 _ _ _ _ = _
      unfold laws_heldRowS.b0
      have hlt : (i : Int) < (ys.length : Int) := by omega
      simp (disch := omega) only [hlt, decide_true, cond_true, Int.natCast_nonneg, and_self, if_true, Int.toNat_natCast, hx, Option.bind_some, w64_in, markText_eq, beq_self_eq_true, Bool.not_true, cond_false, decide_false]) (fun k self => by
      show laws_heldRowS.b0 _ _ _ _ = _
      unfold laws_heldRowS.b0
      simp [laws_heldRowS.Q0, laws_heldRowS.q0]) f (by omega)
theorem mhRowsResult (x : RowsResult) (k : Int) (h0 : 0 ≤ k) (h1 : k + 32 * ((zz tRowsResult x : Nat) : Int) ≤ BIG) : ∃ (k' : Int) (y : RowsResult), laws_markRowsResult.sem (x, k, ()) = some (k', y, ()) ∧ laws_heldRowsResult.sem (y, k, ()) = some (k', ()) ∧ k ≤ k' ∧ k' ≤ k + 32 * ((zz tRowsResult x : Nat) : Int) := by
  have hB : BIG = 4611686018427387904 := rfl
  have hz : zz tRowsResult x = (0 + (zz (.slc tRow) x.2.1 + 0)) := rfl
  obtain ⟨k1, y1, e1, f1, g1, i1⟩ := mhRowS x.2.1 k (by omega) (by omega)
  have n1 : ¬ k1 < 0 := by omega
  refine ⟨k1, (x.1, y1, x.2.2), lift_eq (k := 0) fun f _ => (laws_markRowsResult.raw_eq f _).trans ?_, lift_eq (k := 0) fun f _ => (laws_heldRowsResult.raw_eq f _).trans ?_, by omega, by omega⟩
  · show laws_markRowsResult.p _ = _
    unfold laws_markRowsResult.p
    simp only [e1, Option.bind_some]
  · show laws_heldRowsResult.p _ = _
    unfold laws_heldRowsResult.p
    simp only [f1, n1, Option.bind_some, decide_false, cond_false]
end OT
