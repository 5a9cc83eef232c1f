/- What the functions that FnExactSameSent reaches compute. -/
import Derived.Test.YtnpccifddodjlaaG0
import Derived.Test.YtnpccifddodjlaaOUl
set_option linter.unusedVariables false
set_option linter.unusedSimpArgs false
namespace OT
open Go

/-! What is left of the bound. -/
def sRow (x : Row) (n : Int) : Int := if n - (x.2.2.2.1.length : Int) < 0 then -1 else n - (x.2.2.2.1.length : Int)
theorem szRow_eq (x : Row) (n : Int) (hx : okD tRow x) (h0 : 0 ≤ n) (h1 : n ≤ 1048576) : laws_szRow.sem (x, n, ()) = some (sRow x n, ()) := by
  refine lift_eq (k := 0) fun k _ => (laws_szRow.raw_eq k _).trans ?_
  have hl : List.length x.2.2.2.1 ≤ maxLen := hx.2.2.2.1
  rw [maxLen_val] at hl
  have hw : w64 (n - (List.length x.2.2.2.1 : Int)) = n - (List.length x.2.2.2.1 : Int) := w64_in (by omega)
  show laws_szRow.p _ = _
  unfold laws_szRow.p sRow
  simp only [hw]
  by_cases hc : n - (List.length x.2.2.2.1 : Int) < 0 <;> simp [hc]
theorem sRow_le (x : Row) (n : Int) (h0 : 0 ≤ n) : sRow x n ≤ n := by unfold sRow; split <;> omega

def sChange (x : Change) (n : Int) : Int := if sRow x.2.1 n < 0 then -1 else if sRow x.2.2.2.1 (sRow x.2.1 n) < 0 then -1 else sRow x.2.2.2.1 (sRow x.2.1 n)
theorem szChange_eq (x : Change) (n : Int) (hx : okD tChange x) (h0 : 0 ≤ n) (h1 : n ≤ 1048576) : laws_szChange.sem (x, n, ()) = some (sChange x n, ()) := by
  refine lift_eq (k := 0) fun k _ => (laws_szChange.raw_eq k _).trans ?_
  show laws_szChange.p _ = _
  unfold laws_szChange.p sChange
  have hle := sRow_le x.2.1 n h0
  simp only [szRow_eq x.2.1 n hx.2.1 h0 h1, Option.bind_some]
  by_cases hc : sRow x.2.1 n < 0
  · simp [hc]
  · simp only [hc, decide_false, cond_false, if_false]
    rw [szRow_eq x.2.2.2.1 _ hx.2.2.2.1 (by omega) (by omega)]
    simp only [Option.bind_some]
    by_cases hc2 : sRow x.2.2.2.1 (sRow x.2.1 n) < 0 <;> simp [hc2]
theorem sChange_le (x : Change) (n : Int) (h0 : 0 ≤ n) : sChange x n ≤ n := by
  unfold sChange
  have h1 := sRow_le x.2.1 n h0
  split
  · omega
  · have h2 := sRow_le x.2.2.2.1 (sRow x.2.1 n) (by omega)
    split <;> omega

theorem szChangeS_eq (xs : List Change) (n : Int) (hx : okD (.slc tChange) xs) (h0 : 0 ≤ n) (h1 : n ≤ 1048576) : ∃ r : Int, r ≤ n ∧ (0 ≤ r → xs.length ≤ 1048576) ∧ laws_szChangeS.sem (xs, n, ()) = some (r, ()) := by
  obtain ⟨hl, hel⟩ := hx
  have hl' := hl
  rw [maxLen_val] at hl'
  have hl' : xs.length ≤ 9223372036854775807 := hl'
  have hw : w64 (n - (xs.length : Int)) = n - (xs.length : Int) := w64_in (by omega)
  by_cases hc : n - (xs.length : Int) < 0
  · refine ⟨-1, by omega, fun h => by omega, lift_eq (k := 0) fun k _ => (laws_szChangeS.raw_eq k _).trans ?_⟩
    unfold laws_szChangeS.raw laws_szChangeS.p
    simp only [hw, hc, decide_true, cond_true]
    rfl
  · obtain ⟨r, h2, h3, h4⟩ := size_loop (B := fun self v => laws_szChangeS.B0 0 self (fun z => laws_szChangeS.Q0 0 (xs, n, ()) z) (xs, n, ()) v) (xs := xs) hl sChange (fun i hi m self hm0 hm1 => by
        show laws_szChangeS.b0 _ _ _ _ = _
        unfold laws_szChangeS.b0
        have hlt : (i : Int) < (xs.length : Int) := by omega
        simp only [hlt, decide_true, cond_true, Int.natCast_nonneg, if_true, Int.toNat_natCast, List.getElem?_eq_getElem hi, Option.bind_some, szChange_eq xs[i] m (hel _ (List.getElem_mem hi)) hm0 hm1]
        by_cases hs : sChange xs[i] m < 0 <;> simp [hs]) (fun i hi m hm0 _ => sChange_le _ _ hm0) (fun m self => by
        show laws_szChangeS.b0 _ _ _ _ = _
        unfold laws_szChangeS.b0
        simp [laws_szChangeS.Q0, laws_szChangeS.q0]) (n - (xs.length : Int)) (by omega) (by omega)
    refine ⟨r, by omega, fun _ => by omega, lift_eq (k := xs.length + 1) fun k hk => (laws_szChangeS.raw_eq k _).trans ?_⟩
    unfold laws_szChangeS.raw laws_szChangeS.p
    simp only [hw, hc, decide_false, cond_false]
    exact h4 k (by omega)

theorem szSent_eq (x : Sent) (n : Int) (hx : okD tSent x) (h0 : 0 ≤ n) (h1 : n ≤ 1048576) : ∃ r : Int, r ≤ n ∧ (0 ≤ r → x.2.2.1.length ≤ 1048576) ∧ laws_szSent.sem (x, n, ()) = some (r, ()) := by
  obtain ⟨r, h2, h3, h4⟩ := szChangeS_eq x.2.2.1 n hx.2.2.1 h0 h1
  by_cases hr : r < 0
  · refine ⟨-1, by omega, fun h => by omega, lift_eq (k := 0) fun k _ => (laws_szSent.raw_eq k _).trans ?_⟩
    show laws_szSent.p _ = _
    unfold laws_szSent.p
    simp [h4, hr]
  · refine ⟨r, h2, h3, lift_eq (k := 0) fun k _ => (laws_szSent.raw_eq k _).trans ?_⟩
    show laws_szSent.p _ = _
    unfold laws_szSent.p
    simp [h4, hr]
noncomputable def sSent (x : Sent) (n : Int) : Int := ((laws_szSent.sem (x, n, ())).map (·.1)).getD 0
theorem sSent_eq (x : Sent) (n : Int) (hx : okD tSent x) (h0 : 0 ≤ n) (h1 : n ≤ 1048576) : laws_szSent.sem (x, n, ()) = some (sSent x n, ()) ∧ sSent x n ≤ n ∧ (0 ≤ sSent x n → x.2.2.1.length ≤ 1048576) := by
  obtain ⟨r, h2, h3, h4⟩ := szSent_eq x n hx h0 h1
  have : sSent x n = r := by simp [sSent, h4]
  rw [this]
  exact ⟨h4, h2, h3⟩

/-- No more than a million of anything. -/
def small (xs : List Sent) : Prop := xs.length ≤ 1048576 ∧ ∀ x ∈ xs, x.2.2.1.length ≤ 1048576

theorem szSentS_eq (xs : List Sent) (n : Int) (hx : okD (.slc tSent) xs) (h0 : 0 ≤ n) (h1 : n ≤ 1048576) : ∃ r : Int, r ≤ n ∧ (0 ≤ r → small xs) ∧ laws_szSentS.sem (xs, n, ()) = some (r, ()) := by
  obtain ⟨hl, hel⟩ := hx
  have hl' := hl
  rw [maxLen_val] at hl'
  have hl' : xs.length ≤ 9223372036854775807 := hl'
  have hw : w64 (n - (xs.length : Int)) = n - (xs.length : Int) := w64_in (by omega)
  by_cases hc : n - (xs.length : Int) < 0
  · refine ⟨-1, by omega, fun h => by omega, lift_eq (k := 0) fun k _ => (laws_szSentS.raw_eq k _).trans ?_⟩
    unfold laws_szSentS.raw laws_szSentS.p
    simp only [hw, hc, decide_true, cond_true]
    rfl
  · obtain ⟨r, h2, h3, h4⟩ := size_loop (B := fun self v => laws_szSentS.B0 0 self (fun z => laws_szSentS.Q0 0 (xs, n, ()) z) (xs, n, ()) v) (xs := xs) hl sSent (fun i hi m self hm0 hm1 => by
        show laws_szSentS.b0 _ _ _ _ = _
        unfold laws_szSentS.b0
        have hlt : (i : Int) < (xs.length : Int) := by omega
        simp only [hlt, decide_true, cond_true, Int.natCast_nonneg, if_true, Int.toNat_natCast, List.getElem?_eq_getElem hi, Option.bind_some, (sSent_eq xs[i] m (hel _ (List.getElem_mem hi)) hm0 hm1).1]
        by_cases hs : sSent xs[i] m < 0 <;> simp [hs]) (fun i hi m hm0 hm1 => (sSent_eq xs[i] m (hel _ (List.getElem_mem hi)) hm0 hm1).2.1) (fun m self => by
        show laws_szSentS.b0 _ _ _ _ = _
        unfold laws_szSentS.b0
        simp [laws_szSentS.Q0, laws_szSentS.q0]) (n - (xs.length : Int)) (by omega) (by omega)
    refine ⟨r, by omega, fun hr => ⟨by omega, fun x hx => ?_⟩, lift_eq (k := xs.length + 1) fun k hk => (laws_szSentS.raw_eq k _).trans ?_⟩
    · obtain ⟨n', g1, g2, g3⟩ := h3 hr x hx
      exact (sSent_eq x n' (hel x hx) g1 (by omega)).2.2 g3
    · unfold laws_szSentS.raw laws_szSentS.p
      simp only [hw, hc, decide_false, cond_false]
      exact h4 k (by omega)

/-! Copies. -/
theorem toRow_eq (x : Row) : laws_toRow.sem (x, ()) = some (x, ()) := lift_eq (k := 0) fun k _ => (laws_toRow.raw_eq k _).trans rfl
theorem toChange_eq (x : Change) : laws_toChange.sem (x, ()) = some (x, ()) := by
  refine lift_eq (k := 0) fun k _ => (laws_toChange.raw_eq k _).trans ?_
  show laws_toChange.p _ = _
  unfold laws_toChange.p
  simp only [toRow_eq, Option.bind_some]
theorem toChangeS_eq (xs : List Change) (h : xs.length ≤ 1048576) : laws_toChangeS.sem (xs, ()) = some (xs, ()) := by
  refine lift_eq (k := xs.length + 1) fun k hk => (laws_toChangeS.raw_eq k _).trans ?_
  unfold laws_toChangeS.raw laws_toChangeS.p
  have hc : 0 ≤ (xs.length : Int) ∧ (xs.length : Int) ≤ (xs.length : Int) ∧ (xs.length : Int) ≤ (CAP : Int) := by simp only [CAP]; omega
  simp only [hc, and_self, if_true, Int.toNat_natCast]
  exact copy_loop (B := fun self v => laws_toChangeS.B0 k self (fun z => laws_toChangeS.Q0 k (xs, ()) z) (xs, ()) v) (xs := xs) (by rw [maxLen_val]; omega) (fun i hi acc self ha => by
    show laws_toChangeS.b0 _ _ _ _ = _
    unfold laws_toChangeS.b0
    have hlt : (i : Int) < (xs.length : Int) := by omega
    have hlt2 : (i : Int) < (acc.length : Int) := by omega
    simp only [hlt, hlt2, decide_true, cond_true, Int.natCast_nonneg, and_self, if_true, Int.toNat_natCast, List.getElem?_eq_getElem hi, List.getElem?_eq_getElem (show i < acc.length by omega), Option.bind_some, toChange_eq]) (fun acc self => by
    show laws_toChangeS.b0 _ _ _ _ = _
    unfold laws_toChangeS.b0
    simp [laws_toChangeS.Q0, laws_toChangeS.q0]) _ k (by omega)
theorem toSent_eq (x : Sent) (h : x.2.2.1.length ≤ 1048576) : laws_toSent.sem (x, ()) = some (x, ()) := by
  refine lift_eq (k := 0) fun k _ => (laws_toSent.raw_eq k _).trans ?_
  show laws_toSent.p _ = _
  unfold laws_toSent.p
  simp only [toChangeS_eq _ h, Option.bind_some]
theorem toSentS_eq (xs : List Sent) (h : small xs) : laws_toSentS.sem (xs, ()) = some (xs, ()) := by
  obtain ⟨hl, hel⟩ := h
  refine lift_eq (k := xs.length + 1) fun k hk => (laws_toSentS.raw_eq k _).trans ?_
  unfold laws_toSentS.raw laws_toSentS.p
  have hc : 0 ≤ (xs.length : Int) ∧ (xs.length : Int) ≤ (xs.length : Int) ∧ (xs.length : Int) ≤ (CAP : Int) := by simp only [CAP]; omega
  simp only [hc, and_self, if_true, Int.toNat_natCast]
  exact copy_loop (B := fun self v => laws_toSentS.B0 k self (fun z => laws_toSentS.Q0 k (xs, ()) z) (xs, ()) v) (xs := xs) (by rw [maxLen_val]; omega) (fun i hi acc self ha => by
    show laws_toSentS.b0 _ _ _ _ = _
    unfold laws_toSentS.b0
    have hlt : (i : Int) < (xs.length : Int) := by omega
    have hlt2 : (i : Int) < (acc.length : Int) := by omega
    simp only [hlt, hlt2, decide_true, cond_true, Int.natCast_nonneg, and_self, if_true, Int.toNat_natCast, List.getElem?_eq_getElem hi, List.getElem?_eq_getElem (show i < acc.length by omega), Option.bind_some, toSent_eq _ (hel _ (List.getElem_mem hi))]) (fun acc self => by
    show laws_toSentS.b0 _ _ _ _ = _
    unfold laws_toSentS.b0
    simp [laws_toSentS.Q0, laws_toSentS.q0]) _ k (by omega)

/-! Alike. -/
def eqC (x y : Change) : Bool := Ty.eq tChange x y
def sameC (xs ys : List Change) : Bool := decide (xs.length = ys.length) && allB eqC xs ys
def sameS1 (x y : Sent) : Bool := decide (x.1 = y.1) && (decide (x.2.1 = y.2.1) && sameC x.2.2.1 y.2.2.1)
def sameS (xs ys : List Sent) : Bool := decide (xs.length = ys.length) && allB sameS1 xs ys

theorem len_int {α : Type} (xs ys : List α) : decide ((xs.length : Int) = (ys.length : Int)) = decide (xs.length = ys.length) := by
  by_cases h : xs.length = ys.length
  · simp [h]
  · have : ¬ (xs.length : Int) = (ys.length : Int) := by omega
    simp [h, this]

theorem l15Changes_eq (xs ys : List Change) (hx : xs.length ≤ maxLen) : spec_l15Changes.sem (xs, ys, ()) = some (sameC xs ys, ()) := by
  refine lift_eq (k := xs.length + 1) fun k hk => (spec_l15Changes.raw_eq k _).trans ?_
  unfold spec_l15Changes.raw spec_l15Changes.p sameC
  simp only [len_int]
  by_cases hl : xs.length = ys.length
  · simp only [hl, decide_true, Bool.not_true, cond_false, Bool.true_and]
    exact all_loop (B := fun self v => spec_l15Changes.B0 k self (fun z => spec_l15Changes.Q0 k (xs, ys, ()) z) (xs, ys, ()) v) eqC hl hx (fun i hi hj self => by
      show spec_l15Changes.b0 _ _ _ _ = _
      unfold spec_l15Changes.b0
      have hlt : (i : Int) < (xs.length : Int) := by omega
      simp only [hlt, decide_true, cond_true, Int.natCast_nonneg, if_true, Int.toNat_natCast, List.getElem?_eq_getElem hi, List.getElem?_eq_getElem hj, Option.bind_some]
      show (bif !eqC xs[i] ys[i] then _ else _) = _
      cases eqC xs[i] ys[i] <;> rfl) (fun self => by
      show spec_l15Changes.b0 _ _ _ _ = _
      unfold spec_l15Changes.b0
      simp [spec_l15Changes.Q0, spec_l15Changes.q0]) k (by omega)
  · simp [hl]
    try rfl
theorem equalChange_eq (xs ys : List Change) (hx : xs.length ≤ maxLen) : slices_Equal_Change.sem (xs, ys, ()) = some (sameC xs ys, ()) := by
  refine lift_eq (k := xs.length + 1) fun k hk => (slices_Equal_Change.raw_eq k _).trans ?_
  unfold slices_Equal_Change.raw slices_Equal_Change.p sameC
  simp only [len_int]
  by_cases hl : xs.length = ys.length
  · simp only [hl, decide_true, Bool.not_true, cond_false, Bool.true_and]
    exact all_loop (B := fun self v => slices_Equal_Change.B0 k self (fun z => slices_Equal_Change.Q0 k (xs, ys, ()) z) (xs, ys, ()) v) eqC hl hx (fun i hi hj self => by
      show slices_Equal_Change.b0 _ _ _ _ = _
      unfold slices_Equal_Change.b0
      have hlt : (i : Int) < (xs.length : Int) := by omega
      simp only [hlt, decide_true, cond_true, Int.natCast_nonneg, if_true, Int.toNat_natCast, List.getElem?_eq_getElem hi, List.getElem?_eq_getElem hj, Option.bind_some]
      show (bif !eqC xs[i] ys[i] then _ else _) = _
      cases eqC xs[i] ys[i] <;> rfl) (fun self => by
      show slices_Equal_Change.b0 _ _ _ _ = _
      unfold slices_Equal_Change.b0
      simp [slices_Equal_Change.Q0, slices_Equal_Change.q0]) k (by omega)
  · simp [hl]
    try rfl

theorem specSame_eq (xs ys : List Sent) (hx : okD (.slc tSent) xs) : spec_SameSent.sem (xs, ys, ()) = some (sameS xs ys, ()) := by
  obtain ⟨hx, hel⟩ := hx
  refine lift_eq (k := xs.length + 1) fun k hk => (spec_SameSent.raw_eq k _).trans ?_
  unfold spec_SameSent.raw spec_SameSent.p sameS
  simp only [len_int]
  by_cases hl : xs.length = ys.length
  · simp only [hl, decide_true, Bool.not_true, cond_false, Bool.true_and]
    exact all_loop (B := fun self v => spec_SameSent.B0 k self (fun z => spec_SameSent.Q0 k (xs, ys, ()) z) (xs, ys, ()) v) sameS1 hl hx (fun i hi hj self => by
      show spec_SameSent.b0 _ _ _ _ = _
      unfold spec_SameSent.b0
      have hlt : (i : Int) < (xs.length : Int) := by omega
      simp only [hlt, decide_true, cond_true, Int.natCast_nonneg, if_true, Int.toNat_natCast, List.getElem?_eq_getElem hi, List.getElem?_eq_getElem hj, Option.bind_some, l15Changes_eq _ _ (hel _ (List.getElem_mem hi)).2.2.1.1]
      unfold sameS1
      by_cases h1 : xs[i].1 = ys[i].1 <;> by_cases h2 : xs[i].2.1 = ys[i].2.1 <;> cases h3 : sameC xs[i].2.2.1 ys[i].2.2.1 <;> simp [h1, h2, h3]) (fun self => by
      show spec_SameSent.b0 _ _ _ _ = _
      unfold spec_SameSent.b0
      simp [spec_SameSent.Q0, spec_SameSent.q0]) k (by omega)
  · simp [hl]
    try rfl
theorem implSame1_eq (x y : Sent) (hx : okD tSent x) : impl_SameSent_1.sem (x, y, ()) = some (sameS1 x y, ()) := by
  refine lift_eq (k := 0) fun k _ => (impl_SameSent_1.raw_eq k _).trans ?_
  show impl_SameSent_1.p _ = _
  unfold impl_SameSent_1.p sameS1
  simp only [equalChange_eq _ _ hx.2.2.1.1, Option.bind_some]
  by_cases h1 : x.1 = y.1 <;> by_cases h2 : x.2.1 = y.2.1 <;> simp [h1, h2]
theorem equalFunc_eq (xs ys : List Sent) (f : Nat × Int) (hx : okD (.slc tSent) xs) : slices_EqualFunc_Sent.sem (xs, ys, f, ()) = some (sameS xs ys, ()) := by
  obtain ⟨hx, hel⟩ := hx
  refine lift_eq (k := xs.length + 1) fun k hk => (slices_EqualFunc_Sent.raw_eq k _).trans ?_
  unfold slices_EqualFunc_Sent.raw slices_EqualFunc_Sent.p sameS
  simp only [len_int]
  by_cases hl : xs.length = ys.length
  · simp only [hl, decide_true, Bool.not_true, cond_false, Bool.true_and]
    exact all_loop (B := fun self v => slices_EqualFunc_Sent.B0 k self (fun z => slices_EqualFunc_Sent.Q0 k (xs, ys, f, ()) z) (xs, ys, f, ()) v) sameS1 hl hx (fun i hi hj self => by
      show slices_EqualFunc_Sent.b0 _ _ _ _ = _
      unfold slices_EqualFunc_Sent.b0
      have hlt : (i : Int) < (xs.length : Int) := by omega
      simp only [hlt, decide_true, cond_true, Int.natCast_nonneg, if_true, Int.toNat_natCast, List.getElem?_eq_getElem hi, List.getElem?_eq_getElem hj, Option.bind_some, implSame1_eq _ _ (hel _ (List.getElem_mem hi))]
      cases sameS1 xs[i] ys[i] <;> simp) (fun self => by
      show slices_EqualFunc_Sent.b0 _ _ _ _ = _
      unfold slices_EqualFunc_Sent.b0
      simp [slices_EqualFunc_Sent.Q0, slices_EqualFunc_Sent.q0]) k (by omega)
  · simp [hl]
    try rfl
theorem implSame_eq (xs ys : List Sent) (hx : okD (.slc tSent) xs) : impl_SameSent.sem (xs, ys, ()) = some (sameS xs ys, ()) := by
  refine lift_eq (k := 0) fun k _ => (impl_SameSent.raw_eq k _).trans ?_
  show impl_SameSent.p _ = _
  unfold impl_SameSent.p
  simp only [equalFunc_eq _ _ _ hx, Option.bind_some]

/-! Data that were not turned. -/
theorem eqRow_self (x : Row) : laws_eqRow.sem (x, x, ()) = some (true, ()) := by
  refine lift_eq (k := 0) fun k _ => (laws_eqRow.raw_eq k _).trans ?_
  show laws_eqRow.p _ = _
  unfold laws_eqRow.p
  simp
theorem eqChange_self (x : Change) : laws_eqChange.sem (x, x, ()) = some (true, ()) := by
  refine lift_eq (k := 0) fun k _ => (laws_eqChange.raw_eq k _).trans ?_
  show laws_eqChange.p _ = _
  unfold laws_eqChange.p
  simp [eqRow_self]
theorem allB_self {α : Type} (xs : List α) : allB (fun _ _ => true) xs xs = true := by simp [allB]
theorem eqChangeS_self (xs : List Change) (hx : xs.length ≤ maxLen) : laws_eqChangeS.sem (xs, xs, ()) = some (true, ()) := by
  refine lift_eq (k := xs.length + 1) fun k hk => (laws_eqChangeS.raw_eq k _).trans ?_
  unfold laws_eqChangeS.raw laws_eqChangeS.p
  simp only [decide_true, Bool.not_true, cond_false]
  have := all_loop (B := fun self v => laws_eqChangeS.B0 k self (fun z => laws_eqChangeS.Q0 k (xs, xs, ()) z) (xs, xs, ()) v) (xs := xs) (ys := xs) (fun _ _ => true) rfl hx (fun i hi hj self => by
      show laws_eqChangeS.b0 _ _ _ _ = _
      unfold laws_eqChangeS.b0
      have hlt : (i : Int) < (xs.length : Int) := by omega
      simp only [hlt, decide_true, cond_true, Int.natCast_nonneg, if_true, Int.toNat_natCast, List.getElem?_eq_getElem hi, Option.bind_some, eqChange_self, Bool.not_true, cond_false]) (fun self => by
      show laws_eqChangeS.b0 _ _ _ _ = _
      unfold laws_eqChangeS.b0
      simp [laws_eqChangeS.Q0, laws_eqChangeS.q0]) k (by omega)
  rw [allB_self] at this
  exact this
theorem eqSent_self (x : Sent) (hx : okD tSent x) : laws_eqSent.sem (x, x, ()) = some (true, ()) := by
  refine lift_eq (k := 0) fun k _ => (laws_eqSent.raw_eq k _).trans ?_
  show laws_eqSent.p _ = _
  unfold laws_eqSent.p
  simp [eqChangeS_self _ hx.2.2.1.1]
theorem eqSentS_self (xs : List Sent) (hx : okD (.slc tSent) xs) : laws_eqSentS.sem (xs, xs, ()) = some (true, ()) := by
  obtain ⟨hx, hel⟩ := hx
  refine lift_eq (k := xs.length + 1) fun k hk => (laws_eqSentS.raw_eq k _).trans ?_
  unfold laws_eqSentS.raw laws_eqSentS.p
  simp only [decide_true, Bool.not_true, cond_false]
  have := all_loop (B := fun self v => laws_eqSentS.B0 k self (fun z => laws_eqSentS.Q0 k (xs, xs, ()) z) (xs, xs, ()) v) (xs := xs) (ys := xs) (fun _ _ => true) rfl hx (fun i hi hj self => by
      show laws_eqSentS.b0 _ _ _ _ = _
      unfold laws_eqSentS.b0
      have hlt : (i : Int) < (xs.length : Int) := by omega
      simp only [hlt, decide_true, cond_true, Int.natCast_nonneg, if_true, Int.toNat_natCast, List.getElem?_eq_getElem hi, Option.bind_some, eqSent_self _ (hel _ (List.getElem_mem hi)), Bool.not_true, cond_false]) (fun self => by
      show laws_eqSentS.b0 _ _ _ _ = _
      unfold laws_eqSentS.b0
      simp [laws_eqSentS.Q0, laws_eqSentS.q0]) k (by omega)
  rw [allB_self] at this
  exact this

theorem sameSent_true (v : laws_FnExactSameSent.Arg) (hv : okA laws_FnExactSameSent.ps v) : laws_FnExactSameSent.sem v = some (true, ()) := by
  obtain ⟨a, b, ⟨⟩⟩ := v
  obtain ⟨ha, hb, _⟩ := hv
  refine lift_eq (k := 0) fun k _ => (laws_FnExactSameSent.raw_eq k _).trans ?_
  show laws_FnExactSameSent.p _ = _
  unfold laws_FnExactSameSent.p
  obtain ⟨r, r1, r2, r3⟩ := szSentS_eq a 1048576 ha (by omega) (by omega)
  simp only [r3, Option.bind_some]
  by_cases h1 : r < 0
  · simp [h1]
  · obtain ⟨q, q1, q2, q3⟩ := szSentS_eq b r hb (by omega) r1
    simp only [h1, decide_false, cond_false, q3, Option.bind_some]
    by_cases h2 : q < 0
    · simp [h2]
    · have sa := r2 (by omega)
      have sb := q2 (by omega)
      simp [h2, toSentS_eq a sa, toSentS_eq b sb, specSame_eq a b ha, implSame_eq a b ha, eqSentS_self a ha, eqSentS_self b hb]
end OT
