/- FnExactCheckOp: the row; no conditions. -/
import Derived.Test.YtkimdiobckckiaaQe
import Derived.Test.YtkimdiobckckiaaRows
set_option linter.unusedVariables false
set_option linter.unusedSimpArgs false
namespace OT
open Go

/-! Keys. -/
def rk (x : Row) : Int × Int := (x.1, x.2.1)
theorem befB_iff (a b : Int × Int) : befB a b = true ↔ a.1 < b.1 ∨ (a.1 = b.1 ∧ a.2 < b.2) := by unfold befB; simp
theorem befB_trans {a b c : Int × Int} (h1 : befB a b = true) (h2 : befB b c = true) : befB a c = true := by
  rw [befB_iff] at *; omega
theorem befB_irr (a : Int × Int) : befB a a = false := by
  cases h : befB a a with
  | false => rfl
  | true => rw [befB_iff] at h; omega
/-- Rows that rise. -/
def up (xs : List Row) : Prop := xs.Pairwise (fun a b => befB (rk a) (rk b) = true)
theorem up_cons {x : Row} {xs : List Row} : up (x :: xs) ↔ (∀ y ∈ xs, befB (rk x) (rk y) = true) ∧ up xs := List.pairwise_cons

/-- How many are ahead of a key. -/
def pos : List Row → Int × Int → Nat
  | [], _ => 0
  | x :: xs, k => if befB (rk x) k then pos xs k + 1 else 0
theorem pos_le : ∀ (xs : List Row) (k : Int × Int), pos xs k ≤ xs.length
  | [], _ => Nat.le_refl _
  | x :: xs, k => by simp only [pos]; split <;> simp [pos_le xs k]
theorem pos_lt : ∀ (xs : List Row) (k : Int × Int) (i : Nat) (h : i < xs.length), i < pos xs k → befB (rk xs[i]) k = true
  | x :: xs, k, i, h, hp => by
    simp only [pos] at hp
    split at hp
    · rename_i hx
      cases i with
      | zero => exact hx
      | succ i => exact pos_lt xs k i (by simpa using h) (by omega)
    · omega
theorem up_not : ∀ (xs : List Row) (k : Int × Int) (i : Nat) (h : i < xs.length), up xs → pos xs k ≤ i → befB (rk xs[i]) k = false
  | x :: xs, k, i, h, hu, hp => by
    simp only [pos] at hp
    split at hp
    · cases i with
      | zero => omega
      | succ i => exact up_not xs k i (by simpa using h) (up_cons.1 hu).2 (by omega)
    · rename_i hx
      have hx : befB (rk x) k = false := by simpa using hx
      cases i with
      | zero => exact hx
      | succ i =>
        have hi' : i < xs.length := by simpa using h
        have hm : befB (rk x) (rk xs[i]) = true := (up_cons.1 hu).1 _ (List.getElem_mem _)
        show befB (rk xs[i]) k = false
        cases hb : befB (rk xs[i]) k with
        | false => rfl
        | true => rw [befB_trans hm hb] at hx; cases hx

/-- Whether there is a row with a key. -/
def fnd (xs : List Row) (k : Int × Int) : Bool := match xs[pos xs k]? with
  | some x => decide (rk x = k)
  | none => false

theorem fnd_lt {xs : List Row} {k : Int × Int} (h : fnd xs k = true) : ∃ hp : pos xs k < xs.length, rk xs[pos xs k] = k := by
  unfold fnd at h
  split at h
  · rename_i x hx
    obtain ⟨hp, e⟩ := List.getElem?_eq_some_iff.1 hx
    subst e
    exact ⟨hp, by simpa using h⟩
  · cases h

/-! The search of the program. -/
theorem ord_lt (a b : Row) : decide ((if befB (a.1, a.2.1) (b.1, b.2.1) then (-1 : Int) else if befB (b.1, b.2.1) (a.1, a.2.1) then 1 else 0) < 0) = befB (rk a) (rk b) := by
  unfold rk
  cases befB (a.1, a.2.1) (b.1, b.2.1) <;> cases befB (b.1, b.2.1) (a.1, a.2.1) <;> rfl
theorem sameKey_rk (a b : Row) : sameKey a b = decide (rk a = rk b) := by
  unfold sameKey rk
  by_cases h1 : a.1 = b.1 <;> by_cases h2 : a.2.1 = b.2.1 <;> simp [h1, h2]

theorem half (lo hi : Nat) (h : lo + hi ≤ 4611686018427387904) : w64 ((IntKind.wrap .u64 (w64 ((lo : Int) + (hi : Int)))).fdiv (2 ^ 1)) = (((lo + hi) / 2 : Nat) : Int) := by
  have e1 : w64 ((lo : Int) + (hi : Int)) = ((lo + hi : Nat) : Int) := by rw [w64_in (by omega)]; omega
  rw [e1]
  have e2 : IntKind.wrap .u64 ((lo + hi : Nat) : Int) = ((lo + hi : Nat) : Int) := by
    simp only [IntKind.wrap]
    first | rfl | (simp [IntKind.bits, IntKind.signed]; omega) | omega
  rw [e2]
  have e3 : (((lo + hi : Nat) : Int)).fdiv (2 ^ 1) = (((lo + hi) / 2 : Nat) : Int) := by
    rw [Int.fdiv_eq_ediv_of_nonneg _ (by omega)]
    omega
  rw [e3, w64_in (by omega)]

theorem search_eq (xs : List Row) (key : Row) (f : Nat × Int) (hu : up xs) (hl : xs.length ≤ 2000000) : slices_BinarySearchFunc_Row.sem (xs, key, f, ()) = some ((pos xs (rk key) : Int), fnd xs (rk key), ()) := by
  have hp := pos_le xs (rk key)
  have hq : slices_BinarySearchFunc_Row.Q0 0 (xs, key, f, ()) (pos xs (rk key) : Int) = some ((pos xs (rk key) : Int), fnd xs (rk key), ()) := by
    show slices_BinarySearchFunc_Row.q0 _ _ = _
    unfold slices_BinarySearchFunc_Row.q0 fnd
    by_cases hlt : pos xs (rk key) < xs.length
    · have h1 : ((pos xs (rk key) : Nat) : Int) < (xs.length : Int) := by omega
      simp only [h1, decide_true, cond_true, Int.natCast_nonneg, if_true, Int.toNat_natCast, List.getElem?_eq_getElem hlt, Option.bind_some, order_eq, order_zero, sameKey_rk]
    · have h1 : ¬ ((pos xs (rk key) : Nat) : Int) < (xs.length : Int) := by omega
      simp only [h1, decide_false, cond_false]
      rw [List.getElem?_eq_none (by omega)]
  refine lift_eq (k := xs.length + 1) fun k hk => (slices_BinarySearchFunc_Row.raw_eq k _).trans ?_
  refine rawIter_eq (B := fun self v => slices_BinarySearchFunc_Row.B0 0 self (fun z => slices_BinarySearchFunc_Row.Q0 0 (xs, key, f, ()) z) (xs, key, f, ()) v) (fun _ => ((pos xs (rk key) : Int), fnd xs (rk key), ()))
    (fun v => ∃ lo hi : Nat, v = ((lo : Int), (hi : Int)) ∧ lo ≤ pos xs (rk key) ∧ pos xs (rk key) ≤ hi ∧ hi ≤ xs.length) (fun v => (v.2 - v.1).toNat) (fun v hv self => ?_) k (0, (xs.length : Int)) ⟨0, xs.length, rfl, by omega, hp, by omega⟩ (by simp; omega)
  obtain ⟨lo, hi, rfl, h1, h2, h3⟩ := hv
  by_cases hlt : lo < hi
  · right
    have hlt' : (lo : Int) < (hi : Int) := by omega
    have hm : (lo + hi) / 2 < xs.length := by omega
    have hb : ∀ self, slices_BinarySearchFunc_Row.B0 0 self (fun z => slices_BinarySearchFunc_Row.Q0 0 (xs, key, f, ()) z) (xs, key, f, ()) ((lo : Int), (hi : Int)) = if befB (rk xs[(lo + hi) / 2]) (rk key) then self (w64 ((((lo + hi) / 2 : Nat) : Int) + 1), (hi : Int)) else self ((lo : Int), (((lo + hi) / 2 : Nat) : Int)) := fun self => by
      show slices_BinarySearchFunc_Row.b0 _ _ _ _ = _
      unfold slices_BinarySearchFunc_Row.b0
      simp only [hlt', decide_true, cond_true, half lo hi (by omega), Int.natCast_nonneg, if_true, Int.toNat_natCast, List.getElem?_eq_getElem hm, Option.bind_some, order_eq, ord_lt]
      cases befB (rk xs[(lo + hi) / 2]) (rk key) <;> rfl
    cases hc : befB (rk xs[(lo + hi) / 2]) (rk key) with
    | true =>
      refine ⟨((((lo + hi) / 2 + 1 : Nat) : Int), (hi : Int)), ?_, rfl, ⟨_, _, rfl, ?_, h2, h3⟩, by simp only; omega⟩
      · rw [hb, hc, if_pos rfl, w64_in (by omega)]; rfl
      · rcases Nat.lt_or_ge ((lo + hi) / 2) (pos xs (rk key)) with h | h
        · omega
        · rw [up_not xs _ _ hm hu h] at hc; cases hc
    | false =>
      refine ⟨((lo : Int), (((lo + hi) / 2 : Nat) : Int)), ?_, rfl, ⟨_, _, rfl, h1, ?_, by omega⟩, by simp only; omega⟩
      · rw [hb, hc]; rfl
      · rcases Nat.lt_or_ge ((lo + hi) / 2) (pos xs (rk key)) with h | h
        · rw [pos_lt xs _ _ hm h] at hc; cases hc
        · exact h
  · left
    have e : lo = pos xs (rk key) := by omega
    have hlt' : ¬ (lo : Int) < (hi : Int) := by omega
    show slices_BinarySearchFunc_Row.b0 _ _ _ _ = _
    unfold slices_BinarySearchFunc_Row.b0
    simp only [hlt', decide_false, cond_false]
    rw [e]
    exact hq

/-! One change. -/
def fits1 (xs : List Row) (c : Change) : Bool := (fnd xs (ck c) == c.1) && (!fnd xs (ck c) || (match xs[pos xs (ck c)]? with | some x => Ty.eq tRow x c.2.1 | none => true))
def done1 (xs : List Row) (c : Change) : List Row := xs.take (pos xs (ck c)) ++ (if c.2.2.1 then [c.2.2.2.1] else []) ++ xs.drop (pos xs (ck c) + if fnd xs (ck c) then 1 else 0)

/-! The reference: one change. -/
theorem specBefore_eq (a b : Row) : spec_l1Before.sem (a, b, ()) = some (befB (rk a) (rk b), ()) := by
  refine lift_eq (k := 0) fun k _ => (spec_l1Before.raw_eq k _).trans ?_
  show spec_l1Before.p _ = _
  unfold spec_l1Before.p befB rk
  by_cases h1 : a.1 < b.1 <;> by_cases h2 : a.1 = b.1 <;> simp [h1, h2]

theorem fnd_cons_lt {x : Row} {xs : List Row} {k : Int × Int} (h : befB (rk x) k = true) : fnd (x :: xs) k = fnd xs k := by
  unfold fnd
  simp only [pos, h, if_true, List.getElem?_cons_succ]
theorem fnd_mem {xs : List Row} {k : Int × Int} (h : fnd xs k = true) : ∃ y ∈ xs, rk y = k := by
  obtain ⟨hp, hk⟩ := fnd_lt h
  exact ⟨_, List.getElem_mem hp, hk⟩

theorem at_forI (k : Int × Int) : ∀ (xs : List Row) (j : Nat), up xs → forI (fun i (_ : Unit) x => if rk x = k then .inl ((i : Int), ()) else .inr ()) (fun _ => ((-1 : Int), ())) j xs () = if fnd xs k then (((j + pos xs k : Nat) : Int), ()) else (-1, ())
  | [], j, _ => by simp [forI, fnd]
  | x :: xs, j, hu => by
    have hu := up_cons.1 hu
    simp only [forI]
    by_cases hx : rk x = k
    · have hb : befB (rk x) k = false := by rw [hx]; exact befB_irr k
      have hf : fnd (x :: xs) k = true := by
        have hp0 : pos (x :: xs) k = 0 := by simp only [pos, hb, Bool.false_eq_true, if_false]
        unfold fnd
        rw [hp0]
        simp [hx]
      simp [hx, hf, pos, befB_irr]
    · simp only [hx, if_false]
      rw [at_forI k xs (j + 1) hu.2]
      cases hb : befB (rk x) k with
      | true =>
        rw [fnd_cons_lt hb]
        simp only [pos, hb, if_true]
        have : j + 1 + pos xs k = j + (pos xs k + 1) := by omega
        rw [this]
      | false =>
        have h1 : fnd (x :: xs) k = false := by simp [fnd, pos, hb, hx]
        have h2 : fnd xs k = false := by
          cases h : fnd xs k with
          | false => rfl
          | true =>
            obtain ⟨y, hy, e⟩ := fnd_mem h
            have := hu.1 y hy
            rw [e, hb] at this; cases this
        simp [h1, h2]

def atI (xs : List Row) (k : Int × Int) : Int := if fnd xs k then (pos xs k : Int) else -1
theorem specAt_eq (xs : List Row) (t k : Int) (hu : up xs) (hl : xs.length ≤ 2000000) : spec_l6At.sem (xs, t, k, ()) = some (atI xs (t, k), ()) := by
  refine lift_eq (k := xs.length + 1) fun f hf => (spec_l6At.raw_eq f _).trans ?_
  have := for_loop (B := fun self v => spec_l6At.B0 0 self (fun z => spec_l6At.Q0 0 (xs, t, k, ()) z) (xs, t, k, ()) v) xs (fun (_ : Unit) (i : Int) => i) (fun i _ x => if rk x = (t, k) then .inl ((i : Int), ()) else .inr ()) (fun _ => ((-1 : Int), ())) (fun _ _ => True) (by rw [maxLen_val]; omega)
    (fun i hi _ self _ => by
      show spec_l6At.b0 _ _ _ _ = _
      unfold spec_l6At.b0 rk
      have hlt : (i : Int) < (xs.length : Int) := by omega
      simp only [hlt, decide_true, cond_true, Int.natCast_nonneg, if_true, Int.toNat_natCast, List.getElem?_eq_getElem hi, Option.bind_some]
      by_cases h1 : xs[i].1 = t <;> by_cases h2 : xs[i].2.1 = k <;> simp [h1, h2]) (fun _ _ _ _ _ _ => trivial) (fun _ self _ => by
      show spec_l6At.b0 _ _ _ _ = _
      unfold spec_l6At.b0
      simp [spec_l6At.Q0, spec_l6At.q0]) () trivial f (by omega)
  rw [at_forI (t, k) xs 0 hu] at this
  have this : spec_l6At.r0 f (xs, t, k, ()) 0 = _ := this
  unfold spec_l6At.raw spec_l6At.p
  rw [this]
  unfold atI
  cases fnd xs (t, k) <;> simp <;> rfl

def put1 (xs : List Row) (r : Row) : List Row := xs.take (pos xs (rk r)) ++ [r] ++ xs.drop (pos xs (rk r))
/-- All but the row with a key. -/
def rem1 (xs : List Row) (k : Int × Int) : List Row := if fnd xs k then xs.take (pos xs k) ++ xs.drop (pos xs k + 1) else xs

end OT

set_option linter.unusedVariables false
set_option linter.unusedSimpArgs false
namespace OT
open Go

/-! Faults of rows. -/
def rowsStep (xs : List Row) (i : Nat) (x : Row) : Sum (Int × Unit) Unit :=
  if rowF x = 0 then (if 0 < i then (match xs[i - 1]? with | some y => if befB (rk y) (rk x) then .inr () else .inl (1, ()) | none => .inl (1, ())) else .inr ()) else .inl (rowF x, ())
def rowsF (xs : List Row) : Int := if 60 < xs.length then 2 else (forI (fun i (_ : Unit) x => rowsStep xs i x) (fun _ => ((0 : Int), ())) 0 xs ()).1

theorem specRows_eq (xs : List Row) (hl : xs.length ≤ maxLen) (h : ∀ c ∈ xs, rl c) : spec_l6Rows.sem (xs, ()) = some (rowsF xs, ()) := by
  refine lift_eq (k := xs.length + 1) fun k hk => (spec_l6Rows.raw_eq k _).trans ?_
  have := for_loop (B := fun self v => spec_l6Rows.B0 0 self (fun z => spec_l6Rows.Q0 0 (xs, ()) z) (xs, ()) v) xs (fun (_ : Unit) (i : Int) => i) (fun i _ x => rowsStep xs i x) (fun _ => (0, ())) (fun _ _ => True) hl
    (fun i hi _ self _ => by
      show spec_l6Rows.b0 _ _ _ _ = _
      unfold spec_l6Rows.b0 rowsStep
      have hlt : (i : Int) < (xs.length : Int) := by omega
      simp only [hlt, decide_true, cond_true, Int.natCast_nonneg, if_true, Int.toNat_natCast, List.getElem?_eq_getElem hi, Option.bind_some, specRow_eq _ (h _ (List.getElem_mem hi))]
      by_cases h1 : rowF xs[i] = 0
      · simp only [h1, decide_true, Bool.not_true, cond_false, if_true]
        by_cases h0 : 0 < i
        · have h0' : (0 : Int) < (i : Int) := by omega
          have hi' : i - 1 < xs.length := by omega
          simp only [h0, h0', decide_true, cond_true, if_true, wprev h0 (by omega), Int.natCast_nonneg, Int.toNat_natCast, List.getElem?_eq_getElem hi', Option.bind_some, specBefore_eq]
          cases befB (rk xs[i - 1]) (rk xs[i]) <;> rfl
        · have h0' : ¬ (0 : Int) < (i : Int) := by omega
          simp [h0, h0']
      · simp [h1]) (fun _ _ _ _ _ _ => trivial) (fun _ self _ => by
      show spec_l6Rows.b0 _ _ _ _ = _
      unfold spec_l6Rows.b0
      simp [spec_l6Rows.Q0, spec_l6Rows.q0]) () trivial k (by omega)
  have this : spec_l6Rows.r0 k (xs, ()) 0 = _ := this
  unfold spec_l6Rows.raw spec_l6Rows.p rowsF
  rw [this, show (60 : Int) = ((60 : Nat) : Int) from rfl]
  simp only [len60]
  by_cases h1 : 60 < xs.length <;> simp [h1] <;> rfl

theorem implRows_eq (xs : List Row) (hl : xs.length ≤ maxLen) (h : ∀ c ∈ xs, rl c) : impl_RowsFault.sem (xs, ()) = some (rowsF xs, ()) := by
  refine lift_eq (k := xs.length + 1) fun k hk => (impl_RowsFault.raw_eq k _).trans ?_
  have := for_loop (B := fun self v => impl_RowsFault.B0 0 self (fun z => impl_RowsFault.Q0 0 (xs, ()) z) (xs, ()) v) xs (fun (_ : Unit) (i : Int) => i) (fun i _ x => rowsStep xs i x) (fun _ => (0, ())) (fun _ _ => True) hl
    (fun i hi _ self _ => by
      show impl_RowsFault.b0 _ _ _ _ = _
      unfold impl_RowsFault.b0 rowsStep rk
      have hlt : (i : Int) < (xs.length : Int) := by omega
      simp only [hlt, decide_true, cond_true, Int.natCast_nonneg, if_true, Int.toNat_natCast, List.getElem?_eq_getElem hi, Option.bind_some, implRow_eq _ (h _ (List.getElem_mem hi))]
      by_cases h1 : rowF xs[i] = 0
      · simp only [h1, decide_true, Bool.not_true, cond_false, if_true]
        by_cases h0 : 0 < i
        · have h0' : (0 : Int) < (i : Int) := by omega
          have hi' : i - 1 < xs.length := by omega
          simp only [h0, h0', decide_true, cond_true, if_true, wprev h0 (by omega), Int.natCast_nonneg, Int.toNat_natCast, List.getElem?_eq_getElem hi', Option.bind_some, isBefore_eq]
          cases befB (xs[i - 1].1, xs[i - 1].2.1) (xs[i].1, xs[i].2.1) <;> rfl
        · have h0' : ¬ (0 : Int) < (i : Int) := by omega
          simp [h0, h0']
      · simp [h1]) (fun _ _ _ _ _ _ => trivial) (fun _ self _ => by
      show impl_RowsFault.b0 _ _ _ _ = _
      unfold impl_RowsFault.b0
      simp [impl_RowsFault.Q0, impl_RowsFault.q0]) () trivial k (by omega)
  have this : impl_RowsFault.r0 k (xs, ()) 0 = _ := this
  unfold impl_RowsFault.raw impl_RowsFault.p rowsF
  rw [this, show (60 : Int) = ((60 : Nat) : Int) from rfl]
  simp only [len60]
  by_cases h1 : 60 < xs.length <;> simp [h1] <;> rfl

/-- A walk that found nothing. -/
theorem forI_none {α : Type} {f : Nat → Unit → α → Sum (Int × Unit) Unit} (hf : ∀ i s x o, f i s x = .inl o → o.1 ≠ 0) : ∀ (xs : List α) (j : Nat), (forI f (fun _ => ((0 : Int), ())) j xs ()).1 = 0 → ∀ i (hi : i < xs.length), f (j + i) () xs[i] = .inr ()
  | x :: xs, j, h, i, hi => by
    simp only [forI] at h
    cases hx : f j () x with
    | inl o => rw [hx] at h; exact absurd h (hf _ _ _ _ hx)
    | inr u =>
      rw [hx] at h
      cases i with
      | zero => exact hx
      | succ i =>
        have := forI_none hf xs (j + 1) h i (by simpa using hi)
        rw [show j + (i + 1) = j + 1 + i by omega]
        exact this

theorem up_adj : ∀ (xs : List Row), (∀ i (hi : i < xs.length), 0 < i → befB (rk (xs[i - 1]'(by omega))) (rk xs[i]) = true) → up xs
  | [], _ => List.Pairwise.nil
  | [x], _ => List.pairwise_singleton _ _
  | x :: y :: xs, h => by
    have hu : up (y :: xs) := up_adj (y :: xs) fun i hi h0 => by
      have := h (i + 1) (by simp at hi ⊢; omega) (by omega)
      simp only [Nat.add_sub_cancel] at this
      have e : (x :: y :: xs)[i]'(by simp at hi ⊢; omega) = (y :: xs)[i - 1]'(by simp at hi ⊢; omega) := by
        cases i with
        | zero => omega
        | succ i => rfl
      rw [e] at this
      exact this
    have hxy : befB (rk x) (rk y) = true := h 1 (by simp) (by omega)
    refine up_cons.2 ⟨fun z hz => ?_, hu⟩
    rcases List.mem_cons.1 hz with rfl | hz
    · exact hxy
    · exact befB_trans hxy ((up_cons.1 hu).1 z hz)

structure Good (xs : List Row) : Prop where
  up : up xs
  ok : ∀ x ∈ xs, rowF x = 0

theorem rowsF_good {xs : List Row} (h : rowsF xs = 0) : Good xs ∧ xs.length ≤ 60 := by
  unfold rowsF at h
  split at h
  · cases h
  · rename_i hl
    have hn := forI_none (f := fun i (_ : Unit) x => rowsStep xs i x) (fun i s x o ho => by
      unfold rowsStep at ho
      split at ho
      · split at ho
        · split at ho
          · split at ho
            · cases ho
            · injection ho with ho; rw [← ho]; decide
          · injection ho with ho; rw [← ho]; decide
        · cases ho
      · rename_i hx
        injection ho with ho; rw [← ho]; exact hx) xs 0 h
    have h1 : ∀ i (hi : i < xs.length), rowF xs[i] = 0 := fun i hi => by
      have := hn i hi
      unfold rowsStep at this
      split at this
      · assumption
      · cases this
    refine ⟨⟨up_adj xs fun i hi h0 => ?_, fun x hx => ?_⟩, by omega⟩
    · have := hn i hi
      unfold rowsStep at this
      rw [if_pos (h1 i hi), Nat.zero_add, if_pos h0, List.getElem?_eq_getElem (show i - 1 < xs.length by omega)] at this
      simp only at this
      split at this
      · assumption
      · cases this
    · obtain ⟨i, hi, rfl⟩ := List.mem_iff_getElem.1 hx
      exact h1 i hi

/-! All changes. -/
def applyStep (i : Nat) (s : List Row) (c : Change) : Sum (RowsResult × Unit) (List Row) := if chF c = 0 then (if fits1 s c then .inr (done1 s c) else .inl ((8, [], ()), ())) else .inl ((chF c, [], ()), ())
def applyFin (s : List Row) : RowsResult × Unit := if 60 < s.length then ((2, [], ()), ()) else ((0, s, ()), ())
def applyF (xs : List Row) (cs : List Change) : RowsResult := if rowsF xs = 0 then (forI applyStep applyFin 0 cs xs).1 else (rowsF xs, [], ())

end OT

set_option linter.unusedVariables false
set_option linter.unusedSimpArgs false
namespace OT
open Go

/-! Keys of rows and locks. -/
def dd (S : List Key) (ks : List Key) : List Key := ks.foldl (fun S k => if hasK S k then S else S ++ [k]) S
def rowKs (rows : List Row) : List Key := rows.map fun r => (r.1, r.2.1, ())
def allKs (rows : List Row) (xs : List Tx) : List Key := rowKs rows ++ flatK xs
theorem mapPut_some {α : Type} (k : Ty) (m : List (k.den × α)) (x : k.den) (y : α) {i : Nat} (h : m.findIdx? (fun e => k.eq x e.1) = some i) : mapPut k m x y = m.set i (x, y) := by
  unfold mapPut
  rw [h]
theorem putM_same {S : List Key} {k : Key} (h : hasK S k = true) : putM (seenM S) k = seenM S := by
  have key : ∀ (S : List Key) (i : Nat), (seenM S).findIdx? (fun e => Ty.eq tKey k e.1) = some i → (seenM S)[i]? = some (k, true) := by
    intro S i hi
    have h1 := List.findIdx?_eq_some_iff_findIdx_eq.1 hi
    have hlt : i < (seenM S).length := h1.1
    have h2 : (seenM S).findIdx (fun e => Ty.eq tKey k e.1) < (seenM S).length := by rw [h1.2]; exact hlt
    have h3 := List.findIdx_getElem (xs := seenM S) (p := fun e => Ty.eq tKey k e.1) (w := h2)
    simp only [h1.2] at h3
    have h4 : Ty.eq tKey k (seenM S)[i].1 = decide (k = (seenM S)[i].1) := kq_eq k _
    have h3 : Ty.eq tKey k (seenM S)[i].1 = true := h3
    rw [h4, decide_eq_true_eq] at h3
    rw [List.getElem?_eq_getElem hlt]
    have h5 : (seenM S)[i] = ((seenM S)[i].1, true) := by simp [seenM]
    rw [h5, ← h3]
  show mapPut tKey (seenM S) k true = seenM S
  cases hf : (seenM S).findIdx? (fun e => Ty.eq tKey k e.1) with
  | none =>
    exfalso
    have h1 : mapGet tKey (seenM S) k = none := by
      unfold mapGet
      have h2 := List.findIdx?_eq_none_iff.1 hf
      have : (seenM S).find? (fun e => Ty.eq tKey k e.1) = none := List.find?_eq_none.2 fun e he => by rw [h2 e he]; simp
      exact congrArg _ this
    have h2 := mapGet_seen S k
    rw [h] at h2
    exact absurd (h1.symm.trans h2) (by simp)
  | some i =>
    have h1 := key S i hf
    have hlt := (List.getElem?_eq_some_iff.1 h1).1
    refine (mapPut_some tKey (seenM S) k true hf).trans ?_
    show (seenM S).set i (k, true) = seenM S
    have : (seenM S)[i] = (k, true) := (List.getElem?_eq_some_iff.1 h1).2
    rw [← this]
    exact List.set_getElem_self hlt
theorem put_step (S : List Key) (k : Key) : putM (seenM S) k = seenM (if hasK S k then S else S ++ [k]) := by
  cases h : hasK S k with
  | true => simp only [if_true]; exact putM_same h
  | false => simp only [Bool.false_eq_true, if_false]; exact put_seen h
theorem puts_dd : ∀ (ks S : List Key), ks.foldl putM (seenM S) = seenM (dd S ks)
  | [], S => rfl
  | k :: ks, S => by
    rw [List.foldl_cons, put_step, puts_dd ks]
    rfl
theorem dd_append (S a b : List Key) : dd S (a ++ b) = dd (dd S a) b := List.foldl_append
/-- How many come for the first time. -/
def newN : List Key → List Key → Nat
  | _, [] => 0
  | S, k :: ks => (if hasK S k then 0 else 1) + newN (S ++ [k]) ks
theorem newN_dd : ∀ (ks S T : List Key), (∀ k, k ∈ S ↔ k ∈ T) → (dd S ks).length = S.length + newN T ks
  | [], S, T, _ => rfl
  | x :: ks, S, T, h => by
    have hx : hasK S x = hasK T x := by rw [Bool.eq_iff_iff, hasK_iff, hasK_iff]; exact h x
    show (dd (if hasK S x then S else S ++ [x]) ks).length = _
    simp only [newN, ← hx]
    cases hh : hasK S x with
    | true =>
      simp only [if_true]
      rw [newN_dd ks S (T ++ [x]) fun k => ?_]
      · omega
      · simp only [List.mem_append, List.mem_singleton, ← h k]
        constructor
        · exact .inl
        · rintro (h1 | h1)
          · exact h1
          · subst h1; exact hasK_iff.1 hh
    | false =>
      simp only [Bool.false_eq_true, if_false]
      rw [newN_dd ks (S ++ [x]) (T ++ [x]) fun k => by simp only [List.mem_append, h k]]
      simp only [List.length_append, List.length_cons, List.length_nil]
      omega

def roomF (rows : List Row) (xs : List Tx) : Nat := (dd [] (allKs rows xs)).length

theorem keysOf_eq (rows : List Row) (xs : List Tx) (hr : rows.length ≤ 1048576) (h : tls xs) : impl_keysOf.sem (rows, xs, ()) = some (seenM (dd [] (allKs rows xs)), ()) := by
  obtain ⟨h1, h2⟩ := h
  refine lift_eq (k := 1048577) fun k hk => (impl_keysOf.raw_eq k _).trans ?_
  have inner : ∀ (self : ((List (Key × Bool)) × (List Tx) × Int × Int) → Option impl_keysOf.Out) (e2 : (List (Key × Bool)) → Option impl_keysOf.Out) (i : Nat) (hi : i < xs.length) (m : List (Key × Bool)), impl_keysOf.r2 k self e2 (rows, xs, ()) xs (xs.length : Int) (i : Int) (xs[i]).2.2.2.1 (List.length (xs[i]).2.2.2.1 : Int) (m, (0 : Int)) = self ((xs[i]).2.2.2.1.foldl putM m, xs, (xs.length : Int), w64 ((i : Int) + 1)) := fun self e2 i hi m => by
    have hlk := (h2 _ (List.getElem_mem hi)).2.2.1
    have := for_loopE (B := fun self' v => impl_keysOf.B2 k self' (fun z => impl_keysOf.Q1 k self e2 (rows, xs, ()) xs (xs.length : Int) (i : Int) (xs[i]).2.2.2.1 (List.length (xs[i]).2.2.2.1 : Int) z) (rows, xs, ()) xs (xs.length : Int) (i : Int) (xs[i]).2.2.2.1 (List.length (xs[i]).2.2.2.1 : Int) v) (xs[i]).2.2.2.1 (fun (m : List (Key × Bool)) (j : Int) => (m, j)) (fun _ m y => .inr (putM m y)) (fun m => self (m, xs, (xs.length : Int), w64 ((i : Int) + 1))) (fun _ _ => True) (by rw [maxLen_val]; omega)
      (fun j hj s self' _ => by
        show impl_keysOf.b2 _ _ _ _ _ _ _ _ _ = _
        unfold impl_keysOf.b2
        have hlt : (j : Int) < (List.length (xs[i]).2.2.2.1 : Int) := by omega
        simp only [hlt, decide_true, cond_true, Int.natCast_nonneg, if_true, Int.toNat_natCast, List.getElem?_eq_getElem hj, Option.bind_some]
        rfl)
      (fun _ _ _ _ _ _ => trivial) (fun s self' _ => by
        show impl_keysOf.b2 _ _ _ _ _ _ _ _ _ = _
        unfold impl_keysOf.b2
        simp only [Int.lt_irrefl, decide_false, cond_false]
        rfl) m trivial k (by omega)
    rw [forI_fold (g := putM)] at this
    exact this
  have second : ∀ m, impl_keysOf.r1 k (rows, xs, ()) (m, xs, (xs.length : Int), (0 : Int)) = some ((flatK xs).foldl putM m, ()) := fun m => by
    have := for_loop (B := fun self v => impl_keysOf.B1 k self (fun z => impl_keysOf.Q2 k (rows, xs, ()) z) (rows, xs, ()) v) xs (fun (m : List (Key × Bool)) (i : Int) => (m, xs, (xs.length : Int), i)) (fun _ m x => .inr (x.2.2.2.1.foldl putM m)) (fun m => (m, ())) (fun _ _ => True) (by rw [maxLen_val]; omega)
      (fun i hi m self _ => by
        show impl_keysOf.b1 _ _ _ _ _ = _
        unfold impl_keysOf.b1
        have hlt : (i : Int) < (xs.length : Int) := by omega
        simp only [hlt, decide_true, cond_true, Int.natCast_nonneg, if_true, Int.toNat_natCast, List.getElem?_eq_getElem hi, Option.bind_some]
        exact inner self _ i hi m)
      (fun _ _ _ _ _ _ => trivial) (fun s self _ => by
        show impl_keysOf.b1 _ _ _ _ _ = _
        unfold impl_keysOf.b1
        simp only [Int.lt_irrefl, decide_false, cond_false]
        rfl) m trivial k (by omega)
    rw [forI_fold (g := fun m (x : Tx) => x.2.2.2.1.foldl putM m)] at this
    refine Eq.trans this ?_
    have : ∀ (xs : List Tx) (m : List (Key × Bool)), xs.foldl (fun m (x : Tx) => x.2.2.2.1.foldl putM m) m = (flatK xs).foldl putM m := by
      intro xs
      induction xs with
      | nil => intro m; rfl
      | cons x xs ih => intro m; rw [List.foldl_cons, ih]; simp [flatK, List.foldl_append]
    rw [this]
  have := for_loopE (B := fun self v => impl_keysOf.B0 k self (fun z => impl_keysOf.Q0 k (rows, xs, ()) z) (rows, xs, ()) v) rows (fun (m : List (Key × Bool)) (i : Int) => (m, i)) (fun _ m r => .inr (putM m (r.1, r.2.1, ()))) (fun m => some ((flatK xs).foldl putM m, ())) (fun _ _ => True) (by rw [maxLen_val]; omega)
    (fun i hi m self _ => by
      show impl_keysOf.b0 _ _ _ _ = _
      unfold impl_keysOf.b0
      have hlt : (i : Int) < (rows.length : Int) := by omega
      simp only [hlt, decide_true, cond_true, Int.natCast_nonneg, if_true, Int.toNat_natCast, List.getElem?_eq_getElem hi, Option.bind_some]
      rfl)
    (fun _ _ _ _ _ _ => trivial) (fun s self _ => by
      show impl_keysOf.b0 _ _ _ _ = _
      unfold impl_keysOf.b0
      simp only [Int.lt_irrefl, decide_false, cond_false]
      exact second s) (seenM []) trivial k (by omega)
  rw [forI_fold (g := fun m (r : Row) => putM m (r.1, r.2.1, ()))] at this
  refine Eq.trans this ?_
  have e1 : rows.foldl (fun m (r : Row) => putM m (r.1, r.2.1, ())) (seenM []) = (rowKs rows).foldl putM (seenM []) := by unfold rowKs; rw [List.foldl_map]
  rw [e1, ← List.foldl_append]
  exact congrArg (fun m => some (m, ())) (puts_dd (allKs rows xs) [])

/-! The reference's count. -/
theorem forI_firsts {O : Type} (x : Key) (E : Bool → Option O) : ∀ (ys : List Key) (j : Nat) (b : Bool), forI (fun _ b y => if b then .inr (!decide (y = x)) else .inl (E false)) E j ys b = if b then E (!hasK ys x) else E false
  | [], _, b => by cases b <;> rfl
  | y :: ys, j, b => by
    cases b with
    | false => simp [forI]
    | true =>
      simp only [forI, if_true]
      rw [forI_firsts x E ys]
      have : hasK (y :: ys) x = (decide (y = x) || hasK ys x) := rfl
      rw [this]
      cases decide (y = x) <;> simp
theorem forI_new {O : Type} (all : List Key) (E : Int → O) : ∀ (ys pre : List Key) (n : Int), all = pre ++ ys → forI (fun i n x => .inr (if hasK (all.take i) x then n else n + 1)) E pre.length ys n = E (n + (newN pre ys : Int))
  | [], pre, n, _ => by simp [forI, newN]
  | y :: ys, pre, n, h => by
    simp only [forI]
    have ht : all.take pre.length = pre := by rw [h]; simp
    rw [ht]
    have := forI_new all E ys (pre ++ [y]) (if hasK pre y then n else n + 1) (by rw [h]; simp)
    rw [List.length_append] at this
    refine Eq.trans this ?_
    congr 1
    simp only [newN]
    cases hasK pre y <;> simp <;> omega

def exK (k : Key) : List Key := if k.2.1 = 0 then [] else [k]
def roomK (rows : List Row) (xs : List Tx) (k : Key) : Nat := (dd [] (allKs rows xs ++ exK k)).length
theorem specRoomK_eq (rows : List Row) (xs : List Tx) (kk : Key) (hr : rows.length ≤ 1048576) (hx : xs.length ≤ 1000) (h : ∀ x ∈ xs, List.length x.2.2.2.1 ≤ 1000) : spec_l10Room.sem (rows, xs, kk, ()) = some ((roomK rows xs kk : Int), ()) := by
  refine lift_eq (k := 3000000) fun k hk => (spec_l10Room.raw_eq k _).trans ?_
  have hfl : (flatK xs).length ≤ 1000 * xs.length := by
    clear hx
    induction xs with
    | nil => simp [flatK]
    | cons x xs ih =>
      have h1 := h x (by simp)
      have h2 := ih fun y hy => h y (by simp [hy])
      have : flatK (x :: xs) = x.2.2.2.1 ++ flatK xs := by simp [flatK]
      rw [this, List.length_append, List.length_cons]
      omega
  -- the count
  have third : ∀ all : List Key, all.length ≤ 2100000 → spec_l10Room.r2 k (rows, xs, kk, ()) (all, (0 : Int), (0 : Int)) = some ((newN [] all : Int), ()) := fun all hall => by
    have inner : ∀ (self : ((List Key) × Int × Int) → Option spec_l10Room.Out) (e4 : Int → Option spec_l10Room.Out) (i : Nat) (hi : i < all.length) (n : Int), spec_l10Room.r3 k self e4 (rows, xs, kk, ()) all n (i : Int) (true, (0 : Int)) = if hasK (all.take i) all[i] then self (all, n, w64 ((i : Int) + 1)) else self (all, w64 (n + 1), w64 ((i : Int) + 1)) := fun self e4 i hi n => by
      have hti : (all.take i).length = i := by simp; omega
      have := for_loopE (B := fun self' v => spec_l10Room.B3 k self' (fun z => spec_l10Room.Q2 k self e4 (rows, xs, kk, ()) all n (i : Int) z) (rows, xs, kk, ()) all n (i : Int) v) (all.take i) (fun (b : Bool) (j : Int) => (b, j)) (fun _ b y => if b then .inr (!decide (y = all[i])) else .inl (if false then self (all, w64 (n + 1), w64 ((i : Int) + 1)) else self (all, n, w64 ((i : Int) + 1)))) (fun b => if b then self (all, w64 (n + 1), w64 ((i : Int) + 1)) else self (all, n, w64 ((i : Int) + 1))) (fun _ _ => True) (by rw [maxLen_val]; omega)
        (fun j hj b self' _ => by
          show spec_l10Room.b3 _ _ _ _ _ _ _ = _
          unfold spec_l10Room.b3
          rw [hti] at hj
          have hlt : (j : Int) < (i : Int) := by omega
          have hjl : j < all.length := by omega
          have c1 : (0 : Int) ≤ (j : Int) ∧ (j : Int) < (all.length : Int) := by omega
          have c2 : (0 : Int) ≤ (i : Int) ∧ (i : Int) < (all.length : Int) := by omega
          simp only [hlt, c1, c2, and_self, decide_true, cond_true, if_true, Int.toNat_natCast, List.getElem?_eq_getElem hjl, List.getElem?_eq_getElem hi, Option.bind_some, kq_eq, List.getElem_take]
          cases b <;> rfl)
        (fun _ _ _ _ _ _ => trivial) (fun b self' _ => by
          show spec_l10Room.b3 _ _ _ _ _ _ _ = _
          unfold spec_l10Room.b3
          simp only [hti, Int.lt_irrefl, decide_false, cond_false]
          cases b <;> rfl) true trivial k (by omega)
      have e := forI_firsts all[i] (fun b => if b then self (all, w64 (n + 1), w64 ((i : Int) + 1)) else self (all, n, w64 ((i : Int) + 1))) (all.take i) 0 true
      refine (Eq.trans this e).trans ?_
      cases hasK (all.take i) all[i] <;> rfl
    have := for_loop (B := fun self v => spec_l10Room.B2 k self (fun z => spec_l10Room.Q3 k (rows, xs, kk, ()) z) (rows, xs, kk, ()) v) all (fun (n : Int) (i : Int) => (all, n, i)) (fun i n x => .inr (if hasK (all.take i) x then n else n + 1)) (fun n => (n, ())) (fun i n => 0 ≤ n ∧ n ≤ (i : Int)) (by rw [maxLen_val]; omega)
      (fun i hi n self hI => by
        show spec_l10Room.b2 _ _ _ _ _ = _
        unfold spec_l10Room.b2
        have hlt : (i : Int) < (all.length : Int) := by omega
        simp only [hlt, decide_true, cond_true]
        rw [inner self _ i hi n, w64_in (n := n + 1) (by omega)]
        cases hasK (all.take i) all[i] <;> rfl)
      (fun i hi n n' hI hs => by
        injection hs with hs
        rw [← hs]
        split <;> omega) (fun s self _ => by
        show spec_l10Room.b2 _ _ _ _ _ = _
        unfold spec_l10Room.b2
        simp only [Int.lt_irrefl, decide_false, cond_false]
        rfl) 0 (by omega) k (by omega)
    have e := forI_new all (fun n => (n, ())) all [] 0 rfl
    refine (Eq.trans this (congrArg some e)).trans ?_
    rw [Int.zero_add]
  have second : spec_l10Room.r1 k (rows, xs, kk, ()) (rowKs rows, (0 : Int)) = some ((newN [] (allKs rows xs ++ exK kk) : Int), ()) := by
    have hrl : (rowKs rows).length = rows.length := by simp [rowKs]
    have := for_loopE (B := fun self v => spec_l10Room.B1 k self (fun z => spec_l10Room.Q1 k (rows, xs, kk, ()) z) (rows, xs, kk, ()) v) xs (fun (s : List Key) (i : Int) => (s, i)) (fun _ s x => .inr (s ++ x.2.2.2.1)) (fun s => spec_l10Room.r2 k (rows, xs, kk, ()) (s ++ exK kk, (0 : Int), (0 : Int))) (fun i s => s.length ≤ 1048576 + 1000 * i) (by rw [maxLen_val]; omega)
      (fun i hi s self hI => by
        show spec_l10Room.b1 _ _ _ _ = _
        unfold spec_l10Room.b1
        have hlt : (i : Int) < (xs.length : Int) := by omega
        have hlk := h _ (List.getElem_mem hi)
        have hc : s.length + List.length (xs[i]).2.2.2.1 ≤ CAP := cap_ok (by omega)
        simp only [hlt, decide_true, cond_true, Int.natCast_nonneg, if_true, Int.toNat_natCast, List.getElem?_eq_getElem hi, Option.bind_some, hc])
      (fun i hi s s' hI hs => by
        injection hs with hs
        have hlk := h _ (List.getElem_mem hi)
        rw [← hs, List.length_append]; omega) (fun s self hI => by
        show spec_l10Room.b1 _ _ _ _ = _
        unfold spec_l10Room.b1
        simp only [Int.lt_irrefl, decide_false, cond_false]
        show spec_l10Room.q1 _ _ _ = _
        unfold spec_l10Room.q1 exK
        have hc : s.length + [kk].length ≤ CAP := cap_ok (by simp only [List.length_cons, List.length_nil]; omega)
        by_cases h0 : kk.2.1 = 0
        · simp only [h0, decide_true, Bool.not_true, cond_false, if_true, List.append_nil]
        · simp only [h0, decide_false, Bool.not_false, cond_true, if_false, hc, if_true]) (rowKs rows) (by omega) k (by omega)
    rw [forI_fold (g := fun s (x : Tx) => s ++ x.2.2.2.1)] at this
    refine Eq.trans this ?_
    have e : ∀ (xs : List Tx) (s : List Key), xs.foldl (fun s (x : Tx) => s ++ x.2.2.2.1) s = s ++ flatK xs := by
      intro xs
      induction xs with
      | nil => intro s; simp [flatK]
      | cons x xs ih => intro s; rw [List.foldl_cons, ih]; simp [flatK]
    rw [e]
    have hex : (exK kk).length ≤ 1 := by unfold exK; split <;> simp
    exact third _ (by rw [List.length_append, List.length_append, hrl]; omega)
  have := for_loopE (B := fun self v => spec_l10Room.B0 k self (fun z => spec_l10Room.Q0 k (rows, xs, kk, ()) z) (rows, xs, kk, ()) v) rows (fun (s : List Key) (i : Int) => (s, i)) (fun _ s r => .inr (s ++ [(r.1, r.2.1, ())])) (fun s => spec_l10Room.r1 k (rows, xs, kk, ()) (s, (0 : Int))) (fun i s => s.length = i) (by rw [maxLen_val]; omega)
    (fun i hi s self hI => by
      show spec_l10Room.b0 _ _ _ _ = _
      unfold spec_l10Room.b0
      have hlt : (i : Int) < (rows.length : Int) := by omega
      have hc : s.length + [((rows[i]).1, (rows[i]).2.1, ())].length ≤ CAP := cap_ok (by simp only [List.length_cons, List.length_nil]; omega)
      simp only [hlt, decide_true, cond_true, Int.natCast_nonneg, if_true, Int.toNat_natCast, List.getElem?_eq_getElem hi, Option.bind_some]
      rw [if_pos hc])
    (fun i hi s s' hI hs => by injection hs with hs; rw [← hs]; simp [hI]) (fun s self _ => by
      show spec_l10Room.b0 _ _ _ _ = _
      unfold spec_l10Room.b0
      simp only [Int.lt_irrefl, decide_false, cond_false]
      rfl) [] rfl k (by omega)
  rw [forI_fold (g := fun s (r : Row) => s ++ [(r.1, r.2.1, ())])] at this
  have e : ∀ (rows : List Row) (s : List Key), rows.foldl (fun s (r : Row) => s ++ [(r.1, r.2.1, ())]) s = s ++ rowKs rows := by
    intro rows
    induction rows with
    | nil => intro s; simp [rowKs]
    | cons r rows ih => intro s; rw [List.foldl_cons, ih]; simp [rowKs]
  rw [e, List.nil_append, second] at this
  refine Eq.trans this ?_
  have := newN_dd (allKs rows xs ++ exK kk) [] [] (fun _ => Iff.rfl)
  simp only [List.length_nil, Nat.zero_add] at this
  unfold roomK
  rw [this]
theorem locks_key {ks : List Key} (h : locksL ks = 0) : ∀ k ∈ ks, keyB2 k = true := by
  have main : ∀ (ys : List Key) (j : Nat), (forI (fun i (_ : Unit) k => if lockC ks i k = 0 then .inr () else .inl (lockC ks i k)) (fun _ => (0 : Int)) j ys ()) = 0 → ∀ y ∈ ys, keyB2 y = true := by
    intro ys
    induction ys with
    | nil => intro j _ y hy; cases hy
    | cons y ys ih =>
      intro j hf z hz
      simp only [forI] at hf
      by_cases h0 : lockC ks j y = 0
      · rw [if_pos h0] at hf
        rcases List.mem_cons.1 hz with rfl | hz
        · unfold lockC at h0
          split at h0
          · assumption
          · cases h0
        · exact ih (j + 1) hf z hz
      · rw [if_neg h0] at hf
        exact absurd hf h0
  exact main ks 0 h
/-- What is known of transactions without a fault. -/
structure TxsOk (xs : List Tx) : Prop where
  len : xs.length ≤ 4
  ch : ∀ x ∈ xs, ∀ c ∈ (x.2.1 : List Change), chF c = 0
  locks : ∀ x ∈ xs, List.length x.2.2.2.1 ≤ 12
  undo : ∀ x ∈ xs, List.length x.2.1 ≤ 12
  keys : ∀ x ∈ xs, ∀ k ∈ (x.2.2.2.1 : List Key), keyB2 k = true
theorem firstF_zero {α : Type} {c : α → Int} : ∀ {xs : List α}, firstF c xs = 0 → ∀ x ∈ xs, c x = 0
  | [], _, _, h => by cases h
  | y :: ys, h, x, hx => by
    simp only [firstF] at h
    split at h
    · rcases List.mem_cons.1 hx with e | e
      · subst e; assumption
      · exact firstF_zero h x e
    · rename_i hn; exact absurd h hn
theorem cnt_mem : ∀ (xs : List Tx) (n : Int), 0 ≤ n → n ≤ xs.foldl (fun n x => n + (List.length x.2.1 : Int)) n ∧ ∀ x ∈ xs, (List.length x.2.1 : Int) ≤ xs.foldl (fun n x => n + (List.length x.2.1 : Int)) n
  | [], n, h => ⟨Int.le_refl _, fun x hx => by cases hx⟩
  | y :: ys, n, h => by
    obtain ⟨h1, h2⟩ := cnt_mem ys (n + (List.length y.2.1 : Int)) (by omega)
    simp only [List.foldl_cons]
    refine ⟨by omega, fun x hx => ?_⟩
    rcases List.mem_cons.1 hx with e | e
    · subst e; omega
    · exact h2 x e
theorem txs_ok {xs : List Tx} (h : txsF xs = 0) : TxsOk xs := by
  unfold txsF at h
  split at h
  · cases h
  · rename_i hl
    split at h
    · rename_i he
      split at h
      · split at h
        · cases h
        · rename_i hc
          have each : ∀ x ∈ xs, txF x = 0 := fun x hx => by
            obtain ⟨i, hi, rfl⟩ := List.mem_iff_getElem.1 hx
            exact (one_good (each_good xs he i hi)).2.1
          refine ⟨by omega, fun x hx c hcm => ?_, fun x hx => ?_, fun x hx => ?_, fun x hx => ?_⟩
          · have h1 := each x hx
            unfold txF at h1
            split at h1
            · rename_i hu
              have h2 := firstF_zero hu c hcm
              unfold undoC at h2
              split at h2
              · rename_i hs
                unfold chS at hs
                split at hs
                · assumption
                · rename_i hn; exact absurd hs hn
              · rename_i hn; exact absurd h2 hn
            · rename_i hn; exact absurd h1 hn
          · have h1 := each x hx
            unfold txF at h1
            split at h1
            · unfold marksF at h1
              split at h1
              · cases h1
              · rename_i hm
                simp only [Bool.or_eq_true, decide_eq_true_eq, not_or] at hm
                omega
            · rename_i hn; exact absurd h1 hn
          · have := (cnt_mem xs 0 (Int.le_refl _)).2 x hx
            unfold cntF at hc
            omega
          · have h1 := each x hx
            unfold txF at h1
            split at h1
            · unfold marksF at h1
              split at h1
              · cases h1
              · split at h1
                · exact locks_key h1
                · cases h1
            · rename_i hn; exact absurd h1 hn
      · cases h
    · rename_i hn; exact absurd h hn

end OT

set_option linter.unusedVariables false
set_option linter.unusedSimpArgs false
namespace OT
open Go

/-! Where a transaction is. -/
def atF (xs : List Tx) (t : Int) : Int := whereF (fun x => decide (x.1 = t)) 0 xs
theorem specTxAt_eq (xs : List Tx) (t : Int) (h : xs.length ≤ 1048576) : spec_l10At.sem (xs, t, ()) = some (atF xs t, ()) := by
  refine lift_eq (k := xs.length + 1) fun k hk => (spec_l10At.raw_eq k _).trans ?_
  have := for_loop (B := fun self v => spec_l10At.B0 0 self (fun z => spec_l10At.Q0 0 (xs, t, ()) z) (xs, t, ()) v) xs (fun (_ : Unit) (i : Int) => i) (fun i _ x => if decide (x.1 = t) then .inl ((i : Int), ()) else .inr ()) (fun _ => ((-1 : Int), ())) (fun _ _ => True) (by rw [maxLen_val]; omega)
    (fun i hi s self _ => by
      show spec_l10At.b0 _ _ _ _ = _
      unfold spec_l10At.b0
      have hlt : (i : Int) < (xs.length : Int) := by omega
      simp only [hlt, decide_true, cond_true, Int.natCast_nonneg, if_true, Int.toNat_natCast, List.getElem?_eq_getElem hi, Option.bind_some]
      cases decide ((xs[i]).1 = t) <;> rfl)
    (fun _ _ _ _ _ _ => trivial) (fun s self _ => by
      show spec_l10At.b0 _ _ _ _ = _
      unfold spec_l10At.b0
      simp only [Int.lt_irrefl, decide_false, cond_false]
      rfl) () trivial k (by omega)
  rw [forI_where] at this
  exact this
theorem implAt_eq (xs : List Tx) (t : Int) (h : xs.length ≤ 1048576) : impl_txAt.sem (xs, t, ()) = some (atF xs t, ()) := by
  have h1 : ∀ x : Tx, impl_txAt_1.sem (x, t, ()) = some (decide (x.1 = t), ()) := fun x => by
    refine lift_eq (k := 0) fun k _ => (impl_txAt_1.raw_eq k _).trans ?_
    rfl
  have h2 : ∀ m : Nat, slices_IndexFunc_Tx.sem (xs, ((m, t) : Nat × Int), ()) = some (atF xs t, ()) := fun m => by
    refine lift_eq (k := xs.length + 1) fun k hk => (slices_IndexFunc_Tx.raw_eq k _).trans ?_
    have := for_loop (B := fun self v => slices_IndexFunc_Tx.B0 0 self (fun z => slices_IndexFunc_Tx.Q0 0 (xs, ((m, t) : Nat × Int), ()) z) (xs, ((m, t) : Nat × Int), ()) v) xs (fun (_ : Unit) (i : Int) => i) (fun i _ x => if decide (x.1 = t) then .inl ((i : Int), ()) else .inr ()) (fun _ => ((-1 : Int), ())) (fun _ _ => True) (by rw [maxLen_val]; omega)
      (fun i hi s self _ => by
        show slices_IndexFunc_Tx.b0 _ _ _ _ = _
        unfold slices_IndexFunc_Tx.b0
        have hlt : (i : Int) < (xs.length : Int) := by omega
        simp only [hlt, decide_true, cond_true, Int.natCast_nonneg, if_true, Int.toNat_natCast, List.getElem?_eq_getElem hi, Option.bind_some, h1]
        cases decide ((xs[i]).1 = t) <;> rfl)
      (fun _ _ _ _ _ _ => trivial) (fun s self _ => by
        show slices_IndexFunc_Tx.b0 _ _ _ _ = _
        unfold slices_IndexFunc_Tx.b0
        simp only [Int.lt_irrefl, decide_false, cond_false]
        rfl) () trivial k (by omega)
    rw [forI_where] at this
    exact this
  refine lift_eq (k := 0) fun k _ => (impl_txAt.raw_eq k _).trans ?_
  show impl_txAt.p _ = _
  unfold impl_txAt.p
  rw [h2]
  rfl

end OT

set_option linter.unusedVariables false
set_option linter.unusedSimpArgs false
namespace OT
open Go

/-! The op. -/
def onR (k : Int) : Bool := decide (k = 2) || (decide (k = 3) || decide (k = 4))
def freeK (k : Int) : Bool := decide (k = 1) || decide (k = 9)
abbrev noRow : Row := ((0 : Int), (0 : Int), (0 : Int), ([] : List UInt8), ())
abbrev noChange : Change := (false, noRow, false, noRow, ())
def opF (o : Op) : Int :=
  if !inB o.1 1 9 || (freeK o.1 && !decide (o.2.1 = 0)) || (!onR o.1 && !Ty.eq tRow o.2.2.1 ((0 : Int), (0 : Int), (0 : Int), ([] : List UInt8), ())) || (!decide (o.1 = 6) && !decide (o.2.2.2.1 = 0)) || (decide (o.1 = 4) && !(decide (o.2.2.1.2.2.1 = 0) && decide (o.2.2.1.2.2.2.1 = ([] : List UInt8)))) then 1
  else if (!freeK o.1 && !inB o.2.1 1 99) || !inB o.2.2.2.1 0 7 then 3
  else if onR o.1 then rowF o.2.2.1 else 0

theorem onRow_eq (k : Int) : impl_onRow.sem (k, ()) = some (onR k, ()) := by
  refine lift_eq (k := 0) fun f _ => (impl_onRow.raw_eq f _).trans ?_
  show impl_onRow.p _ = _
  unfold impl_onRow.p onR
  simp only
  cases decide (k = 2) <;> cases decide (k = 3) <;> rfl
theorem specOnRow_eq (k : Int) : spec_l10Row.sem (k, ()) = some (onR k, ()) := by
  refine lift_eq (k := 0) fun f _ => (spec_l10Row.raw_eq f _).trans ?_
  show spec_l10Row.p _ = _
  unfold spec_l10Row.p onR
  simp only [specIn_eq, Option.bind_some]
  congr 2
  rw [Bool.eq_iff_iff]
  simp only [Bool.and_eq_true, Bool.or_eq_true, decide_eq_true_eq]
  omega

theorem opFault_eq (o : Op) (h : rl o.2.2.1) : impl_OpFault.sem (o, ()) = some (opF o, ()) := by
  refine lift_eq (k := 0) fun f _ => (impl_OpFault.raw_eq f _).trans ?_
  show impl_OpFault.p _ = _
  unfold impl_OpFault.p opF freeK inB
  simp only [implIn_eq, isTx_eq, onRow_eq, implRow_eq _ h, Option.bind_some]
  generalize (decide ((1 : Int) ≤ o.1) && decide (o.1 ≤ 9)) = b1
  generalize decide (o.1 = 1) = b2
  generalize decide (o.1 = 9) = b3
  generalize decide (o.1 = 4) = b4
  generalize decide (o.1 = 6) = b5
  generalize onR o.1 = b6
  generalize decide (o.2.1 = 0) = b7
  generalize Ty.eq tRow o.2.2.1 ((0 : Int), (0 : Int), (0 : Int), ([] : List UInt8), ()) = b8
  generalize decide (o.2.2.2.1 = 0) = b9
  generalize decide (o.2.2.1.2.2.1 = 0) = c1
  generalize decide (o.2.2.1.2.2.2.1 = ([] : List UInt8)) = c2
  generalize (decide ((1 : Int) ≤ o.2.1) && decide (o.2.1 ≤ 99)) = c3
  generalize (decide ((0 : Int) ≤ o.2.2.2.1) && decide (o.2.2.2.1 ≤ 7)) = c4
  cases b1
  · cases b2 <;> rfl
  cases b2 <;> cases b3 <;> cases b7 <;> cases b6 <;> cases b8 <;> cases b5 <;> cases b9 <;> (try rfl) <;> cases b4 <;> (try rfl) <;> cases c1 <;> (try rfl) <;> cases c2 <;> (try rfl) <;> cases c3 <;> (try rfl) <;> cases c4 <;> rfl
theorem specForm_eq (o : Op) : spec_l10Form.sem (o, ()) = some (!(!inB o.1 1 9 || (freeK o.1 && !decide (o.2.1 = 0)) || (!onR o.1 && !Ty.eq tRow o.2.2.1 ((0 : Int), (0 : Int), (0 : Int), ([] : List UInt8), ())) || (!decide (o.1 = 6) && !decide (o.2.2.2.1 = 0)) || (decide (o.1 = 4) && !(decide (o.2.2.1.2.2.1 = 0) && decide (o.2.2.1.2.2.2.1 = ([] : List UInt8))))), ()) := by
  refine lift_eq (k := 0) fun f _ => (spec_l10Form.raw_eq f _).trans ?_
  show spec_l10Form.p _ = _
  unfold spec_l10Form.p freeK inB
  have h4 : decide (o.1 = 4) = true → onR o.1 = true := fun h => by unfold onR; simp only [h, Bool.or_true]
  simp only [specIn_eq, specOnRow_eq, Option.bind_some]
  generalize (decide ((1 : Int) ≤ o.1) && decide (o.1 ≤ 9)) = b1
  generalize decide (o.1 = 1) = b2
  generalize decide (o.1 = 9) = b3
  generalize decide (o.1 = 4) = b4 at *
  generalize decide (o.1 = 6) = b5
  generalize onR o.1 = b6 at *
  generalize decide (o.2.1 = 0) = b7
  generalize Ty.eq tRow o.2.2.1 ((0 : Int), (0 : Int), (0 : Int), ([] : List UInt8), ()) = b8
  generalize decide (o.2.2.2.1 = 0) = b9
  generalize decide (o.2.2.1.2.2.1 = 0) = c1
  generalize decide (o.2.2.1.2.2.2.1 = ([] : List UInt8)) = c2
  cases b1
  · rfl
  cases b4
  · cases b2 <;> cases b3 <;> cases b7 <;> cases b6 <;> cases b8 <;> cases b5 <;> cases b9 <;> rfl
  · have := h4 rfl
    subst this
    cases b2 <;> cases b3 <;> cases b7 <;> cases b8 <;> cases b5 <;> cases b9 <;> cases c1 <;> cases c2 <;> rfl
theorem specOp_eq (o : Op) (h : rl o.2.2.1) : spec_l10Op.sem (o, ()) = some (opF o, ()) := by
  refine lift_eq (k := 0) fun f _ => (spec_l10Op.raw_eq f _).trans ?_
  show spec_l10Op.p _ = _
  unfold spec_l10Op.p opF
  rw [specForm_eq]
  simp only [Option.bind_some]
  generalize (!inB o.1 1 9 || (freeK o.1 && !decide (o.2.1 = 0)) || (!onR o.1 && !Ty.eq tRow o.2.2.1 ((0 : Int), (0 : Int), (0 : Int), ([] : List UInt8), ())) || (!decide (o.1 = 6) && !decide (o.2.2.2.1 = 0)) || (decide (o.1 = 4) && !(decide (o.2.2.1.2.2.1 = 0) && decide (o.2.2.1.2.2.2.1 = ([] : List UInt8))))) = b0
  unfold freeK inB
  simp only [specIn_eq, specOnRow_eq, specRow_eq _ h, Option.bind_some]
  generalize decide (o.1 = 1) = b2
  generalize decide (o.1 = 9) = b3
  generalize onR o.1 = b6
  generalize (decide ((1 : Int) ≤ o.2.1) && decide (o.2.1 ≤ 99)) = c3
  generalize (decide ((0 : Int) ≤ o.2.2.2.1) && decide (o.2.2.2.1 ≤ 7)) = c4
  cases b0
  · cases b2 <;> cases b3 <;> cases b6 <;> cases c3 <;> cases c4 <;> rfl
  · rfl
theorem opF_row {o : Op} (h : opF o = 0) (hr : onR o.1 = true) : rowF o.2.2.1 = 0 := by
  unfold opF at h
  split at h
  · cases h
  · split at h
    · cases h
    · exact h
theorem opF_range {o : Op} (h : opF o = 0) : inB o.1 1 9 = true ∧ inB o.2.2.2.1 0 7 = true := by
  unfold opF at h
  split at h
  · cases h
  · rename_i h1
    split at h
    · cases h
    · rename_i h2
      simp only [Bool.or_eq_true, not_or, Bool.not_eq_true', Bool.not_eq_false] at h1 h2
      exact ⟨h1.1.1.1.1, h2.2⟩

/-! What a table's rows may be. -/
def catC (c : Change) (x : Row) : Bool := decide (x.1 = (ck c).2) && (!decide (x.1 = 0) && (!c.2.2.1 || decide (c.2.2.2.1.2.2.1 < (List.length x.2.2.2.1 : Int))))
def catF (xs : List Row) (c : Change) : Int :=
  if c.2.2.1 && (!inB (ck c).2 1 3 || (decide (8 < c.2.2.2.1.2.2.1) || !decide (c.2.2.2.1.2.2.2.1 = ([] : List UInt8)))) then 10 else if xs.any (catC c) then 8 else 0
def longF (xs : List Row) (t : Int) : Int × Bool := match xs.find? fun x => decide (x.1 = 0) && decide (x.2.1 = t) with
  | some x => (x.2.2.1, true)
  | none => (0, false)
def mayF (xs : List Row) (c : Change) : Int :=
  if (ck c).1 = 0 then catF xs c else if c.2.2.1 then (if (longF xs (ck c).1).2 then (if (longF xs (ck c).1).1 < (List.length c.2.2.2.1.2.2.2.1 : Int) then 10 else 0) else 4) else 0

theorem specCat_eq (xs : List Row) (c : Change) (hl : xs.length ≤ 1048576) : spec_l8Catalog.sem (xs, c, ()) = some (catF xs c, ()) := by
  refine lift_eq (k := 1048577) fun k hk => (spec_l8Catalog.raw_eq k _).trans ?_
  unfold spec_l8Catalog.raw spec_l8Catalog.p
  have lp : spec_l8Catalog.r0 k (xs, c, ()) (ck c).2 (0 : Int) = some (if xs.any (catC c) then 8 else 0, ()) := by
    have := for_loop (B := fun self v => spec_l8Catalog.B0 0 self (fun z => spec_l8Catalog.Q0 0 (xs, c, ()) (ck c).2 z) (xs, c, ()) (ck c).2 v) xs (fun (_ : Unit) (i : Int) => i) (fun _ _ x => if catC c x then .inl ((8 : Int), ()) else .inr ()) (fun _ => ((0 : Int), ())) (fun _ _ => True) (by rw [maxLen_val]; omega)
      (fun i hi s self _ => by
        show spec_l8Catalog.b0 _ _ _ _ _ = _
        unfold spec_l8Catalog.b0 catC
        have hlt : (i : Int) < (xs.length : Int) := by omega
        simp only [hlt, decide_true, cond_true, Int.natCast_nonneg, if_true, Int.toNat_natCast, List.getElem?_eq_getElem hi, Option.bind_some]
        cases decide ((xs[i]).1 = (ck c).2) <;> cases decide ((xs[i]).1 = 0) <;> cases c.2.2.1 <;> cases decide (c.2.2.2.1.2.2.1 < (List.length (xs[i]).2.2.2.1 : Int)) <;> rfl)
      (fun _ _ _ _ _ _ => trivial) (fun s self _ => by
        show spec_l8Catalog.b0 _ _ _ _ _ = _
        unfold spec_l8Catalog.b0
        simp only [Int.lt_irrefl, decide_false, cond_false]
        rfl) () trivial k (by omega)
    rw [forI_any] at this
    refine Eq.trans this ?_
    cases xs.any (catC c) <;> rfl
  simp only [specKey_eq, Option.bind_some, specIn_eq, lp]
  unfold catF inB
  generalize (decide ((1 : Int) ≤ (ck c).2) && decide ((ck c).2 ≤ 3)) = b1
  cases c.2.2.1 <;> cases b1 <;> cases decide (8 < c.2.2.2.1.2.2.1) <;> cases decide (c.2.2.2.1.2.2.2.1 = ([] : List UInt8)) <;> rfl
theorem tableMay_eq (xs : List Row) (c : Change) (hl : xs.length ≤ 1048576) : impl_tableMayBe.sem (xs, c, ()) = some (catF xs c, ()) := by
  refine lift_eq (k := 1048577) fun k hk => (impl_tableMayBe.raw_eq k _).trans ?_
  unfold impl_tableMayBe.raw impl_tableMayBe.p
  have lp : impl_tableMayBe.r0 k (xs, c, ()) (0 : Int) = some (if xs.any (catC c) then 8 else 0, ()) := by
    have := for_loop (B := fun self v => impl_tableMayBe.B0 0 self (fun z => impl_tableMayBe.Q0 0 (xs, c, ()) z) (xs, c, ()) v) xs (fun (_ : Unit) (i : Int) => i) (fun _ _ x => if catC c x then .inl ((8 : Int), ()) else .inr ()) (fun _ => ((0 : Int), ())) (fun _ _ => True) (by rw [maxLen_val]; omega)
      (fun i hi s self _ => by
        show impl_tableMayBe.b0 _ _ _ _ = _
        unfold impl_tableMayBe.b0 catC
        have hlt : (i : Int) < (xs.length : Int) := by omega
        have e2 : (keyRow c).2.1 = (ck c).2 := congrArg Prod.snd (keyRow_ck c)
        simp only [hlt, decide_true, cond_true, Int.natCast_nonneg, if_true, Int.toNat_natCast, List.getElem?_eq_getElem hi, Option.bind_some, implKey_eq, e2]
        cases decide ((xs[i]).1 = (ck c).2) <;> cases decide ((xs[i]).1 = 0) <;> cases c.2.2.1 <;> cases decide (c.2.2.2.1.2.2.1 < (List.length (xs[i]).2.2.2.1 : Int)) <;> rfl)
      (fun _ _ _ _ _ _ => trivial) (fun s self _ => by
        show impl_tableMayBe.b0 _ _ _ _ = _
        unfold impl_tableMayBe.b0
        simp only [Int.lt_irrefl, decide_false, cond_false]
        rfl) () trivial k (by omega)
    rw [forI_any] at this
    refine Eq.trans this ?_
    cases xs.any (catC c) <;> rfl
  simp only [Option.bind_some, implIn_eq, lp]
  unfold catF inB
  have e : c.2.2.1 = true → (ck c).2 = c.2.2.2.1.2.1 := fun h => by unfold ck; rw [if_pos h]
  cases hc : c.2.2.1 with
  | false => rfl
  | true =>
    rw [e hc]
    generalize (decide ((1 : Int) ≤ c.2.2.2.1.2.1) && decide (c.2.2.2.1.2.1 ≤ 3)) = b1
    cases b1 <;> cases decide (8 < c.2.2.2.1.2.2.1) <;> cases decide (c.2.2.2.1.2.2.2.1 = ([] : List UInt8)) <;> rfl

theorem longest_eq (xs : List Row) (t : Int) (hl : xs.length ≤ 1048576) : impl_longest.sem (xs, t, ()) = some ((longF xs t).1, (longF xs t).2, ()) := by
  refine lift_eq (k := 1048577) fun k hk => (impl_longest.raw_eq k _).trans ?_
  have := for_loop (B := fun self v => impl_longest.B0 0 self (fun z => impl_longest.Q0 0 (xs, t, ()) z) (xs, t, ()) v) xs (fun (_ : Unit) (i : Int) => i) (fun _ _ x => if decide (x.1 = 0) && decide (x.2.1 = t) then .inl (x.2.2.1, true, ()) else .inr ()) (fun _ => ((0 : Int), false, ())) (fun _ _ => True) (by rw [maxLen_val]; omega)
    (fun i hi s self _ => by
      show impl_longest.b0 _ _ _ _ = _
      unfold impl_longest.b0
      have hlt : (i : Int) < (xs.length : Int) := by omega
      simp only [hlt, decide_true, cond_true, Int.natCast_nonneg, if_true, Int.toNat_natCast, List.getElem?_eq_getElem hi, Option.bind_some]
      cases decide ((xs[i]).1 = 0) <;> cases decide ((xs[i]).2.1 = t) <;> rfl)
    (fun _ _ _ _ _ _ => trivial) (fun s self _ => by
      show impl_longest.b0 _ _ _ _ = _
      unfold impl_longest.b0
      simp only [Int.lt_irrefl, decide_false, cond_false]
      rfl) () trivial k (by omega)
  refine Eq.trans this ?_
  have main : ∀ (xs : List Row) (i : Nat), forI (fun _ (_ : Unit) x => if decide (x.1 = 0) && decide (x.2.1 = t) then .inl (x.2.2.1, true, ()) else .inr ()) (fun _ => ((0 : Int), false, ())) i xs () = ((longF xs t).1, (longF xs t).2, ()) := by
    intro xs
    induction xs with
    | nil => intro i; rfl
    | cons x xs ih =>
      intro i
      simp only [forI, longF, List.find?_cons]
      cases decide (x.1 = 0) && decide (x.2.1 = t) with
      | true => rfl
      | false => exact ih (i + 1)
  rw [main]

/-- A row that tells a table. -/
theorem long_at {xs : List Row} (hu : up xs) (t : Int) : longF xs t = if fnd xs (0, t) then ((xs[pos xs (0, t)]?.map fun x => x.2.2.1).getD 0, true) else (0, false) := by
  have key : (fun x : Row => decide (x.1 = 0) && decide (x.2.1 = t)) = fun x => decide (rk x = (0, t)) := by
    funext x
    unfold rk
    rw [Bool.eq_iff_iff]
    simp
  unfold longF
  rw [key]
  cases hf : fnd xs (0, t) with
  | true =>
    obtain ⟨hp, he⟩ := fnd_lt hf
    have : xs.find? (fun x => decide (rk x = (0, t))) = some xs[pos xs (0, t)] := by
      rw [List.find?_eq_some_iff_getElem]
      refine ⟨by simp [he], pos xs (0, t), hp, rfl, fun j hj => ?_⟩
      have := pos_lt xs (0, t) j (by omega) hj
      simp only [Bool.not_eq_true', decide_eq_false_iff_not]
      intro e
      rw [e, befB_irr] at this
      cases this
    rw [this]
    simp [List.getElem?_eq_getElem hp]
  | false =>
    have : xs.find? (fun x => decide (rk x = (0, t))) = none := by
      rw [List.find?_eq_none]
      intro x hx
      simp only [decide_eq_true_eq]
      intro e
      obtain ⟨i, hi, rfl⟩ := List.mem_iff_getElem.1 hx
      have h1 : fnd xs (0, t) = true := by
        rcases Nat.lt_trichotomy (pos xs (0, t)) i with h | h | h
        · exfalso
          have h2 := up_not xs (0, t) (pos xs (0, t)) (by omega) hu (Nat.le_refl _)
          have h3 : befB (rk (xs[pos xs (0, t)]'(by omega))) (rk xs[i]) = true := by
            have hu' := hu
            unfold up at hu'
            rw [List.pairwise_iff_getElem] at hu'
            exact hu' _ _ (by omega) hi h
          rw [e, h2] at h3
          cases h3
        · unfold fnd
          rw [h, List.getElem?_eq_getElem hi]
          simp [e]
        · exfalso
          have := pos_lt xs (0, t) i hi h
          rw [e, befB_irr] at this
          cases this
      rw [hf] at h1
      cases h1
    rw [this]
    rfl

theorem specLong_eq (xs : List Row) (t : Int) (hu : up xs) (hl : xs.length ≤ 1048576) (hv : ∀ x ∈ xs, 0 ≤ x.2.2.1) : spec_l8Longest.sem (xs, t, ()) = some (if (longF xs t).2 then (longF xs t).1 else -1, ()) := by
  refine lift_eq (k := 0) fun k hk => (spec_l8Longest.raw_eq k _).trans ?_
  show spec_l8Longest.p _ = _
  unfold spec_l8Longest.p
  rw [specAt_eq xs 0 t hu (by omega), long_at hu]
  simp only [Option.bind_some]
  unfold atI
  cases hf : fnd xs (0, t) with
  | false => rfl
  | true =>
    obtain ⟨hp, he⟩ := fnd_lt hf
    have h1 : ¬ ((pos xs (0, t) : Nat) : Int) < 0 := by omega
    simp only [if_true, h1, decide_false, cond_false, Int.natCast_nonneg, Int.toNat_natCast, List.getElem?_eq_getElem hp, Option.bind_some, Option.map_some, Option.getD_some]

theorem mayBe_eq (xs : List Row) (c : Change) (hl : xs.length ≤ 1048576) : impl_mayBe.sem (xs, c, ()) = some (mayF xs c, ()) := by
  refine lift_eq (k := 0) fun k hk => (impl_mayBe.raw_eq k _).trans ?_
  show impl_mayBe.p _ = _
  unfold impl_mayBe.p mayF
  have e1 : (keyRow c).1 = (ck c).1 := congrArg Prod.fst (keyRow_ck c)
  simp only [implKey_eq, e1, tableMay_eq xs c hl, longest_eq xs _ hl, Option.bind_some]
  by_cases h0 : (ck c).1 = 0
  · simp only [h0, decide_true, cond_true, if_true]
  · simp only [h0, decide_false, cond_false, if_false]
    cases hc : c.2.2.1 with
    | false => rfl
    | true =>
      have e : (ck c).1 = c.2.2.2.1.1 := by unfold ck; rw [if_pos hc]
      rw [e]
      simp only [Bool.not_true, cond_false, if_true]
      cases (longF xs c.2.2.2.1.1).2 with
      | false => rfl
      | true =>
        by_cases hlt : (longF xs c.2.2.2.1.1).1 < (List.length c.2.2.2.1.2.2.2.1 : Int) <;> simp [hlt]
theorem specMay_eq (xs : List Row) (c : Change) (hu : up xs) (hl : xs.length ≤ 1048576) (hv : ∀ x ∈ xs, 0 ≤ x.2.2.1) : spec_l8May.sem (xs, c, ()) = some (mayF xs c, ()) := by
  refine lift_eq (k := 0) fun k hk => (spec_l8May.raw_eq k _).trans ?_
  show spec_l8May.p _ = _
  unfold spec_l8May.p mayF
  simp only [specKey_eq, specCat_eq xs c hl, specLong_eq xs _ hu hl hv, Option.bind_some]
  by_cases h0 : (ck c).1 = 0
  · simp only [h0, decide_true, cond_true, if_true]
  · simp only [h0, decide_false, cond_false, if_false]
    cases hc : c.2.2.1 with
    | false => rfl
    | true =>
      simp only [Bool.not_true, cond_false, if_true]
      rw [long_at hu]
      cases hf : fnd xs (0, (ck c).1) with
      | false => rfl
      | true =>
        obtain ⟨hp, he⟩ := fnd_lt hf
        have h1 := hv _ (List.getElem_mem hp)
        have h2 : ¬ (xs[pos xs (0, (ck c).1)]).2.2.1 < 0 := by omega
        simp only [if_true, List.getElem?_eq_getElem hp, Option.map_some, Option.getD_some, h2, decide_false, cond_false]
        by_cases hlt : (xs[pos xs (0, (ck c).1)]).2.2.1 < (List.length c.2.2.2.1.2.2.2.1 : Int) <;> simp [hlt]
end OT

set_option linter.unusedVariables false
set_option linter.unusedSimpArgs false
namespace OT
open Go

/-! Who holds a key. -/
def heldC (k l : Key) : Bool := decide (l = k) || ((decide (l.1 = 0) && decide (l.2.1 = k.1)) || (decide (k.1 = 0) && decide (l.1 = k.2.1)))
def heldF (xs : List Tx) (t : Int) (k : Key) : Bool := xs.any fun x => !decide (x.1 = t) && x.2.2.2.1.any (heldC k)

theorem specHeld_eq (xs : List Tx) (t : Int) (k0 : Key) (h : tls xs) : spec_l10Held.sem (xs, t, k0, ()) = some (heldF xs t k0, ()) := by
  obtain ⟨h1, h2⟩ := h
  refine lift_eq (k := 1048577) fun k hk => (spec_l10Held.raw_eq k _).trans ?_
  have inner : ∀ (self : ((List Tx) × Int × Key × Int) → Option spec_l10Held.Out) (e0 : (Unit) → Option spec_l10Held.Out) (i : Nat) (hi : i < xs.length), spec_l10Held.r1 k self e0 (xs, t, k0, ()) xs t k0 (i : Int) (0 : Int) = if (xs[i]).2.2.2.1.any (heldC k0) then some (true, ()) else self (xs, t, k0, w64 ((i : Int) + 1)) := fun self e0 i hi => by
    have hlk := (h2 _ (List.getElem_mem hi)).2.2.1
    have := for_loopE (B := fun self' v => spec_l10Held.B1 k self' (fun z => spec_l10Held.Q0 k self e0 (xs, t, k0, ()) xs t k0 (i : Int) z) (xs, t, k0, ()) xs t k0 (i : Int) v) (xs[i]).2.2.2.1 (fun (_ : Unit) (j : Int) => j) (fun _ _ l => if heldC k0 l then .inl (some (true, ())) else .inr ()) (fun _ => self (xs, t, k0, w64 ((i : Int) + 1))) (fun _ _ => True) (by rw [maxLen_val]; omega)
      (fun j hj s self' _ => by
        show spec_l10Held.b1 _ _ _ _ _ _ _ _ = _
        unfold spec_l10Held.b1 heldC
        have hlt : (j : Int) < (List.length (xs[i]).2.2.2.1 : Int) := by omega
        simp only [Int.natCast_nonneg, if_true, Int.toNat_natCast, List.getElem?_eq_getElem hi, Option.bind_some, hlt, decide_true, cond_true, List.getElem?_eq_getElem hj, kq_eq]
        cases decide ((xs[i]).2.2.2.1[j] = k0) <;> cases decide (((xs[i]).2.2.2.1[j]).1 = 0) <;> cases decide (((xs[i]).2.2.2.1[j]).2.1 = k0.1) <;> cases decide (k0.1 = 0) <;> cases decide (((xs[i]).2.2.2.1[j]).1 = k0.2.1) <;> rfl)
      (fun _ _ _ _ _ _ => trivial) (fun s self' _ => by
        show spec_l10Held.b1 _ _ _ _ _ _ _ _ = _
        unfold spec_l10Held.b1
        simp only [Int.natCast_nonneg, if_true, Int.toNat_natCast, List.getElem?_eq_getElem hi, Option.bind_some, Int.lt_irrefl, decide_false, cond_false]
        rfl) () trivial k (by omega)
    rw [forI_any] at this
    exact this
  have := for_loopE (B := fun self v => spec_l10Held.B0 k self (fun z => spec_l10Held.Q1 k (xs, t, k0, ()) z) (xs, t, k0, ()) v) xs (fun (_ : Unit) (i : Int) => (xs, t, k0, i)) (fun _ _ x => if !decide (x.1 = t) && x.2.2.2.1.any (heldC k0) then .inl (some (true, ())) else .inr ()) (fun _ => some (false, ())) (fun _ _ => True) (by rw [maxLen_val]; omega)
    (fun i hi s self _ => by
      show spec_l10Held.b0 _ _ _ _ _ = _
      unfold spec_l10Held.b0
      have hlt : (i : Int) < (xs.length : Int) := by omega
      simp only [hlt, decide_true, cond_true, Int.natCast_nonneg, if_true, Int.toNat_natCast, List.getElem?_eq_getElem hi, Option.bind_some, inner self _ i hi]
      cases decide ((xs[i]).1 = t) <;> cases (xs[i]).2.2.2.1.any (heldC k0) <;> rfl)
    (fun _ _ _ _ _ _ => trivial) (fun s self _ => by
      show spec_l10Held.b0 _ _ _ _ _ = _
      unfold spec_l10Held.b0
      simp only [Int.lt_irrefl, decide_false, cond_false]
      rfl) () trivial k (by omega)
  rw [forI_any] at this
  refine Eq.trans this ?_
  show _ = some (heldF xs t k0, ())
  unfold heldF
  cases xs.any (fun x => !decide (x.1 = t) && x.2.2.2.1.any (heldC k0)) <;> rfl

/-- What an op with a row wants: the change, and a code. -/
def wantF (rows : List Row) (o : Op) : Change × Int :=
  let k := (o.2.2.1.1, o.2.2.1.2.1)
  if decide (o.1 = 2) && fnd rows k then (noChange, 6)
  else if !decide (o.1 = 2) && !fnd rows k then (noChange, 4)
  else ((fnd rows k, (if fnd rows k then (rows[pos rows k]?).getD noRow else noRow), !decide (o.1 = 4), (if decide (o.1 = 4) then noRow else o.2.2.1), ()), 0)

theorem specWant_eq (rows : List Row) (o : Op) (hu : up rows) (hl : rows.length ≤ 1048576) : spec_l10Wanted.sem (rows, o, ()) = some ((wantF rows o).1, (wantF rows o).2, ()) := by
  refine lift_eq (k := 0) fun k hk => (spec_l10Wanted.raw_eq k _).trans ?_
  show spec_l10Wanted.p _ = _
  unfold spec_l10Wanted.p wantF
  rw [specAt_eq rows _ _ hu (by omega)]
  simp only [Option.bind_some]
  unfold atI
  cases hf : fnd rows (o.2.2.1.1, o.2.2.1.2.1) with
  | false =>
    have h1 : decide ((0 : Int) ≤ -1) = false := by decide
    have h2 : decide ((-1 : Int) < 0) = true := by decide
    simp only [Bool.false_eq_true, if_false, h1, h2, Bool.and_false, Bool.not_false, Bool.and_true, cond_false, cond_true]
    cases decide (o.1 = 2) <;> cases decide (o.1 = 4) <;> rfl
  | true =>
    obtain ⟨hp, he⟩ := fnd_lt hf
    have h1 : decide ((0 : Int) ≤ (pos rows (o.2.2.1.1, o.2.2.1.2.1) : Int)) = true := decide_eq_true (by omega)
    have h2 : decide ((pos rows (o.2.2.1.1, o.2.2.1.2.1) : Int) < 0) = false := decide_eq_false (by omega)
    simp only [if_true, h1, h2, Bool.and_true, Bool.not_true, Bool.and_false, Bool.false_eq_true, if_false, cond_true, cond_false, Int.natCast_nonneg, Int.toNat_natCast, List.getElem?_eq_getElem hp, Option.bind_some, Option.getD_some]
    cases decide (o.1 = 2) <;> cases decide (o.1 = 4) <;> rfl

theorem row_val {x : Row} (h : rowF x = 0) : 0 ≤ x.2.2.1 := by
  unfold rowF at h
  split at h
  · rename_i h1
    simp only [inB, Bool.and_eq_true, decide_eq_true_eq] at h1
    exact h1.2.2.1
  · cases h
abbrev badR (c : Int) : ChangeResult := (c, false, noChange, ())
def chkRow (rows : List Row) (xs : List Tx) (o : Op) : ChangeResult :=
  let k : Key := (o.2.2.1.1, o.2.2.1.2.1, ())
  if heldF xs o.2.1 k then badR 7
  else if (wantF rows o).2 = 0 then
    if mayF rows (wantF rows o).1 = 0 then
      if decide (12 < roomK rows xs k) || decide (12 ≤ cntF xs) then badR 9
      else if (wantF rows o).1.1 && ((wantF rows o).1.2.2.1 && Ty.eq tRow (wantF rows o).1.2.1 (wantF rows o).1.2.2.2.1) then badR 0
      else (0, true, (wantF rows o).1, ())
    else badR (mayF rows (wantF rows o).1)
  else badR (wantF rows o).2

theorem bad_eq (c : Int) : spec_l10Bad.sem (c, ()) = some (badR c, ()) := by
  refine lift_eq (k := 0) fun k hk => (spec_l10Bad.raw_eq k _).trans ?_
  rfl

theorem specChkRow_eq (rows : List Row) (xs : List Tx) (o : Op) (hg : Good rows) (hl : rows.length ≤ 60) (ht : tls xs) (hx : TxsOk xs) : spec_l10CheckRow.sem (rows, xs, o, ()) = some (chkRow rows xs o, ()) := by
  refine lift_eq (k := 0) fun k hk => (spec_l10CheckRow.raw_eq k _).trans ?_
  show spec_l10CheckRow.p _ = _
  unfold spec_l10CheckRow.p chkRow
  have hx4 := hx.len
  have hv : ∀ x ∈ rows, 0 ≤ x.2.2.1 := fun x hm => row_val (hg.ok x hm)
  simp only [specHeld_eq xs _ _ ht, bad_eq, specWant_eq rows o hg.up (by omega), specMay_eq rows _ hg.up (by omega) hv, specRoomK_eq rows xs _ (by omega) (by omega) (fun x hm => by have := hx.locks x hm; omega), specCount_eq xs ht, Option.bind_some]
  cases heldF xs o.2.1 (o.2.2.1.1, o.2.2.1.2.1, ()) with
  | true => rfl
  | false =>
    simp only [cond_false, Bool.false_eq_true, if_false]
    by_cases h1 : (wantF rows o).2 = 0
    rotate_left
    · simp only [h1, decide_false, Bool.not_false, cond_true, if_false]
    by_cases h2 : mayF rows (wantF rows o).1 = 0
    rotate_left
    · simp only [h1, h2, decide_true, decide_false, Bool.not_true, Bool.not_false, cond_true, cond_false, if_true, if_false]
    simp only [h1, h2, decide_true, Bool.not_true, cond_false, if_true]
    by_cases h3 : 12 < roomK rows xs (o.2.2.1.1, o.2.2.1.2.1, ())
    · have : (12 : Int) < (roomK rows xs (o.2.2.1.1, o.2.2.1.2.1, ()) : Int) := by omega
      simp only [h3, this, decide_true, cond_true, Bool.true_or, if_true]
    · have : ¬ (12 : Int) < (roomK rows xs (o.2.2.1.1, o.2.2.1.2.1, ()) : Int) := by omega
      simp only [h3, this, decide_false, cond_false, Bool.false_or]
      cases decide (12 ≤ cntF xs) with
      | true => rfl
      | false =>
        simp only [cond_false, Bool.false_eq_true, if_false]
        cases (wantF rows o).1.1 <;> cases (wantF rows o).1.2.2.1 <;> cases Ty.eq tRow (wantF rows o).1.2.1 (wantF rows o).1.2.2.2.1 <;> rfl

/-! The program's own check. -/
def tailF (rows : List Row) (xs : List Tx) (k : Key) (c : Change) : ChangeResult :=
  if mayF rows c = 0 then
    if decide (12 < roomK rows xs k) || decide (12 ≤ cntF xs) then badR 9
    else if c.1 && (c.2.2.1 && Ty.eq tRow c.2.1 c.2.2.2.1) then badR 0
    else (0, true, c, ())
  else badR (mayF rows c)
theorem chkRow_tail (rows : List Row) (xs : List Tx) (o : Op) : chkRow rows xs o = if heldF xs o.2.1 (o.2.2.1.1, o.2.2.1.2.1, ()) then badR 7 else if (wantF rows o).2 = 0 then tailF rows xs (o.2.2.1.1, o.2.2.1.2.1, ()) (wantF rows o).1 else badR (wantF rows o).2 := rfl

theorem chk_tail (rows : List Row) (xs : List Tx) (kk : Key) (hk : ¬ kk.2.1 = 0) (hl : rows.length ≤ 1048576) (ht : tls xs) (c : Change) : ((impl_mayBe.sem (rows, c, ())).bind fun r1274 => bif !decide (r1274.1 = (0 : Int)) then (some (badR r1274.1, ())) else (impl_keysOf.sem (rows, xs, ())).bind fun r1275 => bif decide ((12 : Int) < ((mapPut tKey r1275.1 kk true).length : Int)) then (some (badR 9, ())) else (impl_undone.sem (xs, ())).bind fun r1276 => bif decide ((12 : Int) ≤ r1276.1) then (some (badR 9, ())) else bif c.1 then (bif c.2.2.1 then (bif (Ty.eq tRow c.2.1 c.2.2.2.1) then (some (badR 0, ())) else some (((0 : Int), true, c, ()), ())) else some (((0 : Int), true, c, ()), ())) else some (((0 : Int), true, c, ()), ())) = some (tailF rows xs kk c, ()) := by
  unfold tailF
  have hr : (mapPut tKey (seenM (dd [] (allKs rows xs))) kk true).length = roomK rows xs kk := by
    have h1 : mapPut tKey (seenM (dd [] (allKs rows xs))) kk true = seenM (dd [] (allKs rows xs ++ [kk])) := by
      refine (put_step _ _).trans ?_
      rw [dd_append]
      rfl
    rw [h1]
    unfold roomK exK
    rw [if_neg hk]
    exact List.length_map ..
  simp only [mayBe_eq rows c hl, keysOf_eq rows xs hl ht, implCount_eq xs ht, Option.bind_some, hr]
  by_cases h2 : mayF rows c = 0
  rotate_left
  · simp only [h2, decide_false, Bool.not_false, cond_true, if_false]
  simp only [h2, decide_true, Bool.not_true, cond_false, if_true]
  by_cases h3 : 12 < roomK rows xs kk
  · have : (12 : Int) < (roomK rows xs kk : Int) := by omega
    simp only [h3, this, decide_true, cond_true, Bool.true_or, if_true]
  · have : ¬ (12 : Int) < (roomK rows xs kk : Int) := by omega
    simp only [h3, this, decide_false, cond_false, Bool.false_or]
    cases decide (12 ≤ cntF xs) with
    | true => rfl
    | false =>
      simp only [cond_false, Bool.false_eq_true, if_false]
      cases c.1 <;> cases c.2.2.1 <;> cases Ty.eq tRow c.2.1 c.2.2.2.1 <;> rfl

theorem chkChange_eq (rows : List Row) (xs : List Tx) (o : Op) (hg : Good rows) (hl : rows.length ≤ 60) (ht : tls xs) (hx : TxsOk xs) (hk : ¬ o.2.2.1.2.1 = 0) : impl_checkChange.sem (rows, xs, o, ()) = some (chkRow rows xs o, ()) := by
  refine lift_eq (k := 1048577) fun k hk2 => (impl_checkChange.raw_eq k _).trans ?_
  rw [chkRow_tail]
  have hq : ∀ (k : Nat), impl_checkChange.Q1 k (rows, xs, o, ()) (rows, xs, o, badR 0, (o.2.2.1.1, o.2.2.1.2.1, ())) = some (if (wantF rows o).2 = 0 then tailF rows xs (o.2.2.1.1, o.2.2.1.2.1, ()) (wantF rows o).1 else badR (wantF rows o).2, ()) := fun k => by
    show impl_checkChange.q1 _ _ = _
    unfold impl_checkChange.q1 wantF
    have hs := search_eq rows o.2.2.1 ((123, 0) : Nat × Int) hg.up (by omega)
    have e : rk o.2.2.1 = (o.2.2.1.1, o.2.2.1.2.1) := rfl
    rw [e] at hs
    have tl := chk_tail rows xs (o.2.2.1.1, o.2.2.1.2.1, ()) hk (by omega) ht
    simp only [hs, Option.bind_some]
    generalize decide (o.1 = 2) = d2
    generalize decide (o.1 = 4) = d4
    cases hf : fnd rows (o.2.2.1.1, o.2.2.1.2.1) with
    | false =>
      cases d2
      · rfl
      · cases d4
        · exact tl _
        · exact tl _
    | true =>
      obtain ⟨hp, he⟩ := fnd_lt hf
      simp only [Int.natCast_nonneg, if_true, Int.toNat_natCast, List.getElem?_eq_getElem hp, Option.bind_some, Option.getD_some]
      cases d2
      · cases d4
        · exact tl _
        · exact tl _
      · rfl
  have inner : ∀ (self : ((List Row) × (List Tx) × Op × ChangeResult × Key × (List Tx) × Int × Int) → Option impl_checkChange.Out) (e0 : ((List Row) × (List Tx) × Op × ChangeResult × Key) → Option impl_checkChange.Out) (i : Nat) (hi : i < xs.length), impl_checkChange.r1 k self e0 (rows, xs, o, ()) rows xs o (badR 0) (o.2.2.1.1, o.2.2.1.2.1, ()) xs (xs.length : Int) (i : Int) (xs[i]).2.2.2.1 (List.length (xs[i]).2.2.2.1 : Int) (0 : Int) = if (xs[i]).2.2.2.1.any (heldC (o.2.2.1.1, o.2.2.1.2.1, ())) then some (badR 7, ()) else self (rows, xs, o, badR 0, (o.2.2.1.1, o.2.2.1.2.1, ()), xs, (xs.length : Int), w64 ((i : Int) + 1)) := fun self e0 i hi => by
    have hlk := (ht.2 _ (List.getElem_mem hi)).2.2.1
    have hkeys := hx.keys _ (List.getElem_mem hi)
    have := for_loopE (B := fun self' v => impl_checkChange.B1 k self' (fun z => impl_checkChange.Q0 k self e0 (rows, xs, o, ()) rows xs o (badR 0) (o.2.2.1.1, o.2.2.1.2.1, ()) xs (xs.length : Int) (i : Int) (xs[i]).2.2.2.1 (List.length (xs[i]).2.2.2.1 : Int) z) (rows, xs, o, ()) rows xs o (badR 0) (o.2.2.1.1, o.2.2.1.2.1, ()) xs (xs.length : Int) (i : Int) (xs[i]).2.2.2.1 (List.length (xs[i]).2.2.2.1 : Int) v) (xs[i]).2.2.2.1 (fun (_ : Unit) (j : Int) => j) (fun _ _ l => if heldC (o.2.2.1.1, o.2.2.1.2.1, ()) l then .inl (some (badR 7, ())) else .inr ()) (fun _ => self (rows, xs, o, badR 0, (o.2.2.1.1, o.2.2.1.2.1, ()), xs, (xs.length : Int), w64 ((i : Int) + 1))) (fun _ _ => True) (by rw [maxLen_val]; omega)
      (fun j hj s self' _ => by
        show impl_checkChange.b1 _ _ _ _ _ _ _ _ _ _ _ _ _ _ = _
        unfold impl_checkChange.b1 heldC
        have hlt : (j : Int) < (List.length (xs[i]).2.2.2.1 : Int) := by omega
        have hkey := hkeys _ (List.getElem_mem hj)
        simp only [Int.natCast_nonneg, if_true, Int.toNat_natCast, Option.bind_some, hlt, decide_true, cond_true, List.getElem?_eq_getElem hj, kq_eq]
        generalize (xs[i]).2.2.2.1[j] = l at hkey
        obtain ⟨l1, l2, ⟨⟩⟩ := l
        have hl2 : ¬ l2 = 0 := by
          unfold keyB2 inB at hkey
          simp only [Bool.and_eq_true, decide_eq_true_eq] at hkey
          omega
        generalize o.2.2.1.1 = k1
        generalize o.2.2.1.2.1 = k2
        have e1 : decide (((l1, l2, ()) : Key) = (k1, k2, ())) = (decide (l1 = k1) && decide (l2 = k2)) := by
          rw [Bool.eq_iff_iff]; simp
        have e2 : decide (((l1, l2, ()) : Key) = ((0 : Int), k1, ())) = (decide (l1 = 0) && decide (l2 = k1)) := by
          rw [Bool.eq_iff_iff]; simp
        have e3 : Ty.eq tKey ((l1, l2, ()) : Key) ((0 : Int), k1, ()) = (decide (l1 = 0) && decide (l2 = k1)) := (kq_eq _ _).trans e2
        simp only [e1, e2, e3]
        by_cases h0 : k1 = 0
        · have : ¬ l2 = k1 := by omega
          simp only [h0, this, decide_true, decide_false, Bool.not_true, Bool.and_false, Bool.and_true, Bool.false_or, Bool.true_and, cond_false, cond_true]
          subst h0
          simp only [hl2, decide_false, Bool.and_false, Bool.false_or]
          cases decide (l1 = 0) <;> cases decide (l2 = k2) <;> cases decide (l1 = k2) <;> rfl
        · simp only [h0, decide_false, Bool.not_false, Bool.false_and, Bool.or_false, cond_true, cond_false]
          cases decide (l1 = k1) <;> cases decide (l2 = k2) <;> cases decide (l1 = 0) <;> cases decide (l2 = k1) <;> rfl)
      (fun _ _ _ _ _ _ => trivial) (fun s self' _ => by
        show impl_checkChange.b1 _ _ _ _ _ _ _ _ _ _ _ _ _ _ = _
        unfold impl_checkChange.b1
        simp only [Int.lt_irrefl, decide_false, cond_false]
        rfl) () trivial k (by omega)
    rw [forI_any] at this
    exact this
  have := for_loopE (B := fun self v => impl_checkChange.B0 k self (fun z => impl_checkChange.Q1 k (rows, xs, o, ()) z) (rows, xs, o, ()) v) xs (fun (_ : Unit) (i : Int) => (rows, xs, o, badR 0, (o.2.2.1.1, o.2.2.1.2.1, ()), xs, (xs.length : Int), i)) (fun _ _ x => if !decide (x.1 = o.2.1) && x.2.2.2.1.any (heldC (o.2.2.1.1, o.2.2.1.2.1, ())) then .inl (some (badR 7, ())) else .inr ()) (fun _ => some (if (wantF rows o).2 = 0 then tailF rows xs (o.2.2.1.1, o.2.2.1.2.1, ()) (wantF rows o).1 else badR (wantF rows o).2, ())) (fun _ _ => True) (by rw [maxLen_val]; have := ht.1; omega)
    (fun i hi s self _ => by
      show impl_checkChange.b0 _ _ _ _ _ = _
      unfold impl_checkChange.b0
      have hlt : (i : Int) < (xs.length : Int) := by omega
      simp only [hlt, decide_true, cond_true, Int.natCast_nonneg, if_true, Int.toNat_natCast, List.getElem?_eq_getElem hi, Option.bind_some, inner self _ i hi]
      cases decide ((xs[i]).1 = o.2.1) <;> cases (xs[i]).2.2.2.1.any (heldC (o.2.2.1.1, o.2.2.1.2.1, ())) <;> rfl)
    (fun _ _ _ _ _ _ => trivial) (fun s self _ => by
      show impl_checkChange.b0 _ _ _ _ _ = _
      unfold impl_checkChange.b0
      simp only [Int.lt_irrefl, decide_false, cond_false]
      exact hq k) () trivial k (by have := ht.1; omega)
  rw [forI_any] at this
  refine Eq.trans this ?_
  unfold heldF
  cases xs.any (fun x => !decide (x.1 = o.2.1) && x.2.2.2.1.any (heldC (o.2.2.1.1, o.2.2.1.2.1, ()))) <;> rfl
end OT

set_option linter.unusedVariables false
set_option linter.unusedSimpArgs false
namespace OT
open Go

/-- How many marks a transaction has. -/
def marksN (xs : List Tx) (t : Int) : Int := match xs[(atF xs t).toNat]? with
  | some x => (List.length x.2.2.1 : Int)
  | none => 0
def chkF (rows : List Row) (xs : List Tx) (o : Op) : ChangeResult :=
  if o.1 = 1 then (if decide (4 ≤ xs.length) then badR 2 else badR 0)
  else if o.1 = 9 then badR 0
  else if atF xs o.2.1 < 0 then badR 4
  else if o.1 = 5 then (if decide (8 ≤ marksN xs o.2.1) then badR 2 else badR 0)
  else if o.1 = 6 then (if decide (marksN xs o.2.1 ≤ o.2.2.2.1) then badR 3 else badR 0)
  else if onR o.1 then chkRow rows xs o else badR 0
def chkOp (rows : List Row) (xs : List Tx) (o : Op) : ChangeResult :=
  if rowsF rows = 0 then (if txsF xs = 0 then (if opF o = 0 then chkF rows xs o else badR (opF o)) else badR (txsF xs)) else badR (rowsF rows)

theorem at_mem {xs : List Tx} {t : Int} (h : ¬ atF xs t < 0) : ∃ (j : Nat) (hj : j < xs.length), atF xs t = (j : Int) ∧ (xs[j]).1 = t := by
  obtain ⟨j, hj, h1, h2⟩ := where_spec (fun x : Tx => decide (x.1 = t)) xs 0 (by unfold atF at h; omega)
  exact ⟨j, hj, by unfold atF; rw [h1, Nat.zero_add], of_decide_eq_true h2⟩
theorem kinds {k : Int} (h : inB k 1 9 = true) : k = 1 ∨ k = 2 ∨ k = 3 ∨ k = 4 ∨ k = 5 ∨ k = 6 ∨ k = 7 ∨ k = 8 ∨ k = 9 := by
  unfold inB at h
  simp only [Bool.and_eq_true, decide_eq_true_eq] at h
  omega

theorem specCheck_eq (rows : List Row) (xs : List Tx) (o : Op) (hg : Good rows) (hl : rows.length ≤ 60) (ht : tls xs) (hx : TxsOk xs) (ho : inB o.1 1 9 = true) : spec_l10Check.sem (rows, xs, o, ()) = some (chkF rows xs o, ()) := by
  refine lift_eq (k := 0) fun k hk => (spec_l10Check.raw_eq k _).trans ?_
  show spec_l10Check.p _ = _
  unfold spec_l10Check.p chkF
  have hx4 := hx.len
  have h4 : decide ((4 : Int) ≤ (xs.length : Int)) = decide (4 ≤ xs.length) := by
    by_cases h : 4 ≤ xs.length
    · have : (4 : Int) ≤ (xs.length : Int) := by omega
      simp [h, this]
    · have : ¬ (4 : Int) ≤ (xs.length : Int) := by omega
      simp [h, this]
  simp only [bad_eq, specTxAt_eq xs _ ht.1, specChkRow_eq rows xs o hg hl ht hx, Option.bind_some, h4]
  by_cases ha : atF xs o.2.1 < 0
  · simp only [ha, decide_true, cond_true, if_true]
    rcases kinds ho with e | e | e | e | e | e | e | e | e <;> rw [e] <;> first | rfl | (cases decide (4 ≤ xs.length) <;> rfl)
  · obtain ⟨j, hj, e, _⟩ := at_mem ha
    have hm : marksN xs o.2.1 = (List.length (xs[j]).2.2.1 : Int) := by unfold marksN; rw [e, Int.toNat_natCast, List.getElem?_eq_getElem hj]
    rw [hm]
    simp only [ha, decide_false, cond_false, if_false, e, Int.natCast_nonneg, if_true, Int.toNat_natCast, List.getElem?_eq_getElem hj, Option.bind_some]
    rcases kinds ho with e | e | e | e | e | e | e | e | e <;> rw [e] <;> first | rfl | (cases decide (4 ≤ xs.length) <;> rfl) | (cases decide ((8 : Int) ≤ (List.length (xs[j]).2.2.1 : Int)) <;> rfl) | (cases decide ((List.length (xs[j]).2.2.1 : Int) ≤ o.2.2.2.1) <;> rfl)

theorem specChk_eq (rows : List Row) (xs : List Tx) (o : Op) (hl : rows.length ≤ 1048576) (hr : ∀ x ∈ rows, rl x) (ht : tls xs) (ho : rl o.2.2.1) : spec_CheckOp.sem (rows, xs, o, ()) = some (chkOp rows xs o, ()) := by
  refine lift_eq (k := 0) fun k hk => (spec_CheckOp.raw_eq k _).trans ?_
  show spec_CheckOp.p _ = _
  unfold spec_CheckOp.p chkOp
  simp only [specRows_eq rows (by rw [maxLen_val]; omega) hr, specTxs_eq xs ht, specOp_eq o ho, bad_eq, Option.bind_some]
  by_cases h1 : rowsF rows = 0
  rotate_left
  · simp only [h1, decide_false, Bool.not_false, cond_true, if_false]
  by_cases h2 : txsF xs = 0
  rotate_left
  · simp only [h1, h2, decide_true, decide_false, Bool.not_true, Bool.not_false, cond_true, cond_false, if_true, if_false]
  by_cases h3 : opF o = 0
  rotate_left
  · simp only [h1, h2, h3, decide_true, decide_false, Bool.not_true, Bool.not_false, cond_true, cond_false, if_true, if_false]
  simp only [h1, h2, h3, decide_true, Bool.not_true, cond_false, if_true]
  rw [specCheck_eq rows xs o (rowsF_good h1).1 (rowsF_good h1).2 ht (txs_ok h2) (opF_range h3).1]
  rfl

theorem implChk_eq (rows : List Row) (xs : List Tx) (o : Op) (hl : rows.length ≤ 1048576) (hr : ∀ x ∈ rows, rl x) (ht : tls xs) (ho : rl o.2.2.1) : impl_CheckOp.sem (rows, xs, o, ()) = some (chkOp rows xs o, ()) := by
  refine lift_eq (k := 5) fun k hk => (impl_CheckOp.raw_eq k _).trans ?_
  unfold impl_CheckOp.raw impl_CheckOp.p
  simp only [implRows_eq rows (by rw [maxLen_val]; omega) hr, implTxs_eq xs ht, opFault_eq o ho, Option.bind_some]
  have hq : rowsF rows = 0 → txsF xs = 0 → opF o = 0 → ∀ (k : Nat) (z : Unit), impl_CheckOp.Q0 k (rows, xs, o, ()) [rowsF rows, txsF xs, opF o] ([rowsF rows, txsF xs, opF o].length : Int) z = some (chkF rows xs o, ()) := fun h1 h2 h3 k z => by
    show impl_CheckOp.q0 _ _ _ _ = _
    unfold impl_CheckOp.q0 chkF
    have hx := txs_ok h2
    have hg := (rowsF_good h1).1
    have hl := (rowsF_good h1).2
    have hor := (opF_range h3).1
    have h4 : decide ((4 : Int) ≤ (xs.length : Int)) = decide (4 ≤ xs.length) := by
      by_cases h : 4 ≤ xs.length
      · have : (4 : Int) ≤ (xs.length : Int) := by omega
        simp [h, this]
      · have : ¬ (4 : Int) ≤ (xs.length : Int) := by omega
        simp [h, this]
    have hrow : onR o.1 = true → impl_checkChange.sem (rows, xs, o, ()) = some (chkRow rows xs o, ()) := fun hon => chkChange_eq rows xs o hg hl ht hx (by
      have := opF_row h3 hon
      unfold rowF at this
      split at this
      · rename_i h5
        simp only [inB, Bool.and_eq_true, decide_eq_true_eq] at h5
        omega
      · cases this)
    simp only [implAt_eq xs _ ht.1, Option.bind_some, h4]
    by_cases ha : atF xs o.2.1 < 0
    · simp only [ha, decide_true, cond_true, if_true]
      rcases kinds hor with e | e | e | e | e | e | e | e | e <;> rw [e] <;> first | rfl | (cases decide (4 ≤ xs.length) <;> rfl)
    · obtain ⟨j, hj, e, _⟩ := at_mem ha
      have hm : marksN xs o.2.1 = (List.length (xs[j]).2.2.1 : Int) := by unfold marksN; rw [e, Int.toNat_natCast, List.getElem?_eq_getElem hj]
      rw [hm]
      simp only [ha, decide_false, cond_false, if_false, e, Int.natCast_nonneg, if_true, Int.toNat_natCast, List.getElem?_eq_getElem hj, Option.bind_some]
      rcases kinds hor with e | e | e | e | e | e | e | e | e
      · rw [e]; cases decide (4 ≤ xs.length) <;> rfl
      · rw [hrow (by rw [e]; rfl), e]; rfl
      · rw [hrow (by rw [e]; rfl), e]; rfl
      · rw [hrow (by rw [e]; rfl), e]; rfl
      · rw [e]; cases decide ((8 : Int) ≤ (List.length (xs[j]).2.2.1 : Int)) <;> rfl
      · rw [e]; cases decide ((List.length (xs[j]).2.2.1 : Int) ≤ o.2.2.2.1) <;> rfl
      · rw [e]; rfl
      · rw [e]; rfl
      · rw [e]; rfl
  have := for_loopE (B := fun self v => impl_CheckOp.B0 k self (fun z => impl_CheckOp.Q0 k (rows, xs, o, ()) [rowsF rows, txsF xs, opF o] ([rowsF rows, txsF xs, opF o].length : Int) z) (rows, xs, o, ()) [rowsF rows, txsF xs, opF o] ([rowsF rows, txsF xs, opF o].length : Int) v) [rowsF rows, txsF xs, opF o] (fun (_ : Unit) (i : Int) => i) (fun _ _ x => if x = 0 then .inr () else .inl (some (badR x, ()))) (fun _ => impl_CheckOp.Q0 k (rows, xs, o, ()) [rowsF rows, txsF xs, opF o] ([rowsF rows, txsF xs, opF o].length : Int) ()) (fun _ _ => True) (by rw [maxLen_val]; simp)
    (fun i hi s self _ => by
      show impl_CheckOp.b0 _ _ _ _ _ _ = _
      unfold impl_CheckOp.b0
      have hlt : (i : Int) < ([rowsF rows, txsF xs, opF o].length : Int) := by omega
      have hin : (0 : Int) ≤ (i : Int) ∧ (i : Int) < ([rowsF rows, txsF xs, opF o].length : Int) := by omega
      simp only [hlt, hin, and_self, decide_true, cond_true, if_true, Int.toNat_natCast, List.getElem?_eq_getElem hi, Option.bind_some]
      by_cases h0 : [rowsF rows, txsF xs, opF o][i] = 0
      · simp only [h0, decide_true, Bool.not_true, cond_false, if_true]
      · simp only [h0, decide_false, Bool.not_false, cond_true, if_false])
    (fun _ _ _ _ _ _ => trivial) (fun s self _ => by
      show impl_CheckOp.b0 _ _ _ _ _ _ = _
      unfold impl_CheckOp.b0
      simp only [Int.lt_irrefl, decide_false, cond_false]) () trivial k (by simp; omega)
  refine Eq.trans this ?_
  unfold chkOp
  simp only [forI]
  by_cases h1 : rowsF rows = 0
  rotate_left
  · simp only [h1, if_false]
  by_cases h2 : txsF xs = 0
  rotate_left
  · simp only [h1, h2, if_true, if_false]
  by_cases h3 : opF o = 0
  rotate_left
  · simp only [h1, h2, h3, if_true, if_false]
  have := hq h1 h2 h3 k ()
  rw [if_pos h1]
  simp only
  rw [if_pos h2]
  simp only
  rw [if_pos h3]
  simp only
  rw [this, if_pos h1, if_pos h2, if_pos h3]

theorem cr_ite {p : Prop} [Decidable p] {x y : ChangeResult} {n : Nat} (h1 : zz tChangeResult x ≤ n) (h2 : zz tChangeResult y ≤ n) : zz tChangeResult (if p then x else y) ≤ n := by
  by_cases h : p
  · have e : (if p then x else y) = x := if_pos h
    exact Nat.le_trans (Nat.le_of_eq (congrArg (zz tChangeResult) e)) h1
  · have e : (if p then x else y) = y := if_neg h
    exact Nat.le_trans (Nat.le_of_eq (congrArg (zz tChangeResult) e)) h2
theorem row_ite {b : Bool} {x y : Row} {n : Nat} (h1 : zz tRow x ≤ n) (h2 : zz tRow y ≤ n) : zz tRow (if b then x else y) ≤ n := by cases b <;> assumption
theorem chkOp_small (rows : List Row) (xs : List Tx) (o : Op) (hr : zz (.slc tRow) rows ≤ 1048576) (ho : zz tOp o ≤ 1048576) : zz tChangeResult (chkOp rows xs o) ≤ 4611686018427387904 := by
  have hb : ∀ c, zz tChangeResult (badR c) ≤ 4611686018427387904 := fun c => Nat.zero_le _
  have ho' : zz tRow o.2.2.1 ≤ 1048576 := by
    have : zz tOp o = 0 + (0 + (zz tRow o.2.2.1 + 0)) := rfl
    omega
  have hw : zz tChange (wantF rows o).1 ≤ 4194304 := by
    unfold wantF
    simp only
    split
    · exact Nat.zero_le _
    · split
      · exact Nat.zero_le _
      · have h1 : zz tRow (if fnd rows (o.2.2.1.1, o.2.2.1.2.1) then (rows[pos rows (o.2.2.1.1, o.2.2.1.2.1)]?).getD noRow else noRow) ≤ 1048576 := by
          refine row_ite ?_ (Nat.zero_le _)
          cases hp : rows[pos rows (o.2.2.1.1, o.2.2.1.2.1)]? with
          | none => exact Nat.zero_le _
          | some x =>
            have := zz_mem (e := tRow) (List.mem_of_getElem? hp)
            show zz tRow x ≤ _
            omega
        have h2 : zz tRow (if decide (o.1 = 4) then noRow else o.2.2.1) ≤ 1048576 := by
          exact row_ite (Nat.zero_le _) ho'
        show 0 + (zz tRow (if fnd rows (o.2.2.1.1, o.2.2.1.2.1) then (rows[pos rows (o.2.2.1.1, o.2.2.1.2.1)]?).getD noRow else noRow) + (0 + (zz tRow (if decide (o.1 = 4) then noRow else o.2.2.1) + 0))) ≤ _
        omega
  have hrow : zz tChangeResult (chkRow rows xs o) ≤ 4611686018427387904 := by
    unfold chkRow
    refine cr_ite (hb _) (cr_ite (cr_ite (cr_ite (hb _) (cr_ite (hb _) ?_)) (hb _)) (hb _))
    show 0 + (0 + (zz tChange (wantF rows o).1 + 0)) ≤ _
    omega
  unfold chkOp chkF
  generalize chkRow rows xs o = r at hrow ⊢
  exact cr_ite (cr_ite (cr_ite (cr_ite (cr_ite (hb _) (hb _)) (cr_ite (hb _) (cr_ite (hb _) (cr_ite (cr_ite (hb _) (hb _)) (cr_ite (cr_ite (hb _) (hb _)) (cr_ite hrow (hb _))))))) (hb _)) (hb _)) (hb _)

theorem txs_tls {xs : List Tx} (hx : okD (.slc tTx) xs) (hz : zz (.slc tTx) xs ≤ 1048576) : tls xs := by
  refine ⟨Nat.le_trans (zz_len (e := tTx) xs) hz, fun x hm => ?_⟩
  have h1 : zz tTx x + 1 ≤ zz (.slc tTx) xs := zz_mem (e := tTx) hm
  have h2 : zz tTx x = 0 + (zz (.slc tChange) x.2.1 + (zz (.slc i64) x.2.2.1 + (zz (.slc tKey) x.2.2.2.1 + 0))) := rfl
  have h3 : List.length x.2.1 ≤ zz (.slc tChange) x.2.1 := zz_len (e := tChange) x.2.1
  have h4 : List.length x.2.2.1 ≤ zz (.slc i64) x.2.2.1 := zz_len (e := i64) x.2.2.1
  have h5 : List.length x.2.2.2.1 ≤ zz (.slc tKey) x.2.2.2.1 := zz_len (e := tKey) x.2.2.2.1
  exact ⟨by omega, by omega, by omega, fun c hc => cl_ok ((hx.2 x hm).2.1.2 c hc)⟩
theorem checkOp_true (v : laws_FnExactCheckOp.Arg) (hv : okA laws_FnExactCheckOp.ps v) : laws_FnExactCheckOp.sem v = some (true, ()) := by
  obtain ⟨rows, xs, o, ⟨⟩⟩ := v
  obtain ⟨hx, hs, ho, _⟩ := hv
  refine lift_eq (k := 0) fun k _ => (laws_FnExactCheckOp.raw_eq k _).trans ?_
  show laws_FnExactCheckOp.p _ = _
  unfold laws_FnExactCheckOp.p
  simp only [szRowS_eq rows 1048576 hx (by omega) (by omega), Option.bind_some]
  by_cases hz : ((zz (.slc tRow) rows : Nat) : Int) ≤ 1048576
  rotate_left
  · have : lft 1048576 (zz (.slc tRow) rows) = -1 := if_neg hz
    simp only [this]
    rfl
  have e1 : lft 1048576 (zz (.slc tRow) rows) = 1048576 - ((zz (.slc tRow) rows : Nat) : Int) := if_pos hz
  have n1 : ¬ (1048576 - ((zz (.slc tRow) rows : Nat) : Int) < 0) := by omega
  simp only [e1, n1, decide_false, cond_false, szTxS_eq xs _ hs (show (0 : Int) ≤ 1048576 - ((zz (.slc tRow) rows : Nat) : Int) by omega) (by omega), Option.bind_some]
  by_cases hz2 : ((zz (.slc tTx) xs : Nat) : Int) ≤ 1048576 - ((zz (.slc tRow) rows : Nat) : Int)
  rotate_left
  · have : lft (1048576 - ((zz (.slc tRow) rows : Nat) : Int)) (zz (.slc tTx) xs) = -1 := if_neg hz2
    simp only [this]
    rfl
  have e2 : lft (1048576 - ((zz (.slc tRow) rows : Nat) : Int)) (zz (.slc tTx) xs) = 1048576 - ((zz (.slc tRow) rows : Nat) : Int) - ((zz (.slc tTx) xs : Nat) : Int) := if_pos hz2
  have n2 : ¬ (1048576 - ((zz (.slc tRow) rows : Nat) : Int) - ((zz (.slc tTx) xs : Nat) : Int) < 0) := by omega
  simp only [e2, n2, decide_false, cond_false, szOp_eq o _ ho (show (0 : Int) ≤ 1048576 - ((zz (.slc tRow) rows : Nat) : Int) - ((zz (.slc tTx) xs : Nat) : Int) by omega) (by omega), Option.bind_some]
  by_cases hz3 : ((zz tOp o : Nat) : Int) ≤ 1048576 - ((zz (.slc tRow) rows : Nat) : Int) - ((zz (.slc tTx) xs : Nat) : Int)
  rotate_left
  · have : lft (1048576 - ((zz (.slc tRow) rows : Nat) : Int) - ((zz (.slc tTx) xs : Nat) : Int)) (zz tOp o) = -1 := if_neg hz3
    simp only [this]
    rfl
  have e3 : lft (1048576 - ((zz (.slc tRow) rows : Nat) : Int) - ((zz (.slc tTx) xs : Nat) : Int)) (zz tOp o) = 1048576 - ((zz (.slc tRow) rows : Nat) : Int) - ((zz (.slc tTx) xs : Nat) : Int) - ((zz tOp o : Nat) : Int) := if_pos hz3
  have n3 : ¬ (1048576 - ((zz (.slc tRow) rows : Nat) : Int) - ((zz (.slc tTx) xs : Nat) : Int) - ((zz tOp o : Nat) : Int) < 0) := by omega
  have hlr : rows.length ≤ 1048576 := Nat.le_trans (zz_len (e := tRow) rows) (by omega)
  have hrl : ∀ x ∈ rows, rl x := fun x hm => rl_ok (hx.2 x hm)
  have htl : tls xs := txs_tls (xs := xs) hs (by omega)
  have hol : rl o.2.2.1 := rl_ok ho.2.2.1
  have hR := chkOp_small rows xs o (by omega) (by omega)
  simp only [e3, n3, decide_false, cond_false, toRowS_eq rows (by omega), toTxS_eq xs (by omega), toOp_eq o (by omega), specChk_eq rows xs o hlr hrl htl hol, implChk_eq rows xs o hlr hrl htl hol, eqChangeResult_self _ hR, eqRowS_self rows (by omega), eqTxS_self xs (by omega), Option.bind_some, Bool.not_true, decide_true]
end OT

namespace Go.Proofs.Ytkimdiobckckiaa.checkOp
open Go Go.ChangeShapes Go.WideShapes Go.ChangeAt Go.RowKit

theorem own : ownKnob Try.prog.godebug = none := by kernel_rfl
theorem laidOut : laidOutB Try.prog = true := by kernel_rfl
theorem htrue : ∀ v, OT.okA OT.laws_FnExactCheckOp.ps v → ∃ u, OT.laws_FnExactCheckOp.sem v = some (true, u) := fun v hv => ⟨(), OT.checkOp_true v hv⟩

theorem trod_len {H : Type} {enc : TypeId × Value → H} {P : Program} {w : World} {base : Nat} {sp : Nat → Bool} {held : Bool} : ∀ (ts : List TypeId) (vs : List Value) (ds : List (DataW H)) (ps : List MemPlace), DataW.TrodAll enc P w base sp held ts vs ds ps → ds.length = ts.length
  | [], [], [], _, _ => rfl
  | _ :: ts, _ :: vs, _ :: ds, _, ⟨_, q, _, h, _⟩ => congrArg (· + 1) (trod_len ts vs ds q h)
  | [], _ :: _, _, _, h => h.elim
  | [], [], _ :: _, _, h => h.elim
  | _ :: _, [], _, _, h => h.elim
  | _ :: _, _ :: _, [], _, h => h.elim

set_option maxRecDepth 100000 in
theorem lifted (os : Os) (started : os.Started) (H : Type) (enc : TypeId × Value → H) :
    ReturnsInHanded {} Try.checked os 5 .any (Rows.fnExactCheckOpSpec.pre6 enc Try.prog Try.f5 Rows.fnExactCheckOpRow.domain false) (Rows.fnExactCheckOpSpec.post enc Try.prog Try.f5 false true false false) := by
  refine returnsInHanded_of_change (C := Try.checked) own started (by kernel_rfl) Try.func5
    (ChangeSpec.witness6 (enc := enc) (C := Try.checked) false ⟨#[], #[.slice none 0 0, .slice none 0 0, .agg #[.int .i64 0, .int .i64 0, .int .i64 0, .int .i64 0, .int .i64 0, .string ⟨#[]⟩, .int .i64 0]], []⟩ 8 (by kernel_rfl) (by kernel_rfl) (by kernel_rfl) (by kernel_rfl)) ?_
  intro W base args ds gs before hval0 hW hcnd _
  have hval : ∀ (j : Nat) t v, Try.f5.params[j]? = some t → args[j]? = some v → Value.okWide Try.prog W .any base t v := hval0
  have hW' := hW
  obtain ⟨p, q, hA0, hV, rfl, hfz, hnd⟩ := hW
  have hA : DataW.TrodAll enc Try.prog W 0 (fun _ => true) true Try.f5.params.toList args.toList ds p := hA0
  obtain ⟨rfl, rfl⟩ := trodVars_none hV
  simp only [List.append_nil] at hW'
  have hl : OT.roLay Try.prog OT.laws_FnExactCheckOp.ps Try.f5.params.toList = true := by kernel_rfl
  have hc := OT.law_calls (enc := enc) OT.laws_FnExactCheckOp.ok.1 htrue hl hA (b0 := base) (fun j t v ht hv => hval j t v (by simpa using ht) (by simpa using hv))
  simp only [Array.toArray_toList] at hc
  refine hc.mono fun e W' ⟨he, hb⟩ => ?_
  refine ⟨_, he, OT.law_post (C := Try.checked) laidOut rfl hl (by kernel_rfl) Try.underlying4 rfl hW' hA ?_ hb⟩
  have hlen : ds.length = 3 := trod_len _ _ _ _ hA
  match ds, hlen with
  | [d1, d2, d3], _ => rfl

set_option maxHeartbeats 8000000 in
/-- The row's closed facts, each by itself. -/
theorem closed : joinedFacts Try.prog 5 Try.f5 Rows.fnExactCheckOpSpec Rows.fnExactCheckOpRow = true := by
  unfold joinedFacts
  simp only [Bool.and_eq_true]
  repeat' apply And.intro
  all_goals (as_aux_lemma => kernel_rfl)

theorem over : Rows.fnExactCheckOpRow.holds Try.pinned (OpenSpec.ofChange Rows.fnExactCheckOpSpec) :=
  OpenClaim.holds_of_wide 5 Try.f5 rfl rfl rfl rfl rfl rfl rfl ⟨rfl, rfl, rfl, rfl, rfl⟩ rfl rfl rfl rfl rfl (by kernel_rfl) Try.func5 closed
    (of_decide_eq_true (by kernel_rfl)) (by unfold Func.isWrapper; first | (rw [if_pos (by decide +kernel)]; kernel_rfl) | (rw [if_neg (by decide +kernel)]; exact ⟨rfl, rfl⟩))
    (fun os started H enc _ => lifted os started H enc)
theorem proved : Rows.FnExactCheckOpSaid := over
#print axioms proved
end Go.Proofs.Ytkimdiobckckiaa.checkOp
