/- What ApplyChanges of the program and of the reference compute; no conditions but the lengths. -/
import Derived.Test.YtkimdiobckckiaaXDa
set_option linter.unusedVariables false
set_option linter.unusedSimpArgs false
namespace OT
open Go

/-! Keys. -/
def rk (x : Row) : Int × Int := (x.1, x.2.1)
theorem befB_iff (a b : Int × Int) : befB a b = true ↔ a.1 < b.1 ∨ (a.1 = b.1 ∧ a.2 < b.2) := by unfold befB; simp
theorem befB_trans {a b c : Int × Int} (h1 : befB a b = true) (h2 : befB b c = true) : befB a c = true := by
  rw [befB_iff] at *; omega
theorem befB_irr (a : Int × Int) : befB a a = false := by
  cases h : befB a a with
  | false => rfl
  | true => rw [befB_iff] at h; omega
theorem befB_asym {a b : Int × Int} (h : befB a b = true) : befB b a = false := by
  cases h2 : befB b a with
  | false => rfl
  | true => rw [befB_iff] at h h2; omega
theorem befB_tri {a b : Int × Int} (h1 : befB a b = false) (h2 : befB b a = false) : a = b := by
  have n1 : ¬ (a.1 < b.1 ∨ (a.1 = b.1 ∧ a.2 < b.2)) := fun h => by rw [(befB_iff a b).2 h] at h1; cases h1
  have n2 : ¬ (b.1 < a.1 ∨ (b.1 = a.1 ∧ b.2 < a.2)) := fun h => by rw [(befB_iff b a).2 h] at h2; cases h2
  have e1 : a.1 = b.1 := by omega
  have e2 : a.2 = b.2 := by omega
  obtain ⟨a1, a2⟩ := a
  obtain ⟨b1, b2⟩ := b
  simp only at e1 e2
  rw [e1, e2]
/-- Rows that rise. -/
def up (xs : List Row) : Prop := xs.Pairwise (fun a b => befB (rk a) (rk b) = true)
theorem up_cons {x : Row} {xs : List Row} : up (x :: xs) ↔ (∀ y ∈ xs, befB (rk x) (rk y) = true) ∧ up xs := List.pairwise_cons

/-- How many are ahead of a key. -/
def pos : List Row → Int × Int → Nat
  | [], _ => 0
  | x :: xs, k => if befB (rk x) k then pos xs k + 1 else 0
theorem pos_le : ∀ (xs : List Row) (k : Int × Int), pos xs k ≤ xs.length
  | [], _ => Nat.le_refl _
  | x :: xs, k => by simp only [pos]; split <;> simp [pos_le xs k]
theorem pos_lt : ∀ (xs : List Row) (k : Int × Int) (i : Nat) (h : i < xs.length), i < pos xs k → befB (rk xs[i]) k = true
  | x :: xs, k, i, h, hp => by
    simp only [pos] at hp
    split at hp
    · rename_i hx
      cases i with
      | zero => exact hx
      | succ i => exact pos_lt xs k i (by simpa using h) (by omega)
    · omega
theorem up_not : ∀ (xs : List Row) (k : Int × Int) (i : Nat) (h : i < xs.length), up xs → pos xs k ≤ i → befB (rk xs[i]) k = false
  | x :: xs, k, i, h, hu, hp => by
    simp only [pos] at hp
    split at hp
    · cases i with
      | zero => omega
      | succ i => exact up_not xs k i (by simpa using h) (up_cons.1 hu).2 (by omega)
    · rename_i hx
      have hx : befB (rk x) k = false := by simpa using hx
      cases i with
      | zero => exact hx
      | succ i =>
        have hi' : i < xs.length := by simpa using h
        have hm : befB (rk x) (rk xs[i]) = true := (up_cons.1 hu).1 _ (List.getElem_mem _)
        show befB (rk xs[i]) k = false
        cases hb : befB (rk xs[i]) k with
        | false => rfl
        | true => rw [befB_trans hm hb] at hx; cases hx

/-- Whether there is a row with a key. -/
def fnd (xs : List Row) (k : Int × Int) : Bool := match xs[pos xs k]? with
  | some x => decide (rk x = k)
  | none => false

theorem fnd_lt {xs : List Row} {k : Int × Int} (h : fnd xs k = true) : ∃ hp : pos xs k < xs.length, rk xs[pos xs k] = k := by
  unfold fnd at h
  split at h
  · rename_i x hx
    obtain ⟨hp, e⟩ := List.getElem?_eq_some_iff.1 hx
    subst e
    exact ⟨hp, by simpa using h⟩
  · cases h

/-! The search of the program. -/
theorem ord_lt (a b : Row) : decide ((if befB (a.1, a.2.1) (b.1, b.2.1) then (-1 : Int) else if befB (b.1, b.2.1) (a.1, a.2.1) then 1 else 0) < 0) = befB (rk a) (rk b) := by
  unfold rk
  cases befB (a.1, a.2.1) (b.1, b.2.1) <;> cases befB (b.1, b.2.1) (a.1, a.2.1) <;> rfl
theorem sameKey_rk (a b : Row) : sameKey a b = decide (rk a = rk b) := by
  unfold sameKey rk
  by_cases h1 : a.1 = b.1 <;> by_cases h2 : a.2.1 = b.2.1 <;> simp [h1, h2]

theorem half (lo hi : Nat) (h : lo + hi ≤ 4611686018427387904) : w64 ((IntKind.wrap .u64 (w64 ((lo : Int) + (hi : Int)))).fdiv (2 ^ 1)) = (((lo + hi) / 2 : Nat) : Int) := by
  have e1 : w64 ((lo : Int) + (hi : Int)) = ((lo + hi : Nat) : Int) := by rw [w64_in (by omega)]; omega
  rw [e1]
  have e2 : IntKind.wrap .u64 ((lo + hi : Nat) : Int) = ((lo + hi : Nat) : Int) := by
    simp only [IntKind.wrap]
    first | rfl | (simp [IntKind.bits, IntKind.signed]; omega) | omega
  rw [e2]
  have e3 : (((lo + hi : Nat) : Int)).fdiv (2 ^ 1) = (((lo + hi) / 2 : Nat) : Int) := by
    rw [Int.fdiv_eq_ediv_of_nonneg _ (by omega)]
    omega
  rw [e3, w64_in (by omega)]

theorem search_eq (xs : List Row) (key : Row) (f : Nat × Int) (hu : up xs) (hl : xs.length ≤ 2000000) : slices_BinarySearchFunc.sem (xs, key, f, ()) = some ((pos xs (rk key) : Int), fnd xs (rk key), ()) := by
  have hp := pos_le xs (rk key)
  have hq : slices_BinarySearchFunc.Q0 0 (xs, key, f, ()) (pos xs (rk key) : Int) = some ((pos xs (rk key) : Int), fnd xs (rk key), ()) := by
    show slices_BinarySearchFunc.q0 _ _ = _
    unfold slices_BinarySearchFunc.q0 fnd
    by_cases hlt : pos xs (rk key) < xs.length
    · have h1 : ((pos xs (rk key) : Nat) : Int) < (xs.length : Int) := by omega
      simp only [h1, decide_true, cond_true, Int.natCast_nonneg, if_true, Int.toNat_natCast, List.getElem?_eq_getElem hlt, Option.bind_some, order_eq, order_zero, sameKey_rk]
    · have h1 : ¬ ((pos xs (rk key) : Nat) : Int) < (xs.length : Int) := by omega
      simp only [h1, decide_false, cond_false]
      rw [List.getElem?_eq_none (by omega)]
  refine lift_eq (k := xs.length + 1) fun k hk => (slices_BinarySearchFunc.raw_eq k _).trans ?_
  refine rawIter_eq (B := fun self v => slices_BinarySearchFunc.B0 0 self (fun z => slices_BinarySearchFunc.Q0 0 (xs, key, f, ()) z) (xs, key, f, ()) v) (fun _ => ((pos xs (rk key) : Int), fnd xs (rk key), ()))
    (fun v => ∃ lo hi : Nat, v = ((lo : Int), (hi : Int)) ∧ lo ≤ pos xs (rk key) ∧ pos xs (rk key) ≤ hi ∧ hi ≤ xs.length) (fun v => (v.2 - v.1).toNat) (fun v hv self => ?_) k (0, (xs.length : Int)) ⟨0, xs.length, rfl, by omega, hp, by omega⟩ (by simp; omega)
  obtain ⟨lo, hi, rfl, h1, h2, h3⟩ := hv
  by_cases hlt : lo < hi
  · right
    have hlt' : (lo : Int) < (hi : Int) := by omega
    have hm : (lo + hi) / 2 < xs.length := by omega
    have hb : ∀ self, slices_BinarySearchFunc.B0 0 self (fun z => slices_BinarySearchFunc.Q0 0 (xs, key, f, ()) z) (xs, key, f, ()) ((lo : Int), (hi : Int)) = if befB (rk xs[(lo + hi) / 2]) (rk key) then self (w64 ((((lo + hi) / 2 : Nat) : Int) + 1), (hi : Int)) else self ((lo : Int), (((lo + hi) / 2 : Nat) : Int)) := fun self => by
      show slices_BinarySearchFunc.b0 _ _ _ _ = _
      unfold slices_BinarySearchFunc.b0
      simp only [hlt', decide_true, cond_true, half lo hi (by omega), Int.natCast_nonneg, if_true, Int.toNat_natCast, List.getElem?_eq_getElem hm, Option.bind_some, order_eq, ord_lt]
      cases befB (rk xs[(lo + hi) / 2]) (rk key) <;> rfl
    cases hc : befB (rk xs[(lo + hi) / 2]) (rk key) with
    | true =>
      refine ⟨((((lo + hi) / 2 + 1 : Nat) : Int), (hi : Int)), ?_, rfl, ⟨_, _, rfl, ?_, h2, h3⟩, by simp only; omega⟩
      · rw [hb, hc, if_pos rfl, w64_in (by omega)]; rfl
      · rcases Nat.lt_or_ge ((lo + hi) / 2) (pos xs (rk key)) with h | h
        · omega
        · rw [up_not xs _ _ hm hu h] at hc; cases hc
    | false =>
      refine ⟨((lo : Int), (((lo + hi) / 2 : Nat) : Int)), ?_, rfl, ⟨_, _, rfl, h1, ?_, by omega⟩, by simp only; omega⟩
      · rw [hb, hc]; rfl
      · rcases Nat.lt_or_ge ((lo + hi) / 2) (pos xs (rk key)) with h | h
        · rw [pos_lt xs _ _ hm h] at hc; cases hc
        · exact h
  · left
    have e : lo = pos xs (rk key) := by omega
    have hlt' : ¬ (lo : Int) < (hi : Int) := by omega
    show slices_BinarySearchFunc.b0 _ _ _ _ = _
    unfold slices_BinarySearchFunc.b0
    simp only [hlt', decide_false, cond_false]
    rw [e]
    exact hq

/-! One change. -/
def fits1 (xs : List Row) (c : Change) : Bool := (fnd xs (ck c) == c.1) && (!fnd xs (ck c) || (match xs[pos xs (ck c)]? with | some x => Ty.eq tRow x c.2.1 | none => true))
def done1 (xs : List Row) (c : Change) : List Row := xs.take (pos xs (ck c)) ++ (if c.2.2.1 then [c.2.2.2.1] else []) ++ xs.drop (pos xs (ck c) + if fnd xs (ck c) then 1 else 0)

theorem rk_key (c : Change) : rk (keyRow c) = ck c := keyRow_ck c
theorem fitsTo_eq (c : Change) (xs : List Row) (hu : up xs) (hl : xs.length ≤ 2000000) : impl_Change_fitsTo.sem (c, xs, ()) = some (fits1 xs c, ()) := by
  refine lift_eq (k := 0) fun k _ => (impl_Change_fitsTo.raw_eq k _).trans ?_
  show impl_Change_fitsTo.p _ = _
  unfold impl_Change_fitsTo.p fits1
  simp only [implKey_eq, search_eq xs _ _ hu hl, rk_key, Option.bind_some]
  cases hf : fnd xs (ck c) with
  | false => cases c.1 <;> rfl
  | true =>
    obtain ⟨hp, hk⟩ := fnd_lt hf
    simp only [Int.natCast_nonneg, if_true, Int.toNat_natCast, List.getElem?_eq_getElem hp, Option.bind_some]
    cases c.1 <;> rfl

theorem changed_eq (xs : List Row) (c : Change) (hu : up xs) (hl : xs.length ≤ 2000000) : impl_changed.sem (xs, c, ()) = some (done1 xs c, ()) := by
  refine lift_eq (k := 0) fun k _ => (impl_changed.raw_eq k _).trans ?_
  show impl_changed.p _ = _
  unfold impl_changed.p done1
  have hp := pos_le xs (ck c)
  have hpi : 0 ≤ ((pos xs (ck c) : Nat) : Int) ∧ ((pos xs (ck c) : Nat) : Int) ≤ (xs.length : Int) := by omega
  have c1 : ([] : List Row).length + (List.take (pos xs (ck c)) xs).length ≤ CAP := cap_ok (by simp; omega)
  simp only [implKey_eq, search_eq xs _ _ hu hl, rk_key, Option.bind_some, hpi, and_self, if_true, Int.toNat_natCast, c1, List.drop_zero, List.nil_append, List.take_length]
  have c2 : (List.take (pos xs (ck c)) xs).length + [c.2.2.2.1].length ≤ CAP := cap_ok (by simp; omega)
  have hd : ∀ (p7 : List Row) (n : Nat), p7.length ≤ 2000001 → p7.length + (List.drop n xs).length ≤ CAP := fun p7 n h => cap_ok (by rw [List.length_drop]; omega)
  have hw : w64 (((pos xs (ck c) : Nat) : Int) + 1) = ((pos xs (ck c) + 1 : Nat) : Int) := by rw [w64_in (by omega)]; rfl
  have c3 := hd (List.take (pos xs (ck c)) xs ++ [c.2.2.2.1])
  have c4 := hd (List.take (pos xs (ck c)) xs)
  have l3 : (List.take (pos xs (ck c)) xs ++ [c.2.2.2.1]).length ≤ 2000001 := by simp; omega
  have l4 : (List.take (pos xs (ck c)) xs).length ≤ 2000001 := by simp; omega
  cases hf : fnd xs (ck c) with
  | false =>
    cases c.2.2.1 with
    | false => simp only [cond_false, hpi, and_self, if_true, Int.toNat_natCast, c4 _ l4, Bool.false_eq_true, if_false, List.append_nil, Nat.add_zero]
    | true => simp only [cond_true, cond_false, c2, hpi, and_self, if_true, Int.toNat_natCast, c3 _ l3, Bool.false_eq_true, if_false, Nat.add_zero]
  | true =>
    obtain ⟨hpl, _⟩ := fnd_lt hf
    have hpi2 : 0 ≤ ((pos xs (ck c) + 1 : Nat) : Int) ∧ ((pos xs (ck c) + 1 : Nat) : Int) ≤ (xs.length : Int) := by omega
    cases c.2.2.1 with
    | false => simp only [cond_true, cond_false, hw, hpi2, and_self, if_true, Int.toNat_natCast, c4 _ l4, Bool.false_eq_true, if_false, List.append_nil]
    | true => simp only [cond_true, cond_false, c2, hw, hpi2, and_self, if_true, Int.toNat_natCast, c3 _ l3]

/-! The reference: one change. -/
theorem specBefore_eq (a b : Row) : spec_l1Before.sem (a, b, ()) = some (befB (rk a) (rk b), ()) := by
  refine lift_eq (k := 0) fun k _ => (spec_l1Before.raw_eq k _).trans ?_
  show spec_l1Before.p _ = _
  unfold spec_l1Before.p befB rk
  by_cases h1 : a.1 < b.1 <;> by_cases h2 : a.1 = b.1 <;> simp [h1, h2]

theorem fnd_cons_lt {x : Row} {xs : List Row} {k : Int × Int} (h : befB (rk x) k = true) : fnd (x :: xs) k = fnd xs k := by
  unfold fnd
  simp only [pos, h, if_true, List.getElem?_cons_succ]
theorem fnd_mem {xs : List Row} {k : Int × Int} (h : fnd xs k = true) : ∃ y ∈ xs, rk y = k := by
  obtain ⟨hp, hk⟩ := fnd_lt h
  exact ⟨_, List.getElem_mem hp, hk⟩

theorem at_forI (k : Int × Int) : ∀ (xs : List Row) (j : Nat), up xs → forI (fun i (_ : Unit) x => if rk x = k then .inl ((i : Int), ()) else .inr ()) (fun _ => ((-1 : Int), ())) j xs () = if fnd xs k then (((j + pos xs k : Nat) : Int), ()) else (-1, ())
  | [], j, _ => by simp [forI, fnd]
  | x :: xs, j, hu => by
    have hu := up_cons.1 hu
    simp only [forI]
    by_cases hx : rk x = k
    · have hb : befB (rk x) k = false := by rw [hx]; exact befB_irr k
      have hf : fnd (x :: xs) k = true := by
        have hp0 : pos (x :: xs) k = 0 := by simp only [pos, hb, Bool.false_eq_true, if_false]
        unfold fnd
        rw [hp0]
        simp [hx]
      simp [hx, hf, pos, befB_irr]
    · simp only [hx, if_false]
      rw [at_forI k xs (j + 1) hu.2]
      cases hb : befB (rk x) k with
      | true =>
        rw [fnd_cons_lt hb]
        simp only [pos, hb, if_true]
        have : j + 1 + pos xs k = j + (pos xs k + 1) := by omega
        rw [this]
      | false =>
        have h1 : fnd (x :: xs) k = false := by simp [fnd, pos, hb, hx]
        have h2 : fnd xs k = false := by
          cases h : fnd xs k with
          | false => rfl
          | true =>
            obtain ⟨y, hy, e⟩ := fnd_mem h
            have := hu.1 y hy
            rw [e, hb] at this; cases this
        simp [h1, h2]

def atI (xs : List Row) (k : Int × Int) : Int := if fnd xs k then (pos xs k : Int) else -1
theorem specAt_eq (xs : List Row) (t k : Int) (hu : up xs) (hl : xs.length ≤ 2000000) : spec_l6At.sem (xs, t, k, ()) = some (atI xs (t, k), ()) := by
  refine lift_eq (k := xs.length + 1) fun f hf => (spec_l6At.raw_eq f _).trans ?_
  have := for_loop (B := fun self v => spec_l6At.B0 0 self (fun z => spec_l6At.Q0 0 (xs, t, k, ()) z) (xs, t, k, ()) v) xs (fun (_ : Unit) (i : Int) => i) (fun i _ x => if rk x = (t, k) then .inl ((i : Int), ()) else .inr ()) (fun _ => ((-1 : Int), ())) (fun _ _ => True) (by rw [maxLen_val]; omega)
    (fun i hi _ self _ => by
      show spec_l6At.b0 _ _ _ _ = _
      unfold spec_l6At.b0 rk
      have hlt : (i : Int) < (xs.length : Int) := by omega
      simp only [hlt, decide_true, cond_true, Int.natCast_nonneg, if_true, Int.toNat_natCast, List.getElem?_eq_getElem hi, Option.bind_some]
      by_cases h1 : xs[i].1 = t <;> by_cases h2 : xs[i].2.1 = k <;> simp [h1, h2]) (fun _ _ _ _ _ _ => trivial) (fun _ self _ => by
      show spec_l6At.b0 _ _ _ _ = _
      unfold spec_l6At.b0
      simp [spec_l6At.Q0, spec_l6At.q0]) () trivial f (by omega)
  rw [at_forI (t, k) xs 0 hu] at this
  have this : spec_l6At.r0 f (xs, t, k, ()) 0 = _ := this
  unfold spec_l6At.raw spec_l6At.p
  rw [this]
  unfold atI
  cases fnd xs (t, k) <;> simp <;> rfl

theorem pos_forI {O : Type} (k : Int × Int) (g : Nat → O) (n : Nat) : ∀ (xs : List Row) (j : Nat), j + xs.length = n → forI (fun i (_ : Unit) x => if befB (rk x) k then .inr () else .inl (g i)) (fun _ => g n) j xs () = g (j + pos xs k)
  | [], j, h => by simp [forI, pos] at *; rw [h]
  | x :: xs, j, h => by
    simp only [forI, pos]
    cases hb : befB (rk x) k with
    | true =>
      simp only [if_true]
      rw [pos_forI k g n xs (j + 1) (by simp at h; omega)]
      congr 1; omega
    | false => simp

def put1 (xs : List Row) (r : Row) : List Row := xs.take (pos xs (rk r)) ++ [r] ++ xs.drop (pos xs (rk r))
theorem specPut_eq (xs : List Row) (r : Row) (hl : xs.length ≤ 2000000) : spec_l6Put.sem (xs, r, ()) = some (put1 xs r, ()) := by
  refine lift_eq (k := xs.length + 1) fun f hf => (spec_l6Put.raw_eq f _).trans ?_
  have hq : ∀ i : Nat, i ≤ xs.length → spec_l6Put.Q0 0 (xs, r, ()) (i : Int) = some (xs.take i ++ [r] ++ xs.drop i, ()) := fun i hi => by
    show spec_l6Put.q0 _ _ = _
    unfold spec_l6Put.q0
    have hpi : 0 ≤ (i : Int) ∧ (i : Int) ≤ (xs.length : Int) := by omega
    have c1 : ([] : List Row).length + (List.take i xs).length ≤ CAP := cap_ok (by simp; omega)
    have c2 : (List.take i xs).length + [r].length ≤ CAP := cap_ok (by simp; omega)
    have c3 : (List.take i xs ++ [r]).length + (List.drop i xs).length ≤ CAP := cap_ok (by simp; omega)
    simp only [hpi, and_self, if_true, Int.toNat_natCast, c1, List.drop_zero, List.nil_append, List.take_length, c2, c3]
  have := for_loop (B := fun self v => spec_l6Put.B0 0 self (fun z => spec_l6Put.Q0 0 (xs, r, ()) z) (xs, r, ()) v) xs (fun (_ : Unit) (i : Int) => i) (fun i _ x => if befB (rk x) (rk r) then .inr () else .inl (xs.take i ++ [r] ++ xs.drop i, ())) (fun _ => (xs.take xs.length ++ [r] ++ xs.drop xs.length, ())) (fun _ _ => True) (by rw [maxLen_val]; omega)
    (fun i hi _ self _ => by
      show spec_l6Put.b0 _ _ _ _ = _
      unfold spec_l6Put.b0
      have hlt : (i : Int) < (xs.length : Int) := by omega
      simp only [hlt, decide_true, cond_true, Int.natCast_nonneg, if_true, Int.toNat_natCast, List.getElem?_eq_getElem hi, Option.bind_some, specBefore_eq]
      cases befB (rk xs[i]) (rk r) with
      | true => rfl
      | false => exact hq i (by omega)) (fun _ _ _ _ _ _ => trivial) (fun _ self _ => by
      show spec_l6Put.b0 _ _ _ _ = _
      unfold spec_l6Put.b0
      have hlt : ¬ (xs.length : Int) < (xs.length : Int) := by omega
      simp only [hlt, decide_false, cond_false]
      exact hq _ (Nat.le_refl _)) () trivial f (by omega)
  rw [pos_forI (rk r) (fun i => (xs.take i ++ [r] ++ xs.drop i, ())) xs.length xs 0 (by omega)] at this
  refine this.trans ?_
  simp [put1]

theorem rem_forI (t : Int) : ∀ (xs : List Row) (j : Nat) (s : List Row), forI (O := List Row × Unit) (fun i s x => if (i : Int) = t then .inr s else .inr (s ++ [x])) (fun s => (s, ())) j xs s = (s ++ (if (j : Int) ≤ t ∧ t < j + xs.length then xs.take (t - j).toNat ++ xs.drop ((t - j).toNat + 1) else xs), ())
  | [], j, s => by
    have : ¬ ((j : Int) ≤ t ∧ t < j + (([] : List Row).length : Int)) := fun h => by
      have h2 : (([] : List Row).length : Int) = 0 := rfl
      omega
    simp only [forI, this, if_false, List.append_nil]
  | x :: xs, j, s => by
    simp only [forI]
    by_cases h : (j : Int) = t
    · have h1 : ¬ (((j + 1 : Nat) : Int) ≤ t ∧ t < ((j + 1 : Nat) : Int) + (xs.length : Int)) := by omega
      have h2 : (j : Int) ≤ t ∧ t < (j : Int) + ((x :: xs).length : Int) := by simp; omega
      have h3 : (t - j).toNat = 0 := by omega
      simp only [h, if_true]
      rw [rem_forI t xs (j + 1) s, if_neg h1]
      rw [← h] at h2 ⊢
      have h3 : ((j : Int) - j).toNat = 0 := by omega
      rw [if_pos h2, h3]
      simp
    · simp only [h, if_false]
      rw [rem_forI t xs (j + 1) (s ++ [x])]
      by_cases hc : (j : Int) ≤ t ∧ t < (j : Int) + ((x :: xs).length : Int)
      · have hc2 : ((j + 1 : Nat) : Int) ≤ t ∧ t < ((j + 1 : Nat) : Int) + (xs.length : Int) := by simp at hc; omega
        have h3 : (t - j).toNat = (t - ((j + 1 : Nat) : Int)).toNat + 1 := by omega
        rw [if_pos hc, if_pos hc2, h3]
        simp
      · have hc2 : ¬ (((j + 1 : Nat) : Int) ≤ t ∧ t < ((j + 1 : Nat) : Int) + (xs.length : Int)) := by simp at hc; omega
        rw [if_neg hc, if_neg hc2]
        simp

/-- All but the row with a key. -/
def rem1 (xs : List Row) (k : Int × Int) : List Row := if fnd xs k then xs.take (pos xs k) ++ xs.drop (pos xs k + 1) else xs

theorem pos_append (k : Int × Int) : ∀ (l1 l2 : List Row), (∀ x ∈ l1, befB (rk x) k = true) → pos (l1 ++ l2) k = l1.length + pos l2 k
  | [], l2, _ => by simp
  | x :: l1, l2, h => by
    simp only [List.cons_append, pos, h x List.mem_cons_self, if_true, List.length_cons]
    rw [pos_append k l1 l2 fun y hy => h y (List.mem_cons_of_mem _ hy)]
    omega
theorem take_bef {xs : List Row} {k : Int × Int} {x : Row} (h : x ∈ xs.take (pos xs k)) : befB (rk x) k = true := by
  obtain ⟨i, hi, e⟩ := List.mem_iff_getElem.1 h
  have hp := pos_le xs k
  rw [List.length_take] at hi
  rw [List.getElem_take] at e
  rw [← e]
  exact pos_lt xs k i (by omega) (by omega)
theorem pos_drop {xs : List Row} {k : Int × Int} (hu : up xs) {n : Nat} (hn : pos xs k ≤ n) : pos (xs.drop n) k = 0 := by
  cases hd : xs.drop n with
  | nil => rfl
  | cons y ys =>
    have hlt : n < xs.length := by
      rcases Nat.lt_or_ge n xs.length with h | h
      · exact h
      · rw [List.drop_eq_nil_of_le h] at hd; cases hd
    rw [List.drop_eq_getElem_cons hlt] at hd
    injection hd with h1 h2
    simp only [pos]
    rw [← h1, up_not xs k n hlt hu hn]
    rfl
theorem put_rem {xs : List Row} {k : Int × Int} {r : Row} (hu : up xs) (hk : rk r = k) : put1 (rem1 xs k) r = xs.take (pos xs k) ++ [r] ++ xs.drop (pos xs k + if fnd xs k then 1 else 0) := by
  have hp := pos_le xs k
  have key : ∀ n, pos xs k ≤ n → pos (xs.take (pos xs k) ++ xs.drop n) k = pos xs k := fun n hn => by
    rw [pos_append k _ _ fun x hx => take_bef hx, pos_drop hu hn, List.length_take]
    omega
  have hl : (xs.take (pos xs k)).length = pos xs k := by rw [List.length_take]; omega
  unfold put1 rem1
  rw [hk]
  cases fnd xs k with
  | true =>
    simp only [if_true]
    rw [key _ (by omega), List.take_left' hl, List.drop_left' hl]
  | false =>
    simp

theorem specDo_eq (xs : List Row) (c : Change) (hu : up xs) (hl : xs.length ≤ 2000000) (hc : c.2.2.1 = true → rk c.2.2.2.1 = ck c) : spec_l6Do.sem (xs, c, ()) = some (if fits1 xs c then (done1 xs c, true, ()) else ([], false, ())) := by
  refine lift_eq (k := xs.length + 1) fun f hf => (spec_l6Do.raw_eq f _).trans ?_
  have hp := pos_le xs (ck c)
  have hlp := for_loop (B := fun self v => spec_l6Do.B0 0 self (fun z => spec_l6Do.Q0 0 (xs, c, ()) (atI xs (ck c)) z) (xs, c, ()) (atI xs (ck c)) v) (O := List Row × Bool × Unit) xs (fun (s : List Row) (i : Int) => (s, i)) (fun i s x => if (i : Int) = atI xs (ck c) then .inr s else .inr (s ++ [x]))
    (fun s => (if c.2.2.1 then put1 s c.2.2.2.1 else s, true, ())) (fun i s => s.length ≤ i) (by rw [maxLen_val]; omega)
    (fun i hi s self hI => by
      show spec_l6Do.b0 _ _ _ _ _ = _
      unfold spec_l6Do.b0
      have hlt : (i : Int) < (xs.length : Int) := by omega
      simp only [hlt, decide_true, cond_true, Int.natCast_nonneg, if_true, Int.toNat_natCast, List.getElem?_eq_getElem hi, Option.bind_some]
      have c2 : s.length + [xs[i]].length ≤ CAP := cap_ok (by simp; omega)
      by_cases h : (i : Int) = atI xs (ck c)
      · simp [h]
      · simp only [h, decide_false, Bool.not_false, cond_true, c2, if_true, if_false]) (fun i hi s s' hI hf => by
      split at hf <;> (injection hf with hf; rw [← hf]; first | omega | (simp; omega))) (fun s self hI => by
      show spec_l6Do.b0 _ _ _ _ _ = _
      unfold spec_l6Do.b0
      have hlt : ¬ (xs.length : Int) < (xs.length : Int) := by omega
      simp only [hlt, decide_false, cond_false, spec_l6Do.Q0, spec_l6Do.q0, specPut_eq s _ (by omega), Option.bind_some]
      cases c.2.2.1 <;> rfl) [] (Nat.le_refl _) f (by omega)
  have hfin : ∀ (xs0 : List Row) (j : Nat) (s : List Row), forI (O := List Row × Bool × Unit) (fun i s x => if (i : Int) = atI xs (ck c) then .inr s else .inr (s ++ [x])) (fun s => (if c.2.2.1 then put1 s c.2.2.2.1 else s, true, ())) j xs0 s
      = (fun s => (if c.2.2.1 then put1 s c.2.2.2.1 else s, true, ())) (forI (O := List Row × Unit) (fun i s x => if (i : Int) = atI xs (ck c) then .inr s else .inr (s ++ [x])) (fun s => (s, ())) j xs0 s).1 := by
    intro xs0
    induction xs0 with
    | nil => intro j s; rfl
    | cons x xs0 ih =>
      intro j s
      simp only [forI]
      by_cases h : (j : Int) = atI xs (ck c)
      · simp only [h, if_true]; exact ih _ _
      · simp only [h, if_false]; exact ih _ _
  rw [hfin, rem_forI (atI xs (ck c)) xs 0 []] at hlp
  have hrem : ([] ++ (if ((0 : Nat) : Int) ≤ atI xs (ck c) ∧ atI xs (ck c) < ((0 : Nat) : Int) + (xs.length : Int) then xs.take (atI xs (ck c) - ((0 : Nat) : Int)).toNat ++ xs.drop ((atI xs (ck c) - ((0 : Nat) : Int)).toNat + 1) else xs)) = rem1 xs (ck c) := by
    unfold atI rem1
    cases hfd : fnd xs (ck c) with
    | true =>
      obtain ⟨hpl, _⟩ := fnd_lt hfd
      simp only [if_true]
      rw [if_pos (by omega)]
      have : (((pos xs (ck c) : Nat) : Int) - ((0 : Nat) : Int)).toNat = pos xs (ck c) := by omega
      rw [this]; rfl
    | false => simp
  simp only [hrem] at hlp
  have hlp : spec_l6Do.r0 f (xs, c, ()) (atI xs (ck c)) (([] : List Row), (0 : Int)) = _ := hlp
  unfold spec_l6Do.raw spec_l6Do.p fits1
  simp only [specKey_eq, specAt_eq xs _ _ hu hl, Option.bind_some, hlp]
  have hdone : (if c.2.2.1 then put1 (rem1 xs (ck c)) c.2.2.2.1 else rem1 xs (ck c)) = done1 xs c := by
    unfold done1
    cases hi : c.2.2.1 with
    | true => simp only [if_true]; exact put_rem hu (hc hi)
    | false =>
      simp only [Bool.false_eq_true, if_false, List.append_nil]
      unfold rem1
      cases fnd xs (ck c) with
      | true => simp
      | false => simp
  rw [hdone]
  cases hfd : fnd xs (ck c) with
  | true =>
    obtain ⟨hpl, hk⟩ := fnd_lt hfd
    have ha : atI xs (ck c) = (pos xs (ck c) : Int) := by unfold atI; rw [hfd]; rfl
    simp only [ha, Int.natCast_nonneg, decide_true, cond_true, if_true, Int.toNat_natCast, List.getElem?_eq_getElem hpl, Option.bind_some]
    cases c.1 with
    | true => cases Ty.eq tRow xs[pos xs (ck c)] c.2.1 <;> rfl
    | false => rfl
  | false =>
    have ha : atI xs (ck c) = -1 := by unfold atI; rw [hfd]; rfl
    simp only [ha]
    cases c.1 <;> rfl
end OT
