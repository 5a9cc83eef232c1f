/- Loops that walk along slices, in plain Lean. -/
import Derived.Test.YtkimdiobckckiaaOUk
import Derived.Laws.BitsLemmas
namespace OT
open Go

theorem w64_in {n : Int} (h : -9223372036854775808 ≤ n ∧ n ≤ 9223372036854775807) : w64 n = n := by
  unfold w64
  rw [IntKind.wrap_i64]
  omega

theorem maxLen_val : maxLen = 9223372036854775807 := by simp [maxLen]

/-- Rounds that go on till something is reached: 'f': what comes of it, 'μ': how far it is. -/
theorem rawIter_eq {V R : Type} {B : (V → Option R) → V → Option R} (f : V → R) (I : V → Prop) (μ : V → Nat)
    (h : ∀ v, I v → ∀ self, B self v = some (f v) ∨ ∃ v', B self v = self v' ∧ f v' = f v ∧ I v' ∧ μ v' < μ v) : ∀ (k : Nat) (v : V), I v → μ v < k → rawIter B k v = some (f v)
  | 0, v, _, hk => by omega
  | k + 1, v, hI, hk => by
    show B (rawIter B k) v = some (f v)
    rcases h v hI (rawIter B k) with h1 | ⟨v', h1, h2, h3, h4⟩
    · exact h1
    · rw [h1, rawIter_eq f I μ h k v' h3 (by omega), h2]

/-- Two slices are alike, element by element. -/
def allB {α : Type} (e : α → α → Bool) (xs ys : List α) : Bool := (xs.zip ys).all fun p => e p.1 p.2

theorem allB_drop {α : Type} (e : α → α → Bool) (xs ys : List α) (i : Nat) (hx : i < xs.length) (hy : i < ys.length) : allB e (xs.drop i) (ys.drop i) = (e xs[i] ys[i] && allB e (xs.drop (i + 1)) (ys.drop (i + 1))) := by
  unfold allB
  rw [List.drop_eq_getElem_cons hx, List.drop_eq_getElem_cons hy]
  simp only [List.zip_cons_cons, List.all_cons]

/-- A loop that compares. -/
theorem all_loop {α : Type} {B : (Int → Option (Bool × Unit)) → Int → Option (Bool × Unit)} {xs ys : List α} (e : α → α → Bool) (hlen : xs.length = ys.length) (hmax : xs.length ≤ maxLen)
    (hin : ∀ (i : Nat) (hx : i < xs.length) (hy : i < ys.length) self, B self (i : Int) = if e xs[i] ys[i] = true then self (w64 ((i : Int) + 1)) else some (false, ()))
    (hout : ∀ self, B self (xs.length : Int) = some (true, ())) : ∀ k, xs.length < k → rawIter B k 0 = some (allB e xs ys, ()) := by
  intro k hk
  have h := rawIter_eq (B := B) (fun v => (allB e (xs.drop v.toNat) (ys.drop v.toNat), ())) (fun v => 0 ≤ v ∧ v ≤ (xs.length : Int)) (fun v => xs.length - v.toNat) (fun v hv self => by
    obtain ⟨h0, h1⟩ := hv
    obtain ⟨i, rfl⟩ := Int.eq_ofNat_of_zero_le h0
    simp only [Int.toNat_natCast]
    by_cases hi : i < xs.length
    · have hy : i < ys.length := by omega
      rw [allB_drop e xs ys i hi hy, hin i hi hy]
      cases he : e xs[i] ys[i] with
      | true =>
        right
        have hw : w64 ((i : Int) + 1) = ((i + 1 : Nat) : Int) := by rw [w64_in (by rw [maxLen_val] at hmax; omega)]; omega
        refine ⟨_, by rw [hw]; rfl, by simp, by omega, ?_⟩
        simp only [Int.toNat_natCast]; omega
      | false => left; simp
    · have hi' : i = xs.length := by omega
      subst hi'
      left
      rw [hout]
      simp [allB]) k 0 ⟨by omega, by omega⟩ (by simpa using hk)
  simpa using h

/-- A loop that lays elements into a new slice: each is what it was. -/
theorem copy_loop {α : Type} {B : ((List α × Int) → Option (List α × Unit)) → (List α × Int) → Option (List α × Unit)} {xs : List α} (hmax : xs.length ≤ maxLen)
    (hin : ∀ (i : Nat) (hx : i < xs.length) (acc : List α) self, acc.length = xs.length → B self (acc, (i : Int)) = self (acc.set i xs[i], w64 ((i : Int) + 1)))
    (hout : ∀ acc self, B self (acc, (xs.length : Int)) = some (acc, ())) (z : α) : ∀ k, xs.length < k → rawIter B k (List.replicate xs.length z, 0) = some (xs, ()) := by
  intro k hk
  refine rawIter_eq (B := B) (fun _ => (xs, ())) (fun v => 0 ≤ v.2 ∧ v.2 ≤ (xs.length : Int) ∧ v.1.length = xs.length ∧ ∀ j, j < v.2.toNat → v.1[j]? = xs[j]?) (fun v => xs.length - v.2.toNat) (fun v hv self => ?_) k _ ⟨by simp, by simp, by simp, by simp⟩ (by simpa using hk)
  obtain ⟨acc, i⟩ := v
  obtain ⟨h0, h1, h2, h3⟩ := hv
  simp only at h0 h1 h2 h3
  obtain ⟨i, rfl⟩ := Int.eq_ofNat_of_zero_le h0
  simp only [Int.toNat_natCast] at h3 ⊢
  by_cases hi : i < xs.length
  · right
    have hw : w64 ((i : Int) + 1) = ((i + 1 : Nat) : Int) := by rw [w64_in (by rw [maxLen_val] at hmax; omega)]; omega
    refine ⟨(acc.set i xs[i], ((i + 1 : Nat) : Int)), by rw [hin i hi acc self h2, hw], trivial, ⟨by omega, by simp only; omega, by simpa using h2, fun j hj => ?_⟩, ?_⟩
    · simp only [Int.toNat_natCast] at hj
      by_cases hji : j = i
      · subst hji; simp [h2, hi]
      · simp only [List.getElem?_set]
        rw [if_neg (fun e => hji e.symm)]
        exact h3 j (by omega)
    · simp only [Int.toNat_natCast]; omega
  · have hi' : i = xs.length := by omega
    subst hi'
    left
    rw [hout]
    have : acc = xs := List.ext_getElem? fun j => by
      by_cases hj : j < xs.length
      · exact h3 j hj
      · rw [List.getElem?_eq_none (by omega), List.getElem?_eq_none (by omega)]
    rw [this]

/-- A loop that counts down what is left; it may end below. 's': what an element leaves of a number. -/
theorem size_loop {α : Type} {B : ((Int × Int) → Option (Int × Unit)) → (Int × Int) → Option (Int × Unit)} {xs : List α} (hmax : xs.length ≤ maxLen) (s : α → Int → Int)
    (hin : ∀ (i : Nat) (hx : i < xs.length) (n : Int) self, 0 ≤ n → n ≤ 1048576 → B self (n, (i : Int)) = if s xs[i] n < 0 then some (-1, ()) else self (s xs[i] n, w64 ((i : Int) + 1)))
    (hs : ∀ (i : Nat) (hx : i < xs.length) (n : Int), 0 ≤ n → n ≤ 1048576 → s xs[i] n ≤ n)
    (hout : ∀ n self, B self (n, (xs.length : Int)) = some (n, ())) (n : Int) (h0 : 0 ≤ n) (h1 : n ≤ 1048576) :
    ∃ r : Int, r ≤ n ∧ (0 ≤ r → ∀ x ∈ xs, ∃ n', 0 ≤ n' ∧ n' ≤ n ∧ 0 ≤ s x n') ∧ ∀ k, xs.length < k → rawIter B k (n, 0) = some (r, ()) := by
  -- from any place on
  have main : ∀ (m i : Nat) (n : Int), xs.length - i = m → i ≤ xs.length → 0 ≤ n → n ≤ 1048576 → ∃ r : Int, r ≤ n ∧ (0 ≤ r → ∀ x ∈ xs.drop i, ∃ n', 0 ≤ n' ∧ n' ≤ n ∧ 0 ≤ s x n') ∧ ∀ k, m < k → rawIter B k (n, (i : Int)) = some (r, ()) := by
    intro m
    induction m with
    | zero =>
      intro i n hm hi h0 h1
      have hi' : i = xs.length := by omega
      subst hi'
      refine ⟨n, Int.le_refl _, fun _ x hx => by simp at hx, fun k hk => ?_⟩
      cases k with
      | zero => omega
      | succ k => exact hout n _
    | succ m ih =>
      intro i n hm hi h0 h1
      have hlt : i < xs.length := by omega
      have hle := hs i hlt n h0 h1
      by_cases hneg : s xs[i] n < 0
      · refine ⟨-1, by omega, fun h => by omega, fun k hk => ?_⟩
        cases k with
        | zero => omega
        | succ k => show B (rawIter B k) _ = _; rw [hin i hlt n _ h0 h1, if_pos hneg]
      · obtain ⟨r, h2, h3, h4⟩ := ih (i + 1) (s xs[i] n) (by omega) (by omega) (by omega) (by omega)
        have hw : w64 ((i : Int) + 1) = ((i + 1 : Nat) : Int) := by rw [w64_in (by rw [maxLen_val] at hmax; omega)]; omega
        refine ⟨r, by omega, fun h x hx => ?_, fun k hk => ?_⟩
        · rw [List.drop_eq_getElem_cons hlt] at hx
          rcases List.mem_cons.1 hx with rfl | hx
          · exact ⟨n, h0, Int.le_refl _, by omega⟩
          · obtain ⟨n', g1, g2, g3⟩ := h3 h x hx
            exact ⟨n', g1, by omega, g3⟩
        · cases k with
          | zero => omega
          | succ k =>
            show B (rawIter B k) _ = _
            rw [hin i hlt n _ h0 h1, if_neg hneg, hw]
            exact h4 k (by omega)
  obtain ⟨r, h2, h3, h4⟩ := main xs.length 0 n (by omega) (by omega) h0 h1
  exact ⟨r, h2, by simpa using h3, h4⟩
end OT
