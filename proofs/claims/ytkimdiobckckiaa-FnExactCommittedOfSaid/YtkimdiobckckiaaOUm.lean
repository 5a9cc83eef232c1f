/- Loops that measure, mark and look at marks, in plain Lean. -/
import Derived.Test.YtkimdiobckckiaaOUl
set_option linter.unusedVariables false
set_option linter.unusedSimpArgs false
namespace OT
open Go

theorem rawIter_succ {V R : Type} (B : (V → Option R) → V → Option R) (k : Nat) (v : V) : rawIter B (k + 1) v = B (rawIter B k) v := rfl

def sumW {α : Type} (f : α → Nat) : List α → Nat
  | [] => 0
  | x :: xs => f x + sumW f xs
theorem sumW_mem {α : Type} (f : α → Nat) : ∀ (xs : List α) (x : α), x ∈ xs → f x ≤ sumW f xs
  | y :: xs, x, h => by
    simp only [sumW]
    rcases List.mem_cons.1 h with rfl | h
    · omega
    · have := sumW_mem f xs x h; omega
  | [], _, h => by cases h
theorem sumW_append {α : Type} (f : α → Nat) : ∀ (xs ys : List α), sumW f (xs ++ ys) = sumW f xs + sumW f ys
  | [], ys => by simp [sumW]
  | x :: xs, ys => by simp only [List.cons_append, sumW, sumW_append f xs ys]; omega
theorem sumW_zero {α : Type} (f : α → Nat) (h : ∀ x, f x = 0) : ∀ (xs : List α), sumW f xs = 0
  | [] => rfl
  | x :: xs => by simp [sumW, h x, sumW_zero f h xs]

theorem sumW_32 {α : Type} (f : α → Nat) : ∀ (xs : List α), sumW (fun x => 32 * (f x + 1)) xs = 32 * (xs.length + sumW f xs)
  | [] => rfl
  | x :: xs => by simp only [sumW, sumW_32 f xs, List.length_cons]; omega

/-- How much data there are. -/
def zz : (t : Ty) → t.den → Nat
  | .str, v => List.length v
  | .pair a b, v => zz a v.1 + zz b v.2
  | .slc e, v => List.length v + sumW (zz e) v
  | _, _ => 0
theorem zz_mem {e : Ty} {xs : List e.den} {x : e.den} (h : x ∈ xs) : zz e x + 1 ≤ zz (.slc e) xs := by
  have := sumW_mem (zz e) xs x h
  have : 1 ≤ xs.length := List.length_pos_of_mem h
  show _ ≤ List.length xs + _
  omega
theorem zz_len {e : Ty} (xs : List e.den) : xs.length ≤ zz (.slc e) xs := Nat.le_add_right _ _

theorem zz_cons {e : Ty} (x : e.den) (xs : List e.den) : zz (.slc e) (x :: xs) = zz e x + 1 + zz (.slc e) xs := by
  show (List.length xs + 1) + (zz e x + sumW (zz e) xs) = zz e x + 1 + (List.length xs + sumW (zz e) xs)
  omega
theorem zz_append {e : Ty} (xs ys : List e.den) : zz (.slc e) (xs ++ ys) = zz (.slc e) xs + zz (.slc e) ys := by
  show List.length (xs ++ ys) + sumW (zz e) (xs ++ ys) = List.length xs + sumW (zz e) xs + (List.length ys + sumW (zz e) ys)
  rw [sumW_append, List.length_append]
  omega

/-- What is left of a number behind data. -/
def lft (n : Int) (z : Nat) : Int := if (z : Int) ≤ n then n - z else -1

theorem sz_loop {α : Type} {B : ((Int × Int) → Option (Int × Unit)) → (Int × Int) → Option (Int × Unit)} {xs : List α} (hmax : xs.length ≤ maxLen) (z : α → Nat)
    (hin : ∀ (i : Nat) (hx : i < xs.length) (n : Int) self, 0 ≤ n → n ≤ 1048576 → B self (n, (i : Int)) = if lft n (z xs[i]) < 0 then some (-1, ()) else self (lft n (z xs[i]), w64 ((i : Int) + 1)))
    (hout : ∀ n self, B self (n, (xs.length : Int)) = some (n, ())) (n : Int) (h0 : 0 ≤ n) (h1 : n ≤ 1048576) :
    ∀ k, xs.length < k → rawIter B k (n, 0) = some (lft n (sumW z xs), ()) := by
  have main : ∀ (m i : Nat) (n : Int), xs.length - i = m → i ≤ xs.length → 0 ≤ n → n ≤ 1048576 → ∀ k, m < k → rawIter B k (n, (i : Int)) = some (lft n (sumW z (xs.drop i)), ()) := by
    intro m
    induction m with
    | zero =>
      intro i n hm hi h0 h1 k hk
      have hi' : i = xs.length := by omega
      subst hi'
      cases k with
      | zero => omega
      | succ k =>
        have : rawIter B (k + 1) (n, (xs.length : Int)) = some (n, ()) := hout n _
        rw [this]
        simp [lft, sumW, h0]
    | succ m ih =>
      intro i n hm hi h0 h1 k hk
      have hlt : i < xs.length := by omega
      rw [List.drop_eq_getElem_cons hlt]
      simp only [sumW]
      cases k with
      | zero => omega
      | succ k =>
        show B (rawIter B k) _ = _
        rw [hin i hlt n _ h0 h1]
        by_cases hz : (z xs[i] : Int) ≤ n
        · have e : lft n (z xs[i]) = n - (z xs[i] : Int) := if_pos hz
          have hneg : ¬ (n - (z xs[i] : Int) < 0) := by omega
          have hw : w64 ((i : Int) + 1) = ((i + 1 : Nat) : Int) := by rw [w64_in (by rw [maxLen_val] at hmax; omega)]; omega
          rw [e, if_neg hneg, hw, ih (i + 1) _ (by omega) (by omega) (by omega) (by omega) k (by omega)]
          unfold lft
          by_cases hc : ((sumW z (xs.drop (i + 1)) : Nat) : Int) ≤ n - (z xs[i] : Int)
          · rw [if_pos hc, if_pos (by omega)]
            have : n - (z xs[i] : Int) - (sumW z (xs.drop (i + 1)) : Nat) = n - ((z xs[i] + sumW z (xs.drop (i + 1)) : Nat) : Int) := by omega
            rw [this]
          · rw [if_neg hc, if_neg (by omega)]
        · have e : lft n (z xs[i]) = -1 := if_neg hz
          rw [e, if_pos (by omega)]
          unfold lft
          rw [if_neg (by omega)]
  intro k hk
  simpa using main xs.length 0 n (by omega) (by omega) h0 h1 k hk

theorem lft_neg {n : Int} {z : Nat} : lft n z < 0 ↔ ¬ (z : Int) ≤ n := by
  unfold lft; split <;> omega
theorem lft_add {n : Int} {a b : Nat} (h : (a : Int) ≤ n) : lft (n - a) b = lft n (a + b) := by
  unfold lft
  by_cases hc : (b : Int) ≤ n - a
  · rw [if_pos hc, if_pos (by omega)]; omega
  · rw [if_neg hc, if_neg (by omega)]

theorem get_self_set {α : Type} (xs : List α) (i : Nat) (a : α) (h : i < xs.length) : (xs.set i a)[i]? = some a := by simp [h]

/-- The greatest mark. -/
def BIG : Int := 4611686018427387904

/-- Marks, element by element. -/
def chain {α : Type} (E : α → Int → α → Int → Prop) (W : α → Nat) : List α → Int → List α → Int → Prop
  | [], k, ys, k' => ys = [] ∧ k' = k
  | x :: xs, k, ys, k' => ∃ y ys' k1, ys = y :: ys' ∧ 0 ≤ k ∧ k + W x ≤ BIG ∧ k ≤ k1 ∧ k1 ≤ k + W x ∧ E x k y k1 ∧ chain E W xs k1 ys' k'

theorem mark_loop {α : Type} {B : ((List α × Int × Int) → Option (Int × List α × Unit)) → (List α × Int × Int) → Option (Int × List α × Unit)} {xs : List α} (hmax : xs.length ≤ maxLen) (E : α → Int → α → Int → Prop) (W : α → Nat)
    (hE : ∀ x ∈ xs, ∀ k : Int, 0 ≤ k → k + W x ≤ BIG → ∃ y k', k ≤ k' ∧ k' ≤ k + W x ∧ E x k y k')
    (hin : ∀ (i : Nat) (acc : List α) (k : Int) self (x y : α) (k' : Int), i < acc.length → acc[i]? = some x → 0 ≤ k → k + W x ≤ BIG → k ≤ k' → k' ≤ k + W x → E x k y k' → B self (acc, k, (i : Int)) = self (acc.set i y, k', w64 ((i : Int) + 1)))
    (hout : ∀ (acc : List α) (k : Int) self, B self (acc, k, (acc.length : Int)) = some (k, acc, ())) (k : Int) (h0 : 0 ≤ k) (h1 : k + sumW W xs ≤ BIG) :
    ∃ ys k', k ≤ k' ∧ k' ≤ k + sumW W xs ∧ ys.length = xs.length ∧ chain E W xs k ys k' ∧ ∀ f, xs.length < f → rawIter B f (xs, k, 0) = some (k', ys, ()) := by
  have main : ∀ (rest pre : List α) (k : Int), (pre ++ rest).length ≤ maxLen → (∀ x ∈ rest, x ∈ xs) → 0 ≤ k → k + sumW W rest ≤ BIG →
      ∃ ys k', k ≤ k' ∧ k' ≤ k + sumW W rest ∧ ys.length = rest.length ∧ chain E W rest k ys k' ∧ ∀ f, rest.length < f → rawIter B f (pre ++ rest, k, (pre.length : Int)) = some (k', pre ++ ys, ()) := by
    intro rest
    induction rest with
    | nil =>
      intro pre k hm _ h0 h1
      refine ⟨[], k, Int.le_refl _, by simp [sumW], rfl, ⟨rfl, rfl⟩, fun f hf => ?_⟩
      cases f with
      | zero => simp at hf
      | succ f =>
        simp only [List.append_nil]
        exact hout pre k _
    | cons x rest ih =>
      intro pre k hm hx h0 h1
      simp only [sumW] at h1
      obtain ⟨y, k1, g1, g2, g3⟩ := hE x (hx x List.mem_cons_self) k h0 (by omega)
      obtain ⟨ys, k', i1, i2, i3, i4, i5⟩ := ih (pre ++ [y]) k1 (by simpa using hm) (fun z hz => hx z (List.mem_cons_of_mem _ hz)) (by omega) (by omega)
      refine ⟨y :: ys, k', by omega, by simp only [sumW]; omega, by simp [i3], ⟨y, ys, k1, rfl, h0, by omega, g1, g2, g3, i4⟩, fun f hf => ?_⟩
      cases f with
      | zero => omega
      | succ f =>
        show B (rawIter B f) _ = _
        have hlen : pre.length < (pre ++ x :: rest).length := by simp
        rw [hin pre.length (pre ++ x :: rest) k _ x y k1 hlen (by simp) h0 (by omega) g1 g2 g3]
        have hw : w64 ((pre.length : Int) + 1) = (((pre ++ [y]).length : Nat) : Int) := by
          have : pre.length + 1 ≤ maxLen := by have := hm; simp at this; omega
          rw [maxLen_val] at this
          rw [w64_in (by omega)]; simp
        have hs : (pre ++ x :: rest).set pre.length y = (pre ++ [y]) ++ rest := by simp
        rw [hw, hs, i5 f (by simp only [List.length_cons] at hf; omega)]
        simp
  obtain ⟨ys, k', i1, i2, i3, i4, i5⟩ := main xs [] k (by simpa using hmax) (fun x h => h) h0 h1
  exact ⟨ys, k', i1, i2, i3, i4, fun f hf => by simpa using i5 f hf⟩

theorem held_loop {α : Type} {ys : List α} {B : ((Int × Int) → Option (Int × Unit)) → (Int × Int) → Option (Int × Unit)} {xs : List α} {k k' : Int} (hmax : ys.length ≤ maxLen) {E : α → Int → α → Int → Prop} {W : α → Nat} (hc : chain E W xs k ys k')
    (hin : ∀ (i : Nat) (k : Int) self (x y : α) (k' : Int), i < ys.length → ys[i]? = some y → 0 ≤ k → k + W x ≤ BIG → k ≤ k' → k' ≤ k + W x → E x k y k' → B self (k, (i : Int)) = self (k', w64 ((i : Int) + 1)))
    (hout : ∀ (k : Int) self, B self (k, (ys.length : Int)) = some (k, ())) : ∀ f, ys.length < f → rawIter B f (k, 0) = some (k', ()) := by
  have main : ∀ (xs ys' pre : List α) (k : Int), pre ++ ys' = ys → chain E W xs k ys' k' → ∀ f, ys'.length < f → rawIter B f (k, (pre.length : Int)) = some (k', ()) := by
    intro xs
    induction xs with
    | nil =>
      intro ys' pre k hp hc f hf
      obtain ⟨rfl, rfl⟩ := hc
      cases f with
      | zero => simp at hf
      | succ f =>
        have := hout k' (rawIter B f)
        have e : pre = ys := by simpa using hp
        subst e
        exact this
    | cons x xs ih =>
      intro ys' pre k hp hc f hf
      obtain ⟨y, ys2, k1, rfl, c1, c2, c3, c4, c5, c6⟩ := hc
      cases f with
      | zero => omega
      | succ f =>
        show B (rawIter B f) _ = _
        have hl : pre.length < ys.length := by rw [← hp]; simp
        rw [hin pre.length k _ x y k1 hl (by rw [← hp]; simp) c1 c2 c3 c4 c5]
        have hw : w64 ((pre.length : Int) + 1) = (((pre ++ [y]).length : Nat) : Int) := by
          have : pre.length + 1 ≤ maxLen := by omega
          rw [maxLen_val] at this
          rw [w64_in (by omega)]; simp
        rw [hw]
        exact ih ys2 (pre ++ [y]) k1 (by rw [← hp]; simp) c6 f (by simp only [List.length_cons] at hf; omega)
  intro f hf
  simpa using main xs ys [] k rfl hc f hf
theorem chain_len {α : Type} {E : α → Int → α → Int → Prop} {W : α → Nat} : ∀ {xs : List α} {k : Int} {ys : List α} {k' : Int}, chain E W xs k ys k' → ys.length = xs.length
  | [], _, _, _, ⟨h, _⟩ => by rw [h]
  | x :: xs, _, _, _, ⟨y, ys', k1, e, _, _, _, _, _, h⟩ => by rw [e]; simp [chain_len h]
end OT
