/- Loops over slices, in plain Lean: with a state and early ends. -/
import Derived.Test.YtkimdiobckckiaaOUm
set_option linter.unusedVariables false
set_option linter.unusedSimpArgs false
namespace OT
open Go

/-- A walk along a slice: 'f' ends it or turns the state. -/
def forI {S O α : Type} (f : Nat → S → α → Sum O S) (fin : S → O) : Nat → List α → S → O
  | _, [], s => fin s
  | i, x :: xs, s => match f i s x with
    | .inl o => o
    | .inr s' => forI f fin (i + 1) xs s'

theorem for_loop {V S O α : Type} {B : (V → Option O) → V → Option O} (xs : List α) (enc : S → Int → V) (f : Nat → S → α → Sum O S) (fin : S → O) (I : Nat → S → Prop) (hmax : xs.length ≤ maxLen)
    (hin : ∀ (i : Nat) (hi : i < xs.length) (s : S) self, I i s → B self (enc s (i : Int)) = match f i s xs[i] with | .inl o => some o | .inr s' => self (enc s' (w64 ((i : Int) + 1))))
    (hI : ∀ (i : Nat) (hi : i < xs.length) (s s' : S), I i s → f i s xs[i] = .inr s' → I (i + 1) s')
    (hout : ∀ (s : S) self, I xs.length s → B self (enc s (xs.length : Int)) = some (fin s)) (s : S) (h0 : I 0 s) : ∀ k, xs.length < k → rawIter B k (enc s 0) = some (forI f fin 0 xs s) := by
  have main : ∀ (m i : Nat) (s : S), xs.length - i = m → i ≤ xs.length → I i s → ∀ k, m < k → rawIter B k (enc s (i : Int)) = some (forI f fin i (xs.drop i) s) := by
    intro m
    induction m with
    | zero =>
      intro i s hm hi hs k hk
      have hi' : i = xs.length := by omega
      subst hi'
      cases k with
      | zero => omega
      | succ k =>
        show B (rawIter B k) _ = _
        rw [hout s _ hs]
        simp [forI]
    | succ m ih =>
      intro i s hm hi hs k hk
      have hlt : i < xs.length := by omega
      cases k with
      | zero => omega
      | succ k =>
        show B (rawIter B k) _ = _
        rw [hin i hlt s _ hs, List.drop_eq_getElem_cons hlt]
        simp only [forI]
        cases hf : f i s xs[i] with
        | inl o => rfl
        | inr s' =>
          have hw : w64 ((i : Int) + 1) = ((i + 1 : Nat) : Int) := by rw [w64_in (by rw [maxLen_val] at hmax; omega)]; omega
          simp only [hw]
          exact ih (i + 1) s' (by omega) (by omega) (hI i hlt s s' hs hf) k (by omega)
  intro k hk
  simpa using main xs.length 0 s (by omega) (by omega) h0 k hk

theorem forI_congr {S O α : Type} {f g : Nat → S → α → Sum O S} {fin : S → O} : ∀ (xs : List α) (i : Nat) (s : S), (∀ j (hj : j < xs.length) s, f (i + j) s xs[j] = g (i + j) s xs[j]) → forI f fin i xs s = forI g fin i xs s
  | [], _, _, _ => rfl
  | x :: xs, i, s, h => by
    have h0 := h 0 (by simp) s
    simp only [Nat.add_zero, List.getElem_cons_zero] at h0
    simp only [forI, h0]
    split
    · rfl
    · exact forI_congr xs (i + 1) _ fun j hj s => by
        have := h (j + 1) (by simp; omega) s
        simp only [List.getElem_cons_succ] at this
        rw [show i + 1 + j = i + (j + 1) by omega]
        exact this

/-- A walk that asks the same of each. -/
theorem forI_check {O α : Type} (p : α → Bool) (bad : O) (fin : Unit → O) : ∀ (xs : List α) (i : Nat), forI (fun _ _ x => if p x then .inr () else .inl bad) fin i xs () = if xs.all p then fin () else bad
  | [], _ => rfl
  | x :: xs, i => by
    simp only [forI, List.all_cons]
    by_cases h : p x = true
    · simp [h, forI_check p bad fin xs (i + 1)]
    · simp [h]

/-- The first fault there is. -/
def firstF {α : Type} (c : α → Int) : List α → Int
  | [] => 0
  | x :: xs => if c x = 0 then firstF c xs else c x
theorem forI_first {O α : Type} (c : α → Int) (bad : Int → O) (fin : Unit → O) : ∀ (xs : List α) (i : Nat), forI (fun _ _ x => if c x = 0 then .inr () else .inl (bad (c x))) fin i xs () = if firstF c xs = 0 then fin () else bad (firstF c xs)
  | [], _ => rfl
  | x :: xs, i => by
    simp only [forI, firstF]
    by_cases h : c x = 0
    · simp [h, forI_first c bad fin xs (i + 1)]
    · simp [h]

theorem both_self {R : Type} (a : Option R) : both a a = a := by simp [both]
theorem nilB_eq {R α : Type} {v : List α} {a b r : Option R} (h1 : v = [] → a = r) (h2 : b = r) : nilB v a b = r := by
  cases v with
  | nil => rw [nilB, h1 rfl, h2, both_self]
  | cons _ _ => exact h2
theorem cap_ok {n : Nat} (h : n ≤ 200000000000) : n ≤ CAP := by simp only [CAP]; omega
end OT
