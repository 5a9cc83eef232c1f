/- Runs and records: what the program and the reference find at fault and pack; conditions on the lengths alone. -/
import Derived.Test.YtnpccifddodjlaaXH
import Derived.Test.YtnpccifddodjlaaOUn
set_option linter.unusedVariables false
set_option linter.unusedSimpArgs false
namespace OT
open Go

theorem specIn_eq (a b c : Int) : spec_l1In.sem (a, b, c, ()) = some (decide (b ≤ a) && decide (a ≤ c), ()) := by
  refine lift_eq (k := 0) fun k _ => (spec_l1In.raw_eq k _).trans ?_
  show spec_l1In.p _ = _
  unfold spec_l1In.p
  by_cases h : b ≤ a <;> simp [h]
theorem implIn_eq (a b c : Int) : impl_in.sem (a, b, c, ()) = some (decide (b ≤ a) && decide (a ≤ c), ()) := by
  refine lift_eq (k := 0) fun k _ => (impl_in.raw_eq k _).trans ?_
  show impl_in.p _ = _
  unfold impl_in.p
  by_cases h : b ≤ a <;> simp [h]
theorem isTx_eq (a : Int) : impl_isTx.sem (a, ()) = some (decide (1 ≤ a) && decide (a ≤ 99), ()) := by
  refine lift_eq (k := 0) fun k _ => (impl_isTx.raw_eq k _).trans ?_
  show impl_isTx.p _ = _
  unfold impl_isTx.p
  simp [implIn_eq]
def inB (a b c : Int) : Bool := decide (b ≤ a) && decide (a ≤ c)

theorem implCopied_eq (s : List UInt8) (h : s.length ≤ 200000000000) : impl_copied.sem (s, ()) = some (s, ()) := by
  refine lift_eq (k := 0) fun k _ => (impl_copied.raw_eq k _).trans ?_
  show impl_copied.p _ = _
  unfold impl_copied.p
  have : ([] : List UInt8).length + s.length ≤ CAP := cap_ok (by simpa using h)
  rw [if_pos this, List.nil_append]
theorem specCopy_eq (s : List UInt8) (h : s.length ≤ 200000000000) : spec_l2Copy.sem (s, ()) = some (s, ()) := by
  refine lift_eq (k := 0) fun k _ => (spec_l2Copy.raw_eq k _).trans ?_
  show spec_l2Copy.p _ = _
  unfold spec_l2Copy.p
  have : ([] : List UInt8).length + s.length ≤ CAP := cap_ok (by simpa using h)
  rw [if_pos this, List.nil_append]

theorem forI_all {S O α : Type} {g : Nat → S → α → S} {fin : S → O} {f : Nat → S → α → Sum O S} (hf : ∀ i s x, f i s x = .inr (g i s x)) : ∀ (xs : List α) (i : Nat) (s : S), forI f fin i xs s = forI (fun i s x => .inr (g i s x)) fin i xs s
  | [], _, _ => rfl
  | x :: xs, i, s => by simp only [forI, hf]; exact forI_all hf xs _ _
theorem forI_fold {S O α : Type} {g : S → α → S} {fin : S → O} : ∀ (xs : List α) (i : Nat) (s : S), forI (fun _ s x => .inr (g s x)) fin i xs s = fin (xs.foldl g s)
  | [], _, _ => rfl
  | x :: xs, i, s => by simp only [forI, List.foldl_cons]; exact forI_fold xs _ _

/-! Runs. -/
def bl (x : Run) : Int := (List.length x.2.1 : Int)
def runStep (s : Int) (x : Run) : Sum (Int × Unit) Int :=
  if inB x.1 0 63 then (if inB (bl x) 1 64 then (if 64 < x.1 + bl x then .inl (3, ()) else if x.1 < s then .inl (1, ()) else .inr (x.1 + bl x + 1)) else .inl (3, ())) else .inl (3, ())
def runsL (s : Int) (xs : List Run) : Int := (forI (fun _ s x => runStep s x) (fun _ => ((0 : Int), ())) 0 xs s).1
def runsF (xs : List Run) : Int := if 64 < xs.length then 2 else runsL 0 xs

theorem step_good {s s' : Int} {x : Run} (h : runStep s x = .inr s') : 0 ≤ x.1 ∧ x.1 ≤ 63 ∧ 1 ≤ bl x ∧ bl x ≤ 64 ∧ x.1 + bl x ≤ 64 ∧ s ≤ x.1 ∧ s' = x.1 + bl x + 1 := by
  unfold runStep at h
  split at h
  · rename_i h1
    split at h
    · rename_i h2
      split at h
      · cases h
      · split at h
        · cases h
        · injection h with h
          simp only [inB, Bool.and_eq_true, decide_eq_true_eq] at h1 h2
          omega
    · cases h
  · cases h
theorem step_bad {s : Int} {x : Run} {o : Int × Unit} (h : runStep s x = .inl o) : o.1 ≠ 0 := by
  unfold runStep at h
  split at h
  · split at h
    · split at h
      · injection h with h; subst h; decide
      · split at h
        · injection h with h; subst h; decide
        · cases h
    · injection h with h; subst h; decide
  · injection h with h; subst h; decide

theorem forI_ix {S O α : Type} {f : S → α → Sum O S} {fin : S → O} : ∀ (xs : List α) (i j : Nat) (s : S), forI (fun _ s x => f s x) fin i xs s = forI (fun _ s x => f s x) fin j xs s
  | [], _, _, _ => rfl
  | x :: xs, i, j, s => by
    simp only [forI]
    split
    · rfl
    · exact forI_ix xs _ _ _
theorem runsL_cons (s : Int) (x : Run) (xs : List Run) : runsL s (x :: xs) = match runStep s x with | .inl o => o.1 | .inr s' => runsL s' xs := by
  unfold runsL
  simp only [forI]
  cases h : runStep s x with
  | inl o => rfl
  | inr s' => simp only; rw [forI_ix xs 1 0]
theorem runsL_good : ∀ (xs : List Run) (s : Int), runsL s xs = 0 → ∀ x ∈ xs, 0 ≤ x.1 ∧ x.1 ≤ 63 ∧ 1 ≤ bl x ∧ bl x ≤ 64
  | [], _, _, _, hx => by cases hx
  | y :: ys, s, h, x, hx => by
    rw [runsL_cons] at h
    cases hs : runStep s y with
    | inl o => rw [hs] at h; exact absurd h (step_bad hs)
    | inr s' =>
      rw [hs] at h
      have := step_good hs
      rcases List.mem_cons.1 hx with e | e
      · subst e; omega
      · exact runsL_good ys s' h x e
theorem runsF_good {xs : List Run} (h : runsF xs = 0) : List.length xs ≤ 64 ∧ ∀ x ∈ xs, 0 ≤ x.1 ∧ x.1 ≤ 63 ∧ 1 ≤ bl x ∧ bl x ≤ 64 := by
  unfold runsF at h
  split at h
  · cases h
  · exact ⟨by omega, runsL_good xs 0 h⟩
theorem runsF_one {y z : Run} {ys : List Run} (h : runsF (y :: z :: ys) = 0) : List.length y.2.1 ≠ 64 := by
  unfold runsF at h
  split at h
  · cases h
  · rw [runsL_cons] at h
    cases hs : runStep 0 y with
    | inl o => rw [hs] at h; exact absurd h (step_bad hs)
    | inr s' =>
      rw [hs] at h
      have h1 := step_good hs
      simp only [runsL_cons] at h
      cases hs2 : runStep s' z with
      | inl o => rw [hs2] at h; exact absurd h (step_bad hs2)
      | inr s2 =>
        have h2 := step_good hs2
        have : bl y = (List.length y.2.1 : Int) := rfl
        omega

theorem implRuns_eq (xs : List Run) : impl_RunsFault.sem (xs, ()) = some (runsF xs, ()) := by
  refine lift_eq (k := 66) fun k hk => (impl_RunsFault.raw_eq k _).trans ?_
  unfold impl_RunsFault.raw impl_RunsFault.p runsF
  by_cases hl : 64 < xs.length
  · have : (64 : Int) < (xs.length : Int) := by omega
    simp only [hl, this, decide_true, cond_true, if_true]
    rfl
  have hl' : ¬ (64 : Int) < (xs.length : Int) := by omega
  have := for_loop (B := fun self v => impl_RunsFault.B0 0 self (fun z => impl_RunsFault.Q0 0 (xs, ()) z) (xs, ()) v) xs (fun (s : Int) (i : Int) => (s, i)) (fun _ s x => runStep s x) (fun _ => (0, ())) (fun _ _ => True) (by rw [maxLen_val]; omega)
    (fun i hi s self _ => by
      show impl_RunsFault.b0 _ _ _ _ = _
      unfold impl_RunsFault.b0
      have hlt : (i : Int) < (xs.length : Int) := by omega
      simp only [hlt, decide_true, cond_true, Int.natCast_nonneg, if_true, Int.toNat_natCast, List.getElem?_eq_getElem hi, Option.bind_some, implIn_eq]
      generalize xs[i] = x
      unfold runStep bl inB
      by_cases a1 : (0 : Int) ≤ x.1
      rotate_left
      · simp [a1]
      by_cases a2 : x.1 ≤ 63
      rotate_left
      · simp [a2]
      by_cases a3 : (1 : Int) ≤ (List.length x.2.1 : Int)
      rotate_left
      · simp [a1, a2, a3]
      by_cases a4 : (List.length x.2.1 : Int) ≤ 64
      rotate_left
      · simp [a1, a2, a4]
      have e1 : w64 (x.1 + (List.length x.2.1 : Int)) = x.1 + (List.length x.2.1 : Int) := w64_in (by omega)
      have e2 : w64 (x.1 + (List.length x.2.1 : Int) + 1) = x.1 + (List.length x.2.1 : Int) + 1 := w64_in (by omega)
      simp only [a1, a2, a3, a4, e1, e2, decide_true, Bool.and_self, Bool.not_true, cond_false, if_true]
      by_cases a5 : 64 < x.1 + (List.length x.2.1 : Int)
      · simp [a5]
      by_cases a6 : x.1 < s
      · simp [a5, a6]
      simp [a5, a6]) (fun _ _ _ _ _ _ => trivial) (fun s self _ => by
      show impl_RunsFault.b0 _ _ _ _ = _
      unfold impl_RunsFault.b0
      simp [impl_RunsFault.Q0, impl_RunsFault.q0]) 0 trivial k (by omega)
  simp only [hl, if_false, hl', decide_false, cond_false]
  exact this

theorem specRuns_eq (xs : List Run) : spec_l3Fault.sem (xs, ()) = some (runsF xs, ()) := by
  refine lift_eq (k := 66) fun k hk => (spec_l3Fault.raw_eq k _).trans ?_
  unfold spec_l3Fault.raw spec_l3Fault.p runsF
  by_cases hl : 64 < xs.length
  · have : (64 : Int) < (xs.length : Int) := by omega
    simp only [hl, this, decide_true, cond_true, if_true]
    rfl
  have hl' : ¬ (64 : Int) < (xs.length : Int) := by omega
  have := for_loop (B := fun self v => spec_l3Fault.B0 0 self (fun z => spec_l3Fault.Q0 0 (xs, ()) z) (xs, ()) v) xs (fun (s : Int) (i : Int) => i) (fun _ s x => runStep s x) (fun _ => (0, ()))
    (fun i s => (i = 0 → s = 0) ∧ ∀ y, 0 < i → xs[i - 1]? = some y → 0 ≤ y.1 ∧ y.1 ≤ 63 ∧ bl y ≤ 64 ∧ s = y.1 + bl y + 1) (by rw [maxLen_val]; omega)
    (fun i hi s self hI => by
      show spec_l3Fault.b0 _ _ _ _ = _
      unfold spec_l3Fault.b0
      have hlt : (i : Int) < (xs.length : Int) := by omega
      simp only [hlt, decide_true, cond_true, Int.natCast_nonneg, if_true, Int.toNat_natCast, List.getElem?_eq_getElem hi, Option.bind_some, specIn_eq]
      generalize xs[i] = x
      unfold runStep bl inB
      by_cases a1 : (0 : Int) ≤ x.1
      rotate_left
      · simp [a1]
      by_cases a2 : x.1 ≤ 63
      rotate_left
      · simp [a2]
      by_cases a3 : (1 : Int) ≤ (List.length x.2.1 : Int)
      rotate_left
      · simp [a1, a2, a3]
      by_cases a4 : (List.length x.2.1 : Int) ≤ 64
      rotate_left
      · simp [a1, a2, a4]
      have e1 : w64 (x.1 + (List.length x.2.1 : Int)) = x.1 + (List.length x.2.1 : Int) := w64_in (by omega)
      simp only [a1, a2, a3, a4, e1, decide_true, Bool.and_self, Bool.not_true, cond_false, if_true]
      by_cases a5 : 64 < x.1 + (List.length x.2.1 : Int)
      · simp [a5]
      by_cases h0 : i = 0
      · subst h0
        have := hI.1 rfl
        subst this
        have a6 : ¬ x.1 < 0 := by omega
        simp [a5, a6]
      · have hi1 : i - 1 < xs.length := by omega
        obtain ⟨y0, y1, y2, y3⟩ := hI.2 xs[i - 1] (by omega) (List.getElem?_eq_getElem hi1)
        have hp : (0 : Int) < (i : Int) := by omega
        have ew : w64 ((i : Int) - 1) = ((i - 1 : Nat) : Int) := by rw [w64_in (by omega)]; omega
        unfold bl at y2 y3
        have e2 : w64 ((xs[i - 1]).1 + (List.length (xs[i - 1]).2.1 : Int)) = (xs[i - 1]).1 + (List.length (xs[i - 1]).2.1 : Int) := w64_in (by omega)
        simp only [a5, hp, ew, e2, decide_true, decide_false, cond_true, cond_false, Int.natCast_nonneg, if_true, if_false, Int.toNat_natCast, List.getElem?_eq_getElem hi1, Option.bind_some]
        by_cases a6 : x.1 < s
        · have : x.1 ≤ (xs[i - 1]).1 + (List.length (xs[i - 1]).2.1 : Int) := by omega
          simp [a6, this]
        · have : ¬ x.1 ≤ (xs[i - 1]).1 + (List.length (xs[i - 1]).2.1 : Int) := by omega
          simp [a6, this])
    (fun i hi s s' _ hs => ⟨fun e => by omega, fun y _ hy => by
      rw [Nat.add_sub_cancel, List.getElem?_eq_getElem hi] at hy
      injection hy with hy; subst hy
      have := step_good hs
      omega⟩) (fun s self _ => by
      show spec_l3Fault.b0 _ _ _ _ = _
      unfold spec_l3Fault.b0
      simp [spec_l3Fault.Q0, spec_l3Fault.q0]) 0 ⟨fun _ => rfl, fun y h => by omega⟩ k (by omega)
  simp only [hl, if_false, hl', decide_false, cond_false]
  exact this

/-! Records. -/
def headF (k : Int) (xs : List Run) : Int := match xs with
  | [] => 1
  | y :: _ => if decide (k = 4) && !decide (List.length y.2.1 = 64) then 1 else 0
def recF (r : Record) : Int :=
  if !inB r.1 1 6 || (!inB r.1 2 4 && (!decide (r.2.2.1 = 0) || decide (0 < List.length r.2.2.2.1))) || (decide (r.1 = 4) && !decide (r.2.1 = 0)) then 1
  else if (!decide (r.1 = 4) && !inB r.2.1 1 99) || !inB r.2.2.1 0 11 then 3
  else if !inB r.1 2 4 then 0
  else if runsF r.2.2.2.1 = 0 then headF r.1 r.2.2.2.1 else runsF r.2.2.2.1

theorem spec4Runs_eq (k : Int) : spec_l4Runs.sem (k, ()) = some (inB k 2 4, ()) := by
  refine lift_eq (k := 0) fun n _ => (spec_l4Runs.raw_eq n _).trans ?_
  show spec_l4Runs.p _ = _
  unfold spec_l4Runs.p
  simp [specIn_eq, inB]
theorem turns_eq (k : Int) : impl_turns.sem (k, ()) = some (inB k 2 4, ()) := by
  refine lift_eq (k := 0) fun n _ => (impl_turns.raw_eq n _).trans ?_
  show impl_turns.p _ = _
  unfold impl_turns.p inB
  by_cases h1 : k = 2
  · subst h1; rfl
  by_cases h2 : k = 3
  · subst h2; rfl
  by_cases h3 : k = 4
  · subst h3; rfl
  have : (decide ((2 : Int) ≤ k) && decide (k ≤ 4)) = false := by
    by_cases h4 : (2 : Int) ≤ k
    · have : ¬ k ≤ 4 := by omega
      simp [this]
    · simp [h4]
  simp [h1, h2, h3, this]

theorem specRec_eq (r : Record) : spec_l4Fault.sem (r, ()) = some (recF r, ()) := by
  obtain ⟨k, t, p, xs, ⟨⟩⟩ := r
  refine lift_eq (k := 0) fun n _ => (spec_l4Fault.raw_eq n _).trans ?_
  show spec_l4Fault.p _ = _
  unfold spec_l4Fault.p recF
  simp only [specIn_eq, spec4Runs_eq, specRuns_eq, Option.bind_some, show ∀ a b c : Int, (decide (b ≤ a) && decide (a ≤ c)) = inB a b c from fun _ _ _ => rfl]
  have h0 : decide ((0 : Int) < (xs.length : Int)) = decide (0 < xs.length) := by simp
  have hj : (spec_l3Fault.sem (xs, ())) = some (runsF xs, ()) := specRuns_eq xs
  rw [h0]
  have hh : (bif decide ((List.length xs : Int) = 0) then some ((1 : Int), ()) else bif decide (k = 4) then (xs[0]?).bind fun x23 => bif !decide ((List.length x23.2.1 : Int) = 64) then some ((1 : Int), ()) else some (0, ()) else some (0, ())) = some (headF k xs, ()) := by
    cases xs with
    | nil => rfl
    | cons y ys =>
      have : ¬ ((List.length (y :: ys) : Int) = 0) := by simp only [List.length_cons]; omega
      simp only [this, decide_false, cond_false, headF, List.getElem?_cons_zero, Option.bind_some]
      have h64 : decide ((List.length y.2.1 : Int) = 64) = decide (List.length y.2.1 = 64) := by
        by_cases h : List.length y.2.1 = 64
        · simp [h]
        · have : ¬ ((List.length y.2.1 : Int) = 64) := by omega
          simp [h, this]
      rw [h64]
      cases decide (k = 4) <;> cases decide (List.length y.2.1 = 64) <;> rfl
  rw [hh]
  by_cases hr : runsF xs = 0
  · simp only [hr, decide_true, Bool.not_true, cond_false, if_true]
    cases inB k 1 6 <;> cases inB k 2 4 <;> cases decide (p = 0) <;> cases decide (0 < xs.length) <;> cases decide (k = 4) <;> cases decide (t = 0) <;> cases inB t 1 99 <;> cases inB p 0 11 <;> rfl
  · simp only [hr, decide_false, Bool.not_false, cond_true, if_false]
    cases inB k 1 6 <;> cases inB k 2 4 <;> cases decide (p = 0) <;> cases decide (0 < xs.length) <;> cases decide (k = 4) <;> cases decide (t = 0) <;> cases inB t 1 99 <;> cases inB p 0 11 <;> rfl

theorem implRec_eq (r : Record) : impl_RecordFault.sem (r, ()) = some (recF r, ()) := by
  obtain ⟨k, t, p, xs, ⟨⟩⟩ := r
  refine lift_eq (k := 0) fun n _ => (impl_RecordFault.raw_eq n _).trans ?_
  show impl_RecordFault.p _ = _
  unfold impl_RecordFault.p recF
  simp only [implIn_eq, turns_eq, isTx_eq, implRuns_eq, Option.bind_some, show ∀ a b c : Int, (decide (b ≤ a) && decide (a ≤ c)) = inB a b c from fun _ _ _ => rfl]
  have h0 : decide ((0 : Int) < (xs.length : Int)) = decide (0 < xs.length) := by simp
  rw [h0]
  have hk : inB k 2 4 = false → decide (k = 4) = false := by
    intro h
    by_cases e : k = 4
    · subst e; cases h
    · simp [e]
  have h64 : ∀ y : Run, decide ((List.length y.2.1 : Int) = 64) = decide (List.length y.2.1 = 64) := fun y => by
    by_cases h : List.length y.2.1 = 64
    · simp [h]
    · have : ¬ ((List.length y.2.1 : Int) = 64) := by omega
      simp [h, this]
  have hz : decide (0 < xs.length) = false → xs = [] := by
    intro h
    cases xs with
    | nil => rfl
    | cons _ _ => simp at h
  have hh : runsF xs = 0 → (bif decide ((List.length xs : Int) = 0) then some ((1 : Int), ()) else bif decide (k = 4) then bif !decide ((List.length xs : Int) = 1) then some ((1 : Int), ()) else (xs[0]?).bind fun x23 => bif !decide ((List.length x23.2.1 : Int) = 64) then some ((1 : Int), ()) else some (0, ()) else some (0, ())) = some (headF k xs, ()) := by
    intro hr
    cases xs with
    | nil => rfl
    | cons y ys =>
      have : ¬ ((List.length (y :: ys) : Int) = 0) := by simp only [List.length_cons]; omega
      simp only [this, decide_false, cond_false, headF, List.getElem?_cons_zero, Option.bind_some, h64]
      cases ys with
      | nil => cases decide (k = 4) <;> cases decide (List.length y.2.1 = 64) <;> rfl
      | cons z ys =>
        have h1 := runsF_one hr
        have h2 : ¬ ((List.length (y :: z :: ys) : Int) = 1) := by simp only [List.length_cons]; omega
        simp only [h1, h2, decide_false]
        cases decide (k = 4) <;> rfl
  cases hk2 : inB k 2 4 with
  | false =>
    have hk4 := hk hk2
    have hr0 : runsF ([] : List Run) = 0 := rfl
    simp only [hk4]
    by_cases hx : xs = []
    · subst hx
      cases inB k 1 6 <;> cases decide (p = 0) <;> cases inB t 1 99 <;> cases inB p 0 11 <;> rfl
    · have hx' : decide (0 < xs.length) = true := by
        cases xs with
        | nil => exact absurd rfl hx
        | cons _ _ => simp
      simp only [hx']
      cases inB k 1 6 <;> cases decide (p = 0) <;> rfl
  | true =>
    by_cases hr : runsF xs = 0
    · have hh := hh hr
      simp only [hr, decide_true, Bool.not_true, cond_false, cond_true, if_true, hh]
      cases inB k 1 6 <;> cases decide (k = 4) <;> cases decide (t = 0) <;> cases inB t 1 99 <;> cases inB p 0 11 <;> rfl
    · simp only [hr, decide_false, Bool.not_false, cond_true, if_false]
      cases inB k 1 6 <;> cases decide (k = 4) <;> cases decide (t = 0) <;> cases inB t 1 99 <;> cases inB p 0 11 <;> rfl

theorem recF_good {r : Record} (h : recF r = 0) : 1 ≤ r.1 ∧ r.1 ≤ 6 ∧ 0 ≤ r.2.1 ∧ r.2.1 ≤ 99 ∧ 0 ≤ r.2.2.1 ∧ r.2.2.1 ≤ 11 ∧ List.length r.2.2.2.1 ≤ 64 ∧ ∀ x ∈ r.2.2.2.1, 0 ≤ x.1 ∧ x.1 ≤ 63 ∧ 1 ≤ bl x ∧ bl x ≤ 64 := by
  obtain ⟨k, t, p, xs, ⟨⟩⟩ := r
  unfold recF at h
  split at h
  · cases h
  rename_i h1
  split at h
  · cases h
  rename_i h2
  have hx : List.length xs ≤ 64 ∧ ∀ x ∈ xs, 0 ≤ x.1 ∧ x.1 ≤ 63 ∧ 1 ≤ bl x ∧ bl x ≤ 64 := by
    split at h
    · rename_i h3
      simp only [Bool.or_eq_true, Bool.and_eq_true, not_or, not_and, h3, forall_const] at h1
      cases xs with
      | nil => exact ⟨by simp, fun x hx => by cases hx⟩
      | cons y ys => exact absurd (by simp) h1.1.2.2
    · split at h
      · rename_i h4; exact runsF_good h4
      · rename_i h4; exact absurd h h4
  simp only [Bool.or_eq_true, Bool.and_eq_true, not_or, not_and, inB, Bool.not_eq_true', Bool.and_eq_false_iff, decide_eq_false_iff_not, decide_eq_true_eq] at h1 h2
  refine ⟨?_, ?_, ?_, ?_, ?_, ?_, hx⟩ <;> by_cases hk : k = 4 <;> simp_all <;> omega
end OT
