/- FnExactNewPlain: what its functions compute; no conditions. -/
import Derived.Test.YtnpccifddodjlaaXH
set_option linter.unusedVariables false
set_option linter.unusedSimpArgs false
namespace OT
open Go

theorem specIn_eq (a b c : Int) : spec_l1In.sem (a, b, c, ()) = some (decide (b ≤ a) && decide (a ≤ c), ()) := by
  refine lift_eq (k := 0) fun k _ => (spec_l1In.raw_eq k _).trans ?_
  show spec_l1In.p _ = _
  unfold spec_l1In.p
  by_cases h : b ≤ a <;> simp [h]
theorem implIn_eq (a b c : Int) : impl_in.sem (a, b, c, ()) = some (decide (b ≤ a) && decide (a ≤ c), ()) := by
  refine lift_eq (k := 0) fun k _ => (impl_in.raw_eq k _).trans ?_
  show impl_in.p _ = _
  unfold impl_in.p
  by_cases h : b ≤ a <;> simp [h]

def newPlain (n : Int) : PlainResult := if 1 ≤ n ∧ n ≤ 100 then (0, 0, ([], [], n, ()), ()) else (3, 0, ([], [], 0, ()), ())
theorem specNewPlain_eq (n : Int) : spec_NewPlain.sem (n, ()) = some (newPlain n, ()) := by
  refine lift_eq (k := 0) fun k _ => (spec_NewPlain.raw_eq k _).trans ?_
  show spec_NewPlain.p _ = _
  unfold spec_NewPlain.p newPlain
  simp only [specIn_eq, Option.bind_some]
  by_cases h1 : 1 ≤ n <;> by_cases h2 : n ≤ 100 <;> simp [h1, h2]
theorem implNewPlain_eq (n : Int) : impl_NewPlain.sem (n, ()) = some (newPlain n, ()) := by
  refine lift_eq (k := 0) fun k _ => (impl_NewPlain.raw_eq k _).trans ?_
  show impl_NewPlain.p _ = _
  unfold impl_NewPlain.p newPlain
  simp only [implIn_eq, Option.bind_some]
  by_cases h1 : 1 ≤ n <;> by_cases h2 : n ≤ 100 <;> simp [h1, h2]

theorem newPlain_true (v : laws_FnExactNewPlain.Arg) (hv : okA laws_FnExactNewPlain.ps v) : laws_FnExactNewPlain.sem v = some (true, ()) := by
  obtain ⟨n, ⟨⟩⟩ := v
  refine lift_eq (k := 0) fun k _ => (laws_FnExactNewPlain.raw_eq k _).trans ?_
  show laws_FnExactNewPlain.p _ = _
  unfold laws_FnExactNewPlain.p
  have hz : zz tPlainResult (newPlain n) = 0 := by unfold newPlain; split <;> rfl
  obtain ⟨k', y, e1, e2, e3, e4⟩ := mhPlainResult (newPlain n) 1 (by omega) (by rw [hz]; simp [BIG])
  simp [specNewPlain_eq, implNewPlain_eq, eqPlainResult_self (newPlain n) (by omega), e1, e2, show ¬ k' < 0 by omega]
end OT
