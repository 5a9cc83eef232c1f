/- FnExactNewStore: what its functions compute; no conditions. -/
import Derived.Test.YtnpccifddodjlaaXB
set_option linter.unusedVariables false
set_option linter.unusedSimpArgs false
namespace OT
open Go

def newStore (n : Int) : StoreResult := if 1 ≤ n ∧ n ≤ 100 then (0, 0, (true, [], ([], [], ()), [], n, ()), ()) else (3, 0, (false, [], ([], [], ()), [], 0, ()), ())
theorem specNewStore_eq (n : Int) : spec_NewStore.sem (n, ()) = some (newStore n, ()) := by
  refine lift_eq (k := 0) fun k _ => (spec_NewStore.raw_eq k _).trans ?_
  show spec_NewStore.p _ = _
  unfold spec_NewStore.p newStore
  simp only [specIn_eq, Option.bind_some]
  by_cases h1 : 1 ≤ n <;> by_cases h2 : n ≤ 100 <;> simp [h1, h2]
theorem implNewStore_eq (n : Int) : impl_NewStore.sem (n, ()) = some (newStore n, ()) := by
  refine lift_eq (k := 0) fun k _ => (impl_NewStore.raw_eq k _).trans ?_
  show impl_NewStore.p _ = _
  unfold impl_NewStore.p newStore
  simp only [implIn_eq, Option.bind_some]
  by_cases h1 : 1 ≤ n <;> by_cases h2 : n ≤ 100 <;> simp [h1, h2]

theorem newStore_true (v : laws_FnExactNewStore.Arg) (hv : okA laws_FnExactNewStore.ps v) : laws_FnExactNewStore.sem v = some (true, ()) := by
  obtain ⟨n, ⟨⟩⟩ := v
  refine lift_eq (k := 0) fun k _ => (laws_FnExactNewStore.raw_eq k _).trans ?_
  show laws_FnExactNewStore.p _ = _
  unfold laws_FnExactNewStore.p
  have hz : zz tStoreResult (newStore n) = 0 := by unfold newStore; split <;> rfl
  obtain ⟨k', y, e1, e2, e3, e4⟩ := mhStoreResult (newStore n) 1 (by omega) (by rw [hz]; simp [BIG])
  simp [specNewStore_eq, implNewStore_eq, eqStoreResult_self (newStore n) (by omega), e1, e2, show ¬ k' < 0 by omega]
end OT
