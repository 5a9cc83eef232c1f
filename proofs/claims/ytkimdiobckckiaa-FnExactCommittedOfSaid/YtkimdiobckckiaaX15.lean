/- FnExactCommittedOf: the row; no conditions. -/
import Derived.Test.YtkimdiobckckiaaXV
import Derived.Test.YtkimdiobckckiaaRows
namespace Go.Proofs.Ytkimdiobckckiaa.committedOf
open Go Go.ChangeShapes Go.WideShapes Go.ChangeAt Go.RowKit

theorem own : ownKnob Try.prog.godebug = none := by kernel_rfl
theorem laidOut : laidOutB Try.prog = true := by kernel_rfl
theorem htrue : ∀ v, OT.okA OT.laws_FnExactCommittedOf.ps v → ∃ u, OT.laws_FnExactCommittedOf.sem v = some (true, u) := fun v hv => ⟨(), OT.committedOf_true v hv⟩

theorem trod_len {H : Type} {enc : TypeId × Value → H} {P : Program} {w : World} {base : Nat} {sp : Nat → Bool} {held : Bool} : ∀ (ts : List TypeId) (vs : List Value) (ds : List (DataW H)) (ps : List MemPlace), DataW.TrodAll enc P w base sp held ts vs ds ps → ds.length = ts.length
  | [], [], [], _, _ => rfl
  | _ :: ts, _ :: vs, _ :: ds, _, ⟨_, q, _, h, _⟩ => congrArg (· + 1) (trod_len ts vs ds q h)
  | [], _ :: _, _, _, h => h.elim
  | [], [], _ :: _, _, h => h.elim
  | _ :: _, [], _, _, h => h.elim
  | _ :: _, _ :: _, [], _, h => h.elim

set_option maxRecDepth 100000 in
theorem lifted (os : Os) (started : os.Started) (H : Type) (enc : TypeId × Value → H) :
    ReturnsInHanded {} Try.checked os 4 .any (Rows.fnExactCommittedOfSpec.pre6 enc Try.prog Try.f4 Rows.fnExactCommittedOfRow.domain false) (Rows.fnExactCommittedOfSpec.post enc Try.prog Try.f4 false true false false) := by
  refine returnsInHanded_of_change (C := Try.checked) own started (by kernel_rfl) Try.func4
    (ChangeSpec.witness6 (enc := enc) (C := Try.checked) false ⟨#[], #[.agg #[.slice none 0 0, .slice none 0 0, .int .i64 0]], []⟩ 8 (by kernel_rfl) (by kernel_rfl) (by kernel_rfl) (by kernel_rfl)) ?_
  intro W base args ds gs before hval0 hW hcnd _
  have hval : ∀ (j : Nat) t v, Try.f4.params[j]? = some t → args[j]? = some v → Value.okWide Try.prog W .any base t v := hval0
  have hW' := hW
  obtain ⟨p, q, hA0, hV, rfl, hfz, hnd⟩ := hW
  have hA : DataW.TrodAll enc Try.prog W 0 (fun _ => true) true Try.f4.params.toList args.toList ds p := hA0
  obtain ⟨rfl, rfl⟩ := trodVars_none hV
  simp only [List.append_nil] at hW'
  have hl : OT.roLay Try.prog OT.laws_FnExactCommittedOf.ps Try.f4.params.toList = true := by kernel_rfl
  have hc := OT.law_calls (enc := enc) OT.laws_FnExactCommittedOf.snd htrue hl hA (b0 := base) (fun j t v ht hv => hval j t v (by simpa using ht) (by simpa using hv))
  simp only [Array.toArray_toList] at hc
  refine hc.mono fun e W' ⟨he, hb⟩ => ?_
  refine ⟨_, he, OT.law_post (C := Try.checked) laidOut rfl hl (by kernel_rfl) Try.underlying4 rfl hW' hA ?_ hb⟩
  have hlen : ds.length = 1 := trod_len _ _ _ _ hA
  match ds, hlen with
  | [d1], _ => rfl

set_option maxHeartbeats 8000000 in
/-- The row's closed facts, each by itself. -/
theorem closed : joinedFacts Try.prog 4 Try.f4 Rows.fnExactCommittedOfSpec Rows.fnExactCommittedOfRow = true := by
  unfold joinedFacts
  simp only [Bool.and_eq_true]
  repeat' apply And.intro
  all_goals (as_aux_lemma => kernel_rfl)

theorem over : Rows.fnExactCommittedOfRow.holds Try.pinned (OpenSpec.ofChange Rows.fnExactCommittedOfSpec) :=
  OpenClaim.holds_of_wide 4 Try.f4 rfl rfl rfl rfl rfl rfl rfl ⟨rfl, rfl, rfl, rfl, rfl⟩ rfl rfl rfl rfl rfl (by kernel_rfl) Try.func4 closed
    (of_decide_eq_true (by kernel_rfl)) (by unfold Func.isWrapper; first | (rw [if_pos (by decide +kernel)]; kernel_rfl) | (rw [if_neg (by decide +kernel)]; exact ⟨rfl, rfl⟩))
    (fun os started H enc _ => lifted os started H enc)
theorem proved : Rows.FnExactCommittedOfSaid := over
#print axioms proved
end Go.Proofs.Ytkimdiobckckiaa.committedOf
