/- The law of PlainFault. -/
import Derived.Test.YtkimdiobckckiaaXT
set_option linter.unusedVariables false
set_option linter.unusedSimpArgs false
namespace OT
open Go

theorem plainFault_true (v : laws_FnExactPlainFault.Arg) (hv : okA laws_FnExactPlainFault.ps v) : laws_FnExactPlainFault.sem v = some (true, ()) := by
  obtain ⟨p, ⟨⟩⟩ := v
  obtain ⟨hx, _⟩ := hv
  refine lift_eq (k := 0) fun k _ => (laws_FnExactPlainFault.raw_eq k _).trans ?_
  show laws_FnExactPlainFault.p _ = _
  unfold laws_FnExactPlainFault.p
  simp only [szPlain_eq p 1048576 hx (by omega) (by omega), Option.bind_some]
  by_cases hz : ((zz tPlain p : Nat) : Int) ≤ 1048576
  rotate_left
  · have : lft 1048576 (zz tPlain p) = -1 := if_neg hz
    simp only [this]
    rfl
  have e1 : lft 1048576 (zz tPlain p) = 1048576 - ((zz tPlain p : Nat) : Int) := if_pos hz
  have n1 : ¬ (1048576 - ((zz tPlain p : Nat) : Int) < 0) := by omega
  have hok : okP p := plain_ok (p := p) hx (by omega)
  simp only [e1, n1, decide_false, cond_false, toPlain_eq p (by omega), specPlain_eq p hok, implPlain_eq p hok, eqPlain_self p (by omega), Option.bind_some, Bool.not_true, decide_true]
end OT
