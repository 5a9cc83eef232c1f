/- What is printed beside each function. -/
import Derived.Test.YtkimdiobckckiaaOUj
namespace OT
open Go

def tiOk (P : Program) (l : List (Nat × Ty)) : Bool := l.all fun p => layB P p.2 (.inl p.1)
def eqOkL (P : Program) (l : List (Nat × Ty)) : Bool := l.all fun p => !(p.2.eqOk && isAgg p.2) || (eqB P p.2 (.inl p.1) && (P.eqGuardType P.depth p.1 == false) && Nat.ble (dep p.2) 10000)

theorem look_mem {α : Type} : ∀ {l : List (Nat × α)} {i : Nat} {x : α}, lookN l i = some x → (i, x) ∈ l
  | (k, y) :: l, i, x, h => by
    simp only [lookN] at h
    split at h
    · rename_i hk
      injection h with h
      rw [Nat.eq_of_beq_eq_true hk, h]; exact List.mem_cons_self
    · exact List.mem_cons_of_mem _ (look_mem h)

/-- The contracts of those that are called. -/
def FnOk (P : Program) (l : List (Nat × Sig)) : Prop := ∀ f g, lookN l f = some g → Sound P f g ∧ EnterOk P f g.cap
theorem fn_nil (P : Program) : FnOk P [] := fun f g h => by cases h
theorem fn_cons {P : Program} {f : Nat} {g : Sig} {l : List (Nat × Sig)} (h1 : Sound P f g) (h2 : EnterOk P f g.cap) (h3 : FnOk P l) : FnOk P ((f, g) :: l) := fun f' g' h => by
  simp only [lookN] at h
  split at h
  · rename_i hk
    injection h with h
    subst h
    rw [← Nat.eq_of_beq_eq_true hk]
    exact ⟨h1, h2⟩
  · exact h3 f' g' h

theorem env_ok {P : Program} {E : Env} {tl : List (Nat × Ty)} {gl : List (Nat × Sig)} (h1 : E.TI = lookN tl) (h2 : E.G = lookN gl) (h3 : tiOk P tl = true) (h4 : eqOkL P tl = true) (h5 : FnOk P gl) : EnvOk P E where
  ti i T h := by rw [h1] at h; exact List.all_eq_true.1 h3 _ (look_mem h)
  eq i T h hq ha := by
    rw [h1] at h
    have := List.all_eq_true.1 h4 _ (look_mem h)
    simp only [hq, ha, Bool.and_self, Bool.not_true, Bool.false_or, Bool.and_eq_true, beq_iff_eq, Nat.ble_eq] at this
    exact ⟨this.1.1, this.1.2, this.2⟩
  fn f g h := by rw [h2] at h; exact h5 f g h
end OT
