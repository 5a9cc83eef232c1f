/- Code. -/
import Derived.Test.YtkimdiobckckiaaOUf
import Derived.LoopN
import Derived.Scope
set_option linter.unusedVariables false
set_option linter.unusedSimpArgs false
namespace OT
open Go

/-- How code is left, and what holds then. -/
def QK (P : Program) (C : Ctx) {R : Type} (K : Ex → St → Option R) (fin : St → Option R) (x : R) : Exit → Act → World → Prop
  | .normal, a, w => ∃ σ, K .normal σ = some x ∧ RelE P C σ a w
  | .exit id, a, w => ∃ σ, K (.exit id) σ = some x ∧ RelE P C σ a w
  | .ret, a, w => ∃ σ, fin σ = some x ∧ RelE P C σ a w
  | _, _, _ => False

/-- What the program's own tables have to say of code. -/
noncomputable def codeOk (P : Program) (E : Env) : Code → Bool
  | .skip => true
  | .region id ops d => ops.toList.all (fun o => opOk P o.op) && (match d with
    | false => true
    | true => P.follows .mixedOrders && drawOk E id ops (liveOf E.od id))
  | .seq a b => codeOk P E a && codeOk P E b
  | .cond c a b => opdOk P c && codeOk P E a && codeOk P E b
  | .block _ b => codeOk P E b
  | .loop b => codeOk P E b
  | .scope b => codeOk P E b
  | .exit _ => true
  | .ret => true
  | _ => true

section
variable {P : Program} {C : Ctx} {R : Type} {x : R} {E : Env} {fin : St → Option R} {n : Nat}

theorem code_ok (hE : EnvOk P E) : ∀ (c : Code), codeOk P E c = true → ∀ {σ : St} {A : Cells} {a : Act} {w : World} {F : Nat → FP} {K : Ex → St → Option R}, Rel0 P C A σ a w F → codeK E n fin c σ K = some x → c.wp P (QK P C K fin x) a w := by
  intro c
  induction c with
  | skip => intro _ σ A a w F K h hk; exact wp_skip ⟨σ, hk, A, F, h⟩
  | region id ops d =>
    intro hc σ A a w F K h hk
    simp only [codeOk, Bool.and_eq_true] at hc
    have hst : ∀ o ∈ ops.toList, opOk P o.op = true := fun o ho => List.all_eq_true.1 hc.1 o ho
    cases d with
    | false => exact region_ok hE hst h hk (fun a w ⟨σ', h1, A', F', h2⟩ => by
        obtain ⟨A2, σ2, F2, h3, h4⟩ := bx_ok _ h2 h1
        exact ⟨σ2, h3, A2, F2, h4⟩)
    | true =>
      have h2 := hc.2
      simp only [Bool.and_eq_true] at h2
      exact draw_ok hE h2.1 hst h2.2 h hk (fun a w ⟨σ', h1, h2⟩ => ⟨σ', h1, h2⟩) (fun c a w hq => hq)
  | seq a b iha ihb =>
    intro hc σ A ac w F K h hk
    simp only [codeOk, Bool.and_eq_true] at hc
    refine wp_seq (wp_mono (iha hc.1 h hk) fun e a' w' hq => ?_)
    cases e with
    | normal => obtain ⟨σ', h1, A', F', h2⟩ := hq; exact ihb hc.2 h2 h1
    | exit j => obtain ⟨σ', h1, h2⟩ := hq; exact ⟨σ', h1, h2⟩
    | ret => exact hq
    | _ => exact hq.elim
  | cond c a b iha ihb =>
    intro hc σ A ac w F K h hk
    simp only [codeOk, Bool.and_eq_true] at hc
    simp only [codeK] at hk
    rcases opd_ok h hc.1.1 with hs | ⟨xs, e⟩
    rotate_left
    · rw [e] at hk; cases hk
    obtain ⟨t, ht, hk⟩ := boolK_some hs hk
    cases t with
    | true => exact wp_cond_true ht (iha hc.1.2 h hk)
    | false => exact wp_cond_false ht (ihb hc.2 h hk)
  | block id b ih =>
    intro hc σ A ac w F K h hk
    refine wp_block (wp_mono (ih hc h hk) fun e a' w' hq => ?_)
    cases e with
    | normal => exact hq
    | exit j =>
      obtain ⟨σ', h1, h2⟩ := hq
      simp only [blockC] at h1
      simp only [Exit.inBlock]
      by_cases hj : j = id
      · subst hj
        rw [if_pos (by simp)] at h1
        rw [if_pos rfl]
        exact ⟨σ', h1, h2⟩
      · have : Nat.beq j id = false := by
          cases hb : Nat.beq j id with
          | false => rfl
          | true => exact absurd (Nat.eq_of_beq_eq_true hb) hj
        rw [this, if_neg (by simp)] at h1
        rw [if_neg hj]
        exact ⟨σ', h1, h2⟩
    | ret => exact hq
    | _ => exact hq.elim
  | loop b ih =>
    intro hc σ A ac w F K h hk
    simp only [codeK] at hk
    have key : ∀ (m : Nat) (σ : St) (ac : Act) (w : World), RelE P C σ ac w → iterK (codeK E n fin b) (keepF (liveOf E.lv (firstReg b)) (froOf E.lf (firstReg b))) K m σ = some x → Code.rounds P b (QK P C K fin x) m ac w := by
      intro m
      induction m with
      | zero => intro σ ac w h hk; cases hk
      | succ m ihm =>
        intro σ ac w h hk
        obtain ⟨A', F', h⟩ := h
        rw [rounds_succ]
        refine wp_mono (ih hc h hk) fun e a' w' hq => ?_
        cases e with
        | normal =>
          obtain ⟨σ', h1, A2, F2, h2⟩ := hq
          exact ihm _ a' w' (keepF_ok h2 _ _) h1
        | exit j => exact hq
        | ret => exact hq
        | _ => exact hq.elim
    exact wp_loop_rounds n (key n _ ac w (keepF_ok h _ _) hk)
  | scope b ih =>
    intro hc σ A ac w F K h hk
    refine wp_scope_straight (wp_mono (ih hc h hk) fun e a' w' hq => ?_)
    cases e with
    | normal => exact hq
    | exit j => exact hq
    | ret => exact hq
    | _ => exact hq.elim
  | exit id =>
    intro hc σ A ac w F K h hk
    exact wp_exit ⟨_, hk, keep_ok h _⟩
  | ret =>
    intro hc σ A ac w F K h hk
    exact wp_ret ⟨σ, hk, A, F, h⟩
  | _ => intros; rename_i hk; simp [codeK] at hk
end
end OT
