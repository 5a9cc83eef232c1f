/- Operations, fifth part: numbers, texts. -/
import Derived.Test.YtkimdiobckckiaaOTr
import Derived.Laws.Concat
import Derived.Laws.StructEq
set_option linter.unusedVariables false
set_option linter.unusedSimpArgs false
namespace OT
open Go

theorem toI_ofI (k : IntKind) (n : Int) : toI k (ofI k n) = k.wrap n := by
  cases k <;> first | rfl | skip
  show ((UInt8.ofNat (n % 2 ^ 8).toNat).toNat : Int) = _
  rw [UInt8.toNat_ofNat']
  simp [IntKind.wrap, IntKind.bits, IntKind.signed]
  omega
theorem toI_inI (k : IntKind) (n : Int) (h : k = .u8 → 0 ≤ n ∧ n < 256) : toI k (inI k n) = n := by
  cases k <;> first | rfl | skip
  obtain ⟨h1, h2⟩ := h rfl
  show ((UInt8.ofNat (n % 2 ^ 8).toNat).toNat : Int) = _
  rw [UInt8.toNat_ofNat']
  omega
theorem toI_u8 (v : IntDen .u8) : 0 ≤ toI .u8 v ∧ toI .u8 v < 256 := by
  have : UInt8.toNat v < 256 := UInt8.toNat_lt v
  show 0 ≤ ((UInt8.toNat v : Nat) : Int) ∧ ((UInt8.toNat v : Nat) : Int) < 256
  omega

section
variable {P : Program} {C : Ctx} {A : Cells} {X : FP} {σ : St} {a : Act} {w : World} {F : Nat → FP} {R : Type} {x : R} {Q : Exit → Act → World → Prop} {o : Oper} {E : Env}

/-- What one of the numbers' operations gives. -/
theorem binI_ok {op : BinOp} {k k' : IntKind} {na nb : Int} {K : (t : Ty) → t.den → Option R} (hk : binI op k na nb K = some x) (hkk : k = k' ∨ op = .shl ∨ op = .shr) (hu : k = .u8 → 0 ≤ na ∧ na < 256) (hu' : k' = .u8 → 0 ≤ nb ∧ nb < 256) (T : TypeId) :
    ∃ t v tv, K t v = some x ∧ Ro P w A t v [tv] ∧ isAgg t = false ∧ ∀ w : World, (binOp op T (.int k na) (.int k' nb)).run P w = .ok tv w := by
  have same : op ≠ .shl → op ≠ .shr → k = k' := fun h1 h2 => by rcases hkk with h | h | h; exact h; exact absurd h h1; exact absurd h h2
  unfold binI at hk
  split at hk
  · have := same (by simp) (by simp); subst this
    exact ⟨_, _, .int k (k.wrap (na + nb)), hk, by simp only [Ro, toI_ofI], rfl, fun w => by simp [Go.binOp, Op.intArith]⟩
  · have := same (by simp) (by simp); subst this
    exact ⟨_, _, .int k (k.wrap (na - nb)), hk, by simp only [Ro, toI_ofI], rfl, fun w => by simp [Go.binOp, Op.intArith]⟩
  · have := same (by simp) (by simp); subst this
    exact ⟨_, _, .int k (k.wrap (na * nb)), hk, by simp only [Ro, toI_ofI], rfl, fun w => by simp [Go.binOp, Op.intArith]⟩
  · have := same (by simp) (by simp); subst this
    split at hk
    · cases hk
    · rename_i hnz
      exact ⟨_, _, .int k (k.wrap (na.tdiv nb)), hk, by simp only [Ro, toI_ofI], rfl, fun w => by simp [Go.binOp, Op.intDiv, hnz]⟩
  · have := same (by simp) (by simp); subst this
    split at hk
    · cases hk
    · rename_i hnz
      refine ⟨_, _, .int k (na.tmod nb), hk, ?_, rfl, fun w => by simp [Go.binOp, Op.intDiv, hnz]⟩
      simp only [Ro]
      rw [toI_inI k _ (fun e => ?_)]
      have h1 := hu e; have h2 := hu' e
      have := Int.tmod_nonneg nb h1.1
      have h3 : na.tmod nb < nb := Int.tmod_lt_of_pos na (by omega)
      omega
  · have := same (by simp) (by simp); subst this
    exact ⟨_, _, .int k (k.wrap ((BitVec.ofInt k.bits na &&& BitVec.ofInt k.bits nb).toNat : Int)), hk, by simp only [Ro, toI_ofI], rfl, fun w => by unfold Go.binOp; simp only [ne_eq, not_true_eq_false, if_false, Op.intBits, Sem.run_pure]⟩
  · have := same (by simp) (by simp); subst this
    exact ⟨_, _, .int k (k.wrap ((BitVec.ofInt k.bits na ||| BitVec.ofInt k.bits nb).toNat : Int)), hk, by simp only [Ro, toI_ofI], rfl, fun w => by unfold Go.binOp; simp only [ne_eq, not_true_eq_false, if_false, Op.intBits, Sem.run_pure]⟩
  · have := same (by simp) (by simp); subst this
    exact ⟨_, _, .int k (k.wrap ((BitVec.ofInt k.bits na ^^^ BitVec.ofInt k.bits nb).toNat : Int)), hk, by simp only [Ro, toI_ofI], rfl, fun w => by unfold Go.binOp; simp only [ne_eq, not_true_eq_false, if_false, Op.intBits, Sem.run_pure]⟩
  · split at hk
    · cases hk
    · rename_i hn
      exact ⟨_, _, .int k (k.wrap (na * 2 ^ (min nb.toNat k.bits))), hk, by simp only [Ro, toI_ofI], rfl, fun w => by simp [Go.binOp, Op.shift, hn]⟩
  · split at hk
    · cases hk
    · rename_i hn
      refine ⟨_, _, .int k (na.fdiv (2 ^ (min nb.toNat k.bits))), hk, ?_, rfl, fun w => by simp [Go.binOp, Op.shift, hn]⟩
      simp only [Ro]
      rw [toI_inI k _ (fun e => ?_)]
      have h1 := hu e
      have hp : (0 : Int) < 2 ^ (min nb.toNat k.bits) := Int.pow_pos (by omega)
      rw [Int.fdiv_eq_ediv_of_nonneg _ (by omega)]
      have h2 := Int.ediv_nonneg h1.1 (Int.le_of_lt hp)
      have h3 := Int.ediv_le_self (2 ^ (min nb.toNat k.bits)) h1.1
      omega
  · have := same (by simp) (by simp); subst this
    exact ⟨.bool, decide (na = nb), _, hk, rfl, rfl, fun w => by simp [Go.binOp, Op.intCmp]; rfl⟩
  · have := same (by simp) (by simp); subst this
    exact ⟨.bool, !decide (na = nb), _, hk, rfl, rfl, fun w => by simp [Go.binOp, Op.intCmp, bne]; rfl⟩
  · have := same (by simp) (by simp); subst this
    exact ⟨.bool, decide (na < nb), _, hk, rfl, rfl, fun w => by simp [Go.binOp, Op.intCmp]⟩
  · have := same (by simp) (by simp); subst this
    exact ⟨.bool, decide (na ≤ nb), _, hk, rfl, rfl, fun w => by simp [Go.binOp, Op.intCmp]⟩
  · have := same (by simp) (by simp); subst this
    exact ⟨.bool, decide (nb < na), _, hk, rfl, rfl, fun w => by simp [Go.binOp, Op.intCmp]⟩
  · have := same (by simp) (by simp); subst this
    exact ⟨.bool, decide (nb ≤ na), _, hk, rfl, rfl, fun w => by simp [Go.binOp, Op.intCmp]⟩
  · cases hk

theorem binS_ok {op : BinOp} {s t : List UInt8} {K : (t : Ty) → t.den → Option R} (hk : binS op s t K = some x) (T : TypeId) :
    ∃ ty v tv, K ty v = some x ∧ Ro P w A ty v [tv] ∧ isAgg ty = false ∧ ∀ w : World, (binOp op T (.string ⟨s.toArray⟩) (.string ⟨t.toArray⟩)).run P w = .ok tv w := by
  have h0 : ∀ w : World, (binOp op T (.string ⟨s.toArray⟩) (.string ⟨t.toArray⟩)).run P w = (Op.stringOp op ⟨s.toArray⟩ ⟨t.toArray⟩).run P w := fun w => by cases op <;> rfl
  simp only [h0]
  unfold binS at hk
  split at hk
  · split at hk
    · rename_i hc
      refine ⟨.str, s ++ t, .string ⟨(s ++ t).toArray⟩, hk, rfl, rfl, fun w => ?_⟩
      rw [run_string_add_sum w _ _ (by simp only [ByteArray.size, List.size_toArray]; simp only [CAP] at hc; omega), ByteArray.mk_append_mk]
    · cases hk
  · exact ⟨.bool, decide (s = t), _, hk, rfl, rfl, fun w => by simp [Op.stringOp]; exact Bool.eq_iff_iff.2 (by simp)⟩
  · exact ⟨.bool, !decide (s = t), _, hk, rfl, rfl, fun w => by simp [Op.stringOp]; exact Bool.eq_iff_iff.2 (by simp)⟩
  · cases hk

theorem val_str {tv : Value} {s : List UInt8} {G : FP} (h : SlotRel P A σ a w tv (.val .str s) G) : tv = .string ⟨s.toArray⟩ := by
  obtain ⟨cs, h1, h2⟩ := h
  simp only [Ro] at h2
  subst h2
  exact h1
theorem val_int {tv : Value} {k : IntKind} {n : IntDen k} {G : FP} (h : SlotRel P A σ a w tv (.val (.int k) n) G) : tv = .int k (toI k n) := by
  obtain ⟨cs, h1, h2⟩ := h
  simp only [Ro] at h2
  subst h2
  exact h1
theorem val_bool {tv : Value} {b : Bool} {G : FP} (h : SlotRel P A σ a w tv (.val .bool b) G) : tv = .bool b := by
  obtain ⟨cs, h1, h2⟩ := h
  simp only [Ro] at h2
  subst h2
  exact h1

theorem take_unOp (h : Rel0 P C A σ a w F) {op : UnOp} {t : Nat} {y : Operand} (ho : o.op = .unOp op t y) (hok : opdOk P y = true) {K : St → Option R}
    (hk : (match op, opd σ y with
    | .not, .val .bool b => K (σ.putD o.dst (.val .bool (!b)))
    | .neg, .val (.int k) n => K (σ.putD o.dst (.val (.int k) (ofI k (0 - toI k n))))
    | _, _ => none) = some x) : Tk P o a w (Nx P C K x) := by
  rcases opd_ok h hok with hs | ⟨xs, e⟩
  rotate_left
  · rw [e] at hk; split at hk <;> simp_all
  split at hk
  · rename_i b ho hv
    rw [hv] at hs
    have e := val_bool hs
    exact tk_val (v := .bool (!b)) (by simp [execOp, ho, e, Op.unary]) (fin_flat h hk ⟨[_], rfl, rfl⟩ (fun _ _ _ _ e => by cases e))
  · rename_i k n ho hv
    rw [hv] at hs
    have e := val_int hs
    exact tk_val (v := .int k (k.wrap (0 - toI k n))) (by simp [execOp, ho, e, Op.unary, Op.intArith]) (fin_flat h hk ⟨[_], rfl, by simp only [Ro, toI_ofI]⟩ (fun _ _ _ _ e => by cases e))
  · cases hk
end
end OT
