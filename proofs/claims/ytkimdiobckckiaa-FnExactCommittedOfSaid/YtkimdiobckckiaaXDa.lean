/- What the program and the reference find at fault with rows and changes; no conditions but the lengths. -/
import Derived.Test.YtkimdiobckckiaaXH
import Derived.Test.YtkimdiobckckiaaOUn
set_option linter.unusedVariables false
set_option linter.unusedSimpArgs false
namespace OT
open Go

theorem specIn_eq (a b c : Int) : spec_l1In.sem (a, b, c, ()) = some (decide (b ≤ a) && decide (a ≤ c), ()) := by
  refine lift_eq (k := 0) fun k _ => (spec_l1In.raw_eq k _).trans ?_
  show spec_l1In.p _ = _
  unfold spec_l1In.p
  by_cases h : b ≤ a <;> simp [h]
theorem implIn_eq (a b c : Int) : impl_in.sem (a, b, c, ()) = some (decide (b ≤ a) && decide (a ≤ c), ()) := by
  refine lift_eq (k := 0) fun k _ => (impl_in.raw_eq k _).trans ?_
  show impl_in.p _ = _
  unfold impl_in.p
  by_cases h : b ≤ a <;> simp [h]
theorem isTx_eq (a : Int) : impl_isTx.sem (a, ()) = some (decide (1 ≤ a) && decide (a ≤ 99), ()) := by
  refine lift_eq (k := 0) fun k _ => (impl_isTx.raw_eq k _).trans ?_
  show impl_isTx.p _ = _
  unfold impl_isTx.p
  simp [implIn_eq]

/-! Rows. -/
def inB (a b c : Int) : Bool := decide (b ≤ a) && decide (a ≤ c)
def letter (c : UInt8) : Bool := !decide ((c.toNat : Int) < 97) && !decide ((122 : Int) < (c.toNat : Int))
def textB (s : List UInt8) : Bool := s.all letter && decide (s.length ≤ 8)
def rowF (x : Row) : Int := if inB x.1 0 3 && (inB x.2.1 1 99 && inB x.2.2.1 0 999) then (if textB x.2.2.2.1 then 0 else 5) else 3

theorem len8 (s : List UInt8) : decide ((s.length : Int) ≤ 8) = decide (s.length ≤ 8) := by
  by_cases h : s.length ≤ 8
  · have : (s.length : Int) ≤ 8 := by omega
    simp [h, this]
  · have : ¬ (s.length : Int) ≤ 8 := by omega
    simp [h, this]

theorem specText_eq (s : List UInt8) (h : s.length ≤ maxLen) : spec_l1Text.sem (s, ()) = some (textB s, ()) := by
  refine lift_eq (k := s.length + 1) fun k hk => (spec_l1Text.raw_eq k _).trans ?_
  have := for_loop (B := fun self v => spec_l1Text.B0 0 self (fun z => spec_l1Text.Q0 0 (s, ()) z) (s, ()) v) s (fun (_ : Unit) (i : Int) => i) (fun _ _ x => if letter x then .inr () else .inl (false, ())) (fun _ => (decide (s.length ≤ 8), ())) (fun _ _ => True) h
    (fun i hi _ self _ => by
      show spec_l1Text.b0 _ _ _ _ = _
      unfold spec_l1Text.b0
      have hlt : (i : Int) < (s.length : Int) := by omega
      simp only [hlt, decide_true, cond_true, Int.natCast_nonneg, if_true, Int.toNat_natCast, List.getElem?_eq_getElem hi, Option.bind_some]
      unfold letter
      by_cases h1 : ((s[i].toNat : Int) < 97) <;> by_cases h2 : ((122 : Int) < (s[i].toNat : Int)) <;> simp [h1, h2]) (fun _ _ _ _ _ _ => trivial) (fun _ self _ => by
      show spec_l1Text.b0 _ _ _ _ = _
      unfold spec_l1Text.b0
      simp [spec_l1Text.Q0, spec_l1Text.q0, len8]) () trivial k (by omega)
  refine this.trans ?_
  rw [forI_check letter (false, ()) (fun _ => (decide (s.length ≤ 8), ()))]
  unfold textB
  cases s.all letter <;> rfl

theorem specRow_eq (x : Row) (h : List.length x.2.2.2.1 ≤ maxLen) : spec_l1Fault.sem (x, ()) = some (rowF x, ()) := by
  refine lift_eq (k := 0) fun k _ => (spec_l1Fault.raw_eq k _).trans ?_
  show spec_l1Fault.p _ = _
  unfold spec_l1Fault.p rowF inB
  simp only [specIn_eq, specText_eq _ h, Option.bind_some]
  cases decide ((0 : Int) ≤ x.1) <;> cases decide (x.1 ≤ 3) <;> cases decide ((1 : Int) ≤ x.2.1) <;> cases decide (x.2.1 ≤ 99) <;> cases decide ((0 : Int) ≤ x.2.2.1) <;> cases decide (x.2.2.1 ≤ 999) <;> cases textB x.2.2.2.1 <;> rfl

theorem implRow_eq (x : Row) (h : List.length x.2.2.2.1 ≤ maxLen) : impl_RowFault.sem (x, ()) = some (rowF x, ()) := by
  refine lift_eq (k := List.length x.2.2.2.1 + 1) fun k hk => (impl_RowFault.raw_eq k _).trans ?_
  have := for_loop (B := fun self v => impl_RowFault.B0 0 self (fun z => impl_RowFault.Q0 0 (x, ()) z) (x, ()) v) x.2.2.2.1 (fun (_ : Unit) (i : Int) => i) (fun _ _ c => if letter c then .inr () else .inl (5, ())) (fun _ => (0, ())) (fun _ _ => True) h
    (fun i hi _ self _ => by
      show impl_RowFault.b0 _ _ _ _ = _
      unfold impl_RowFault.b0
      have hlt : (i : Int) < (List.length x.2.2.2.1 : Int) := by omega
      simp only [hlt, decide_true, cond_true, Int.natCast_nonneg, if_true, Int.toNat_natCast, List.getElem?_eq_getElem hi, Option.bind_some]
      unfold letter
      by_cases h1 : (((x.2.2.2.1)[i].toNat : Int) < 97) <;> by_cases h2 : ((122 : Int) < ((x.2.2.2.1)[i].toNat : Int)) <;> simp [h1, h2]) (fun _ _ _ _ _ _ => trivial) (fun _ self _ => by
      show impl_RowFault.b0 _ _ _ _ = _
      unfold impl_RowFault.b0
      simp [impl_RowFault.Q0, impl_RowFault.q0]) () trivial k (by omega)
  rw [forI_check letter (5, ()) (fun _ => (0, ()))] at this
  have this : impl_RowFault.r0 k (x, ()) 0 = _ := this
  unfold impl_RowFault.raw impl_RowFault.p rowF inB textB
  simp only [implIn_eq, this, Option.bind_some]
  have h8 : decide ((8 : Int) < (List.length x.2.2.2.1 : Int)) = !decide (List.length x.2.2.2.1 ≤ 8) := by
    by_cases hc : List.length x.2.2.2.1 ≤ 8
    · have : ¬ (8 : Int) < (List.length x.2.2.2.1 : Int) := by omega
      simp [hc, this]
    · have : (8 : Int) < (List.length x.2.2.2.1 : Int) := by omega
      simp [hc, this]
  rw [h8]
  cases decide ((0 : Int) ≤ x.1) <;> cases decide (x.1 ≤ 3) <;> cases decide ((1 : Int) ≤ x.2.1) <;> cases decide (x.2.1 ≤ 99) <;> cases decide ((0 : Int) ≤ x.2.2.1) <;> cases decide (x.2.2.1 ≤ 999) <;> cases decide (List.length x.2.2.2.1 ≤ 8) <;> cases (x.2.2.2.1).all letter <;> rfl

/-! Changes. -/
def rl (x : Row) : Prop := List.length x.2.2.2.1 ≤ maxLen
def cl (c : Change) : Prop := rl c.2.1 ∧ rl c.2.2.2.1
def sameKey (a b : Row) : Bool := decide (a.1 = b.1) && decide (a.2.1 = b.2.1)
def befB (a b : Int × Int) : Bool := decide (a.1 < b.1) || (decide (a.1 = b.1) && decide (a.2 < b.2))
def chF (c : Change) : Int := if (!c.1 && !c.2.2.1) || (c.1 && c.2.2.1 && !sameKey c.2.1 c.2.2.2.1) then 1 else if c.1 && !decide (rowF c.2.1 = 0) then rowF c.2.1 else if c.2.2.1 then rowF c.2.2.2.1 else 0
def chS (c : Change) : Int := if chF c = 0 then (if c.1 && c.2.2.1 && Ty.eq tRow c.2.1 c.2.2.2.1 then 1 else 0) else chF c
def ck (c : Change) : Int × Int := if c.2.2.1 then (c.2.2.2.1.1, c.2.2.2.1.2.1) else (c.2.1.1, c.2.1.2.1)

theorem specChange_eq (c : Change) (h : cl c) : spec_l6Change.sem (c, ()) = some (chF c, ()) := by
  refine lift_eq (k := 0) fun k _ => (spec_l6Change.raw_eq k _).trans ?_
  show spec_l6Change.p _ = _
  unfold spec_l6Change.p chF sameKey
  simp only [specRow_eq _ h.1, specRow_eq _ h.2, Option.bind_some]
  cases c.1 <;> cases c.2.2.1 <;> by_cases h1 : c.2.1.1 = c.2.2.2.1.1 <;> by_cases h2 : c.2.1.2.1 = c.2.2.2.1.2.1 <;> by_cases h3 : rowF c.2.1 = 0 <;> simp [h1, h2, h3]

theorem isBefore_eq (a b : Row) : impl_IsBefore.sem (a, b, ()) = some (befB (a.1, a.2.1) (b.1, b.2.1), ()) := by
  refine lift_eq (k := 0) fun k _ => (impl_IsBefore.raw_eq k _).trans ?_
  show impl_IsBefore.p _ = _
  unfold impl_IsBefore.p befB
  by_cases h1 : a.1 < b.1 <;> by_cases h2 : a.1 = b.1 <;> simp [h1, h2]
theorem order_eq (a b : Row) : impl_order.sem (a, b, ()) = some (if befB (a.1, a.2.1) (b.1, b.2.1) then -1 else if befB (b.1, b.2.1) (a.1, a.2.1) then 1 else 0, ()) := by
  refine lift_eq (k := 0) fun k _ => (impl_order.raw_eq k _).trans ?_
  show impl_order.p _ = _
  unfold impl_order.p
  simp only [isBefore_eq, Option.bind_some]
  cases befB (a.1, a.2.1) (b.1, b.2.1) <;> cases befB (b.1, b.2.1) (a.1, a.2.1) <;> rfl
theorem order_zero (a b : Row) : decide ((if befB (a.1, a.2.1) (b.1, b.2.1) then (-1 : Int) else if befB (b.1, b.2.1) (a.1, a.2.1) then 1 else 0) = 0) = sameKey a b := by
  unfold befB sameKey
  by_cases h1 : a.1 < b.1
  · have : ¬ a.1 = b.1 := by omega
    simp [h1, this]
  · by_cases h2 : a.1 = b.1
    · by_cases h3 : a.2.1 < b.2.1
      · have : ¬ a.2.1 = b.2.1 := by omega
        simp [h2, h3, this]
      · by_cases h4 : b.2.1 < a.2.1
        · have : ¬ a.2.1 = b.2.1 := by omega
          simp [h2, h3, h4, this]
        · have : a.2.1 = b.2.1 := by omega
          simp [h2, this]
    · have : b.1 < a.1 := by omega
      simp [h1, h2, this]
theorem implChange_eq (c : Change) (h : cl c) : impl_changeFault.sem (c, ()) = some (chF c, ()) := by
  refine lift_eq (k := 0) fun k _ => (impl_changeFault.raw_eq k _).trans ?_
  show impl_changeFault.p _ = _
  unfold impl_changeFault.p chF
  simp only [implRow_eq _ h.1, implRow_eq _ h.2, order_eq, Option.bind_some, order_zero]
  cases c.1 <;> cases c.2.2.1 <;> cases sameKey c.2.1 c.2.2.2.1 <;> by_cases h3 : rowF c.2.1 = 0 <;> simp [h3]

theorem specChangeS_eq (c : Change) (h : cl c) : spec_l9Change.sem (c, ()) = some (chS c, ()) := by
  refine lift_eq (k := 0) fun k _ => (spec_l9Change.raw_eq k _).trans ?_
  show spec_l9Change.p _ = _
  unfold spec_l9Change.p chS
  simp only [specChange_eq c h, Option.bind_some]
  by_cases h1 : chF c = 0
  · simp only [h1, decide_true, Bool.not_true, cond_false, if_true]
    cases c.1 <;> cases c.2.2.1 <;> cases Ty.eq tRow c.2.1 c.2.2.2.1 <;> rfl
  · simp [h1]
theorem single_eq (c : Change) (h : cl c) : impl_singleFault.sem (c, ()) = some (chS c, ()) := by
  refine lift_eq (k := 0) fun k _ => (impl_singleFault.raw_eq k _).trans ?_
  show impl_singleFault.p _ = _
  unfold impl_singleFault.p chS
  simp only [implChange_eq c h, Option.bind_some]
  by_cases h1 : chF c = 0
  · simp only [h1, decide_true, Bool.not_true, cond_false, if_true]
    cases c.1 <;> cases c.2.2.1 <;> cases Ty.eq tRow c.2.1 c.2.2.2.1 <;> rfl
  · simp [h1]
theorem specKey_eq (c : Change) : spec_l6Key.sem (c, ()) = some ((ck c).1, (ck c).2, ()) := by
  refine lift_eq (k := 0) fun k _ => (spec_l6Key.raw_eq k _).trans ?_
  show spec_l6Key.p _ = _
  unfold spec_l6Key.p ck
  cases c.2.2.1 <;> rfl
def keyRow (c : Change) : Row := if c.2.2.1 then c.2.2.2.1 else c.2.1
theorem keyRow_ck (c : Change) : ((keyRow c).1, (keyRow c).2.1) = ck c := by unfold keyRow ck; cases c.2.2.1 <;> rfl
theorem implKey_eq (c : Change) : impl_Change_key.sem (c, ()) = some (keyRow c, ()) := by
  refine lift_eq (k := 0) fun k _ => (impl_Change_key.raw_eq k _).trans ?_
  show impl_Change_key.p _ = _
  unfold impl_Change_key.p keyRow
  cases c.2.2.1 <;> rfl
theorem len60 (n : Nat) (m : Nat) : decide ((m : Int) < (n : Int)) = decide (m < n) := by
  by_cases h : m < n
  · have : (m : Int) < (n : Int) := by omega
    simp [h, this]
  · have : ¬ (m : Int) < (n : Int) := by omega
    simp [h, this]

theorem wprev {i : Nat} (hi : 0 < i) (h : i ≤ maxLen) : w64 ((i : Int) - 1) = ((i - 1 : Nat) : Int) := by
  rw [maxLen_val] at h
  rw [w64_in (by omega)]; omega

theorem rl_ok {x : Row} (h : okD tRow x) : rl x := h.2.2.2.1
theorem cl_ok {c : Change} (h : okD tChange c) : cl c := ⟨rl_ok h.2.1, rl_ok h.2.2.2.1⟩
end OT
