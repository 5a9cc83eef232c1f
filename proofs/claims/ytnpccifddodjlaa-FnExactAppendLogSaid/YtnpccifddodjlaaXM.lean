/- Logs: the program and the reference read, fault and append alike; and the law of AppendLog. -/
import Derived.Test.YtnpccifddodjlaaXL
set_option linter.unusedVariables false
set_option linter.unusedSimpArgs false
namespace OT
open Go

theorem readF_n {d : List UInt8} {r : Record} {n : Nat} (h : readF d = some (r, n)) : 7 ≤ n ∧ n ≤ d.length ∧ recF r = 0 := by
  unfold readF at h
  split at h
  · cases h
  · rename_i hc
    split at h
    · cases h
    · split at h
      · rename_i hh
        injection h with h
        injection h with h1 h2
        subst h1
        omega
      · cases h
theorem readF_nil : readF [] = none := rfl

def readAllF : Nat → List UInt8 → List Record × Nat
  | 0, _ => ([], 0)
  | k + 1, d => match readF d with
    | none => ([], 0)
    | some (r, n) => (r :: (readAllF k (d.drop n)).1, n + (readAllF k (d.drop n)).2)
theorem readAllF_fuel : ∀ (k k' : Nat) (d : List UInt8), d.length < k → d.length < k' → readAllF k d = readAllF k' d
  | 0, _, _, h, _ => by omega
  | _ + 1, 0, _, _, h => by omega
  | k + 1, k' + 1, d, h, h' => by
    simp only [readAllF]
    cases hr : readF d with
    | none => rfl
    | some q =>
      obtain ⟨r, n⟩ := q
      have hn := readF_n hr
      have : (d.drop n).length = d.length - n := List.length_drop
      simp only
      rw [readAllF_fuel k k' (d.drop n) (by omega) (by omega)]
def allF (d : List UInt8) : List Record × Nat := readAllF (d.length + 1) d
theorem readAllF_le : ∀ (k : Nat) (d : List UInt8), (readAllF k d).2 ≤ d.length
  | 0, d => Nat.zero_le _
  | k + 1, d => by
    simp only [readAllF]
    cases hr : readF d with
    | none => exact Nat.zero_le _
    | some q =>
      obtain ⟨r, n⟩ := q
      have hn := readF_n hr
      have : (d.drop n).length = d.length - n := List.length_drop
      have := readAllF_le k (d.drop n)
      simp only
      omega

theorem implAll_eq (d : List UInt8) (hd : d.length ≤ 1048576) : impl_readAll.sem (d, ()) = some ((allF d).1, ((allF d).2 : Int), ()) := by
  refine lift_eq (k := 1048578) fun k hk => (impl_readAll.raw_eq k _).trans ?_
  have key : ∀ (m a : Nat) (acc : List Record), d.length - a = m → a ≤ d.length → acc.length ≤ a → ∀ j, m < j →
      rawIter (fun self v => impl_readAll.B0 k self (d, ()) v) j (acc, (a : Int)) = some (acc ++ (readAllF (m + 1) (d.drop a)).1, ((a + (readAllF (m + 1) (d.drop a)).2 : Nat) : Int), ()) := by
    intro m
    induction m using Nat.strongRecOn with
    | ind m ih =>
    intro a acc hm ha hacc j hj
    cases j with
    | zero => omega
    | succ j =>
      show impl_readAll.b0 _ _ _ = _
      unfold impl_readAll.b0
      have hin : (0 : Int) ≤ (a : Int) ∧ (a : Int) ≤ (d.length : Int) := by omega
      simp only [hin, and_self, if_true, Int.toNat_natCast, List.take_length]
      rw [implRead_eq _ (by simp; omega)]
      simp only [Option.bind_some, readAllF]
      cases hr : readF (d.drop a) with
      | none => simp only [decide_true, cond_true, List.append_nil, Nat.add_zero]; try rfl
      | some q =>
        obtain ⟨r, n⟩ := q
        have hn := readF_n hr
        have hl : (d.drop a).length = d.length - a := List.length_drop
        have h0 : ¬ ((n : Int) = 0) := by omega
        have hc : acc.length + [r].length ≤ CAP := cap_ok (by simp only [List.length_cons, List.length_nil]; omega)
        have ew : w64 ((a : Int) + (n : Int)) = ((a + n : Nat) : Int) := by rw [w64_in (by omega)]; omega
        simp only [h0, decide_false, cond_false, hc, if_true, ew]
        have := ih (d.length - (a + n)) (by omega) (a + n) (acc ++ [r]) rfl (by omega) (by simp; omega) j (by omega)
        refine Eq.trans this ?_
        have hdd : (d.drop a).drop n = d.drop (a + n) := by rw [List.drop_drop]
        have hl2 : (d.drop (a + n)).length = d.length - (a + n) := List.length_drop
        rw [hdd, readAllF_fuel m (d.length - (a + n) + 1) (d.drop (a + n)) (by omega) (by omega)]
        simp only [List.append_assoc, List.cons_append, List.nil_append, Nat.add_assoc]
  have := key d.length 0 [] rfl (by omega) (Nat.le_refl _) k (by omega)
  simp only [List.drop_zero, List.nil_append, Nat.zero_add] at this
  exact this

theorem specAll_eq (d : List UInt8) (hd : d.length ≤ 1048576) : spec_l5Read.sem (d, ()) = some ((allF d).1, ((allF d).2 : Int), ()) := by
  refine lift_eq (k := 1048578) fun k hk => (spec_l5Read.raw_eq k _).trans ?_
  have key : ∀ (m a : Nat) (acc : List Record), d.length - a = m → a ≤ d.length → acc.length ≤ a → ∀ j, m < j →
      rawIter (fun self v => spec_l5Read.B0 k self (fun z => spec_l5Read.Q0 k (d, ()) z) (d, ()) v) j (acc, (a : Int)) = some (acc ++ (readAllF (m + 1) (d.drop a)).1, ((a + (readAllF (m + 1) (d.drop a)).2 : Nat) : Int), ()) := by
    intro m
    induction m using Nat.strongRecOn with
    | ind m ih =>
    intro a acc hm ha hacc j hj
    cases j with
    | zero => omega
    | succ j =>
      show spec_l5Read.b0 _ _ (d, ()) _ = _
      unfold spec_l5Read.b0
      by_cases hlt : a < d.length
      rotate_left
      · have h1 : ¬ (a : Int) < (d.length : Int) := by omega
        have h2 : d.drop a = [] := List.drop_of_length_le (by omega)
        simp only [h1, decide_false, cond_false, spec_l5Read.Q0, spec_l5Read.q0, h2, readAllF, readF_nil, List.append_nil, Nat.add_zero]
        try rfl
      have hlt' : (a : Int) < (d.length : Int) := by omega
      have hin : (0 : Int) ≤ (a : Int) ∧ (a : Int) ≤ (d.length : Int) := by omega
      simp only [hlt', decide_true, cond_true, hin, and_self, if_true, Int.toNat_natCast, List.take_length]
      rw [specRead_eq _ (by simp; omega)]
      simp only [Option.bind_some, readAllF]
      cases hr : readF (d.drop a) with
      | none =>
        have h5 : ¬ ((5 : Int) = 0) := by omega
        simp only [h5, decide_false, Bool.not_false, cond_true, List.append_nil, Nat.add_zero, spec_l5Read.Q0, spec_l5Read.q0]; try rfl
      | some q =>
        obtain ⟨r, n⟩ := q
        have hn := readF_n hr
        have hl : (d.drop a).length = d.length - a := List.length_drop
        have hc : acc.length + [r].length ≤ CAP := cap_ok (by simp only [List.length_cons, List.length_nil]; omega)
        have ew : w64 ((a : Int) + (n : Int)) = ((a + n : Nat) : Int) := by rw [w64_in (by omega)]; omega
        simp only [decide_true, Bool.not_true, cond_false, hc, if_true, ew]
        have := ih (d.length - (a + n)) (by omega) (a + n) (acc ++ [r]) rfl (by omega) (by simp; omega) j (by omega)
        refine Eq.trans this ?_
        have hdd : (d.drop a).drop n = d.drop (a + n) := by rw [List.drop_drop]
        have hl2 : (d.drop (a + n)).length = d.length - (a + n) := List.length_drop
        rw [hdd, readAllF_fuel m (d.length - (a + n) + 1) (d.drop (a + n)) (by omega) (by omega)]
        simp only [List.append_assoc, List.cons_append, List.nil_append, Nat.add_assoc]
  have := key d.length 0 [] rfl (by omega) (Nat.le_refl _) k (by omega)
  simp only [List.drop_zero, List.nil_append, Nat.zero_add] at this
  exact this

/-! Logs. -/
def okL (l : Log) : Prop := List.length l.1 ≤ 1048576 ∧ List.length l.2.1 ≤ 1048576
def wholeB (d : List UInt8) : Bool := decide ((allF d).2 = d.length)
def logF (l : Log) : Int := if 16000 < List.length l.1 + List.length l.2.1 then 2 else if wholeB l.1 && wholeB l.2.1 then 0 else 5
def appF (l : Log) (r : Record) : LogResult :=
  if logF l = 0 then (if recF r = 0 then (if 16000 < List.length l.1 + List.length l.2.1 + (packF r).length then ((9 : Int), (([] : List UInt8), ([] : List UInt8), ()), ()) else ((0 : Int), (l.1, l.2.1 ++ packF r, ()), ()))
    else (recF r, (([] : List UInt8), ([] : List UInt8), ()), ())) else (logF l, (([] : List UInt8), ([] : List UInt8), ()), ())

theorem whole_int (d : List UInt8) : decide (((allF d).2 : Int) = (d.length : Int)) = wholeB d := by
  unfold wholeB
  by_cases h : (allF d).2 = d.length
  · simp [h]
  · have : ¬ ((allF d).2 : Int) = (d.length : Int) := by omega
    simp [h, this]

theorem specLog_eq (l : Log) (h : okL l) : spec_l5Fault.sem (l, ()) = some (logF l, ()) := by
  refine lift_eq (k := 0) fun k _ => (spec_l5Fault.raw_eq k _).trans ?_
  show spec_l5Fault.p _ = _
  unfold spec_l5Fault.p logF
  obtain ⟨h1, h2⟩ := h
  have ew : w64 ((List.length l.1 : Int) + (List.length l.2.1 : Int)) = ((List.length l.1 + List.length l.2.1 : Nat) : Int) := by rw [w64_in (by omega)]; omega
  simp only [ew, specAll_eq _ h1, specAll_eq _ h2, Option.bind_some, whole_int]
  by_cases hc : 16000 < List.length l.1 + List.length l.2.1
  · have : (16000 : Int) < ((List.length l.1 + List.length l.2.1 : Nat) : Int) := by omega
    simp only [this, hc, decide_true, cond_true, if_true]
    try rfl
  · have : ¬ (16000 : Int) < ((List.length l.1 + List.length l.2.1 : Nat) : Int) := by omega
    simp only [this, hc, decide_false, cond_false, if_false]
    cases wholeB l.1 <;> cases wholeB l.2.1 <;> rfl

theorem size_eq (l : Log) (h : okL l) : impl_Log_size.sem (l, ()) = some (((List.length l.1 + List.length l.2.1 : Nat) : Int), ()) := by
  refine lift_eq (k := 0) fun k _ => (impl_Log_size.raw_eq k _).trans ?_
  show impl_Log_size.p _ = _
  unfold impl_Log_size.p
  obtain ⟨h1, h2⟩ := h
  have ew : w64 ((List.length l.1 : Int) + (List.length l.2.1 : Int)) = ((List.length l.1 + List.length l.2.1 : Nat) : Int) := by rw [w64_in (by omega)]; omega
  rw [ew]
  try rfl

theorem implLog_eq (l : Log) (h : okL l) : impl_LogFault.sem (l, ()) = some (logF l, ()) := by
  refine lift_eq (k := 5) fun k hk => (impl_LogFault.raw_eq k _).trans ?_
  unfold impl_LogFault.raw impl_LogFault.p logF
  rw [size_eq l h]
  have hl : ∀ x ∈ [l.1, l.2.1], List.length x ≤ 1048576 := by
    intro x hx
    simp only [List.mem_cons, List.not_mem_nil, or_false] at hx
    rcases hx with e | e <;> subst e
    · exact h.1
    · exact h.2
  have := for_loop (B := fun self v => impl_LogFault.B0 0 self (fun z => impl_LogFault.Q0 0 (l, ()) z) (l, ()) v) [l.1, l.2.1] (fun (_ : Unit) (i : Int) => i) (fun _ _ x => if wholeB x then .inr () else .inl (5, ())) (fun _ => (0, ())) (fun _ _ => True) (by rw [maxLen_val]; simp)
    (fun i hi s self hI => by
      show impl_LogFault.b0 _ _ _ _ = _
      unfold impl_LogFault.b0
      have hlt : (i : Int) < ([l.1, l.2.1].length : Int) := by omega
      have hin : (0 : Int) ≤ (i : Int) ∧ (i : Int) < ([l.1, l.2.1].length : Int) := by omega
      simp only [hlt, hin, and_self, decide_true, cond_true, if_true, Int.toNat_natCast, List.getElem?_eq_getElem hi, Option.bind_some]
      have hx := hl [l.1, l.2.1][i] (List.getElem_mem hi)
      generalize [l.1, l.2.1][i] = x at hx
      rw [implAll_eq x hx]
      simp only [Option.bind_some, whole_int]
      cases wholeB x <;> rfl)
    (fun _ _ _ _ _ _ => trivial) (fun s self _ => by
      show impl_LogFault.b0 _ _ _ _ = _
      unfold impl_LogFault.b0
      simp [impl_LogFault.Q0, impl_LogFault.q0]) () trivial k (by simp only [List.length_cons, List.length_nil]; omega)
  rw [forI_check wholeB (5, ()) (fun _ => (0, ()))] at this
  have this : impl_LogFault.r0 k (l, ()) 0 = _ := this
  simp only [Option.bind_some, this]
  by_cases hc : 16000 < List.length l.1 + List.length l.2.1
  · have : (16000 : Int) < ((List.length l.1 + List.length l.2.1 : Nat) : Int) := by omega
    simp only [this, hc, decide_true, cond_true, if_true]
    rfl
  · have : ¬ (16000 : Int) < ((List.length l.1 + List.length l.2.1 : Nat) : Int) := by omega
    simp only [this, hc, decide_false, cond_false, if_false, List.all_cons, List.all_nil, Bool.and_true]
    cases wholeB l.1 <;> cases wholeB l.2.1 <;> rfl

theorem specAppend_eq (l : Log) (r : Record) (h : okL l) : spec_AppendLog.sem (l, r, ()) = some (appF l r, ()) := by
  refine lift_eq (k := 0) fun k _ => (spec_AppendLog.raw_eq k _).trans ?_
  show spec_AppendLog.p _ = _
  unfold spec_AppendLog.p appF
  simp only [specLog_eq l h, specRec_eq, Option.bind_some]
  by_cases h1 : logF l = 0
  rotate_left
  · simp only [h1, decide_false, Bool.not_false, cond_true, if_false]
    try rfl
  by_cases h2 : recF r = 0
  rotate_left
  · simp only [h1, h2, decide_true, decide_false, Bool.not_true, Bool.not_false, cond_true, cond_false, if_true, if_false]
    try rfl
  have hs := small_of h2
  have hpl := packF_small hs
  obtain ⟨o1, o2⟩ := h
  have hap : spec_l5Append.sem (l, r, ()) = some (if 16000 < List.length l.1 + List.length l.2.1 + (packF r).length then (l, false, ()) else ((l.1, l.2.1 ++ packF r, ()), true, ())) := by
    refine lift_eq (k := 0) fun k _ => (spec_l5Append.raw_eq k _).trans ?_
    show spec_l5Append.p _ = _
    unfold spec_l5Append.p
    have hcp : spec_l5Copy.sem (l, ()) = some (l, ()) := by
      refine lift_eq (k := 0) fun k _ => (spec_l5Copy.raw_eq k _).trans ?_
      show spec_l5Copy.p _ = _
      unfold spec_l5Copy.p
      rw [specCopy_eq _ (by show List.length l.1 ≤ _; omega)]
      simp only [Option.bind_some]
      rw [specCopy_eq _ (by show List.length l.2.1 ≤ _; omega)]
      rfl
    have e1 : w64 ((List.length l.1 : Int) + (List.length l.2.1 : Int)) = ((List.length l.1 + List.length l.2.1 : Nat) : Int) := by rw [w64_in (by omega)]; omega
    have e2 : w64 (((List.length l.1 + List.length l.2.1 : Nat) : Int) + ((packF r).length : Int)) = ((List.length l.1 + List.length l.2.1 + (packF r).length : Nat) : Int) := by rw [w64_in (by omega)]; omega
    have hcc : List.length l.2.1 + (packF r).length ≤ CAP := cap_ok (by omega)
    simp only [specPack_eq r hs, hcp, Option.bind_some, e1, e2]
    by_cases hc : 16000 < List.length l.1 + List.length l.2.1 + (packF r).length
    · have : (16000 : Int) < ((List.length l.1 + List.length l.2.1 + (packF r).length : Nat) : Int) := by omega
      simp only [this, hc, decide_true, cond_true, if_true]
    · have : ¬ (16000 : Int) < ((List.length l.1 + List.length l.2.1 + (packF r).length : Nat) : Int) := by omega
      simp only [this, hc, decide_false, cond_false, if_false, hcc, if_true]
  simp only [h1, h2, decide_true, Bool.not_true, cond_false, if_true, hap, Option.bind_some]
  by_cases hc : 16000 < List.length l.1 + List.length l.2.1 + (packF r).length
  · simp only [hc, if_true]; rfl
  · simp only [hc, if_false]; rfl

theorem implAppend_eq (l : Log) (r : Record) (h : okL l) : impl_AppendLog.sem (l, r, ()) = some (appF l r, ()) := by
  refine lift_eq (k := 0) fun k _ => (impl_AppendLog.raw_eq k _).trans ?_
  show impl_AppendLog.p _ = _
  unfold impl_AppendLog.p appF
  simp only [implLog_eq l h, implRec_eq, Option.bind_some]
  by_cases h1 : logF l = 0
  rotate_left
  · simp only [h1, decide_false, Bool.not_false, cond_true, if_false]
    try rfl
  by_cases h2 : recF r = 0
  rotate_left
  · simp only [h1, h2, decide_true, decide_false, Bool.not_true, Bool.not_false, cond_true, cond_false, if_true, if_false]
    try rfl
  have hs := small_of h2
  have hpl := packF_small hs
  have hok := h
  obtain ⟨o1, o2⟩ := h
  have hap : impl_Log_appended.sem (l, r, ()) = some (if 16000 < List.length l.1 + List.length l.2.1 + (packF r).length then (l, false, ()) else ((l.1, l.2.1 ++ packF r, ()), true, ())) := by
    refine lift_eq (k := 0) fun k _ => (impl_Log_appended.raw_eq k _).trans ?_
    show impl_Log_appended.p _ = _
    unfold impl_Log_appended.p
    have e2 : w64 (((List.length l.1 + List.length l.2.1 : Nat) : Int) + ((packF r).length : Int)) = ((List.length l.1 + List.length l.2.1 + (packF r).length : Nat) : Int) := by rw [w64_in (by omega)]; omega
    have hcc : List.length l.2.1 + (packF r).length ≤ CAP := cap_ok (by omega)
    simp only [implPack_eq r hs, size_eq l hok, Option.bind_some, e2]
    rw [implCopied_eq _ (by show List.length l.2.1 ≤ _; omega)]
    by_cases hc : 16000 < List.length l.1 + List.length l.2.1 + (packF r).length
    · have : (16000 : Int) < ((List.length l.1 + List.length l.2.1 + (packF r).length : Nat) : Int) := by omega
      simp only [this, hc, decide_true, cond_true, if_true]
    · have : ¬ (16000 : Int) < ((List.length l.1 + List.length l.2.1 + (packF r).length : Nat) : Int) := by omega
      simp only [this, hc, decide_false, cond_false, if_false, Option.bind_some, hcc, if_true]
  have hown : ∀ l : Log, List.length l.1 ≤ 2000000 → List.length l.2.1 ≤ 2000000 → impl_Log_own.sem (l, ()) = some (l, ()) := fun l g1 g2 => by
    refine lift_eq (k := 0) fun k _ => (impl_Log_own.raw_eq k _).trans ?_
    show impl_Log_own.p _ = _
    unfold impl_Log_own.p
    rw [implCopied_eq _ (by show List.length l.1 ≤ _; omega)]
    simp only [Option.bind_some]
    rw [implCopied_eq _ (by show List.length l.2.1 ≤ _; omega)]
    rfl
  simp only [h1, h2, decide_true, Bool.not_true, cond_false, if_true, hap, Option.bind_some]
  by_cases hc : 16000 < List.length l.1 + List.length l.2.1 + (packF r).length
  · simp only [hc, if_true]; rfl
  · simp only [hc, if_false, Bool.not_true, cond_false]
    rw [hown _ (by show List.length l.1 ≤ _; omega) (by show (l.2.1 ++ packF r).length ≤ _; rw [List.length_append]; omega)]
    rfl

theorem app_small (l : Log) (r : Record) : zz tLogResult (appF l r) ≤ 16000 := by
  have hz : ∀ (c : Int) (a b : List UInt8), zz tLogResult (c, (a, b, ()), ()) = a.length + b.length := fun c a b => by
    show 0 + ((a.length + sumW (zz u8) a + (b.length + sumW (zz u8) b + 0)) + 0) = _
    have h1 : sumW (zz u8) a = 0 := sumW_zero _ (fun _ => rfl) a
    have h2 : sumW (zz u8) b = 0 := sumW_zero _ (fun _ => rfl) b
    omega
  have h0 : ∀ c : Int, zz tLogResult (c, (([] : List UInt8), ([] : List UInt8), ()), ()) ≤ 16000 := fun c => Nat.le_trans (Nat.le_of_eq (hz c [] [])) (by simp)
  unfold appF
  split
  · split
    · split
      · exact h0 _
      · rename_i hc
        refine Nat.le_trans (Nat.le_of_eq (hz 0 l.1 (l.2.1 ++ packF r))) ?_
        rw [List.length_append]
        omega
    · exact h0 _
  · exact h0 _

theorem append_true (v : laws_FnExactAppendLog.Arg) (hv : okA laws_FnExactAppendLog.ps v) : laws_FnExactAppendLog.sem v = some (true, ()) := by
  obtain ⟨l, r, ⟨⟩⟩ := v
  obtain ⟨hx, hs, _⟩ := hv
  refine lift_eq (k := 0) fun k _ => (laws_FnExactAppendLog.raw_eq k _).trans ?_
  show laws_FnExactAppendLog.p _ = _
  unfold laws_FnExactAppendLog.p
  simp only [szLog_eq l 1048576 hx (by omega) (by omega), Option.bind_some]
  by_cases hz : ((zz tLog l : Nat) : Int) ≤ 1048576
  rotate_left
  · have : lft 1048576 (zz tLog l) = -1 := if_neg hz
    simp only [this]
    rfl
  have e1 : lft 1048576 (zz tLog l) = 1048576 - ((zz tLog l : Nat) : Int) := if_pos hz
  have n1 : ¬ (1048576 - ((zz tLog l : Nat) : Int) < 0) := by omega
  simp only [e1, n1, decide_false, cond_false, szRecord_eq r _ hs (show (0 : Int) ≤ 1048576 - ((zz tLog l : Nat) : Int) by omega) (by omega), Option.bind_some]
  by_cases hz2 : ((zz tRecord r : Nat) : Int) ≤ 1048576 - ((zz tLog l : Nat) : Int)
  rotate_left
  · have : lft (1048576 - ((zz tLog l : Nat) : Int)) (zz tRecord r) = -1 := if_neg hz2
    simp only [this]
    rfl
  have e2 : lft (1048576 - ((zz tLog l : Nat) : Int)) (zz tRecord r) = 1048576 - ((zz tLog l : Nat) : Int) - ((zz tRecord r : Nat) : Int) := if_pos hz2
  have n2 : ¬ (1048576 - ((zz tLog l : Nat) : Int) - ((zz tRecord r : Nat) : Int) < 0) := by omega
  have hzl : zz tLog l = zz (.slc u8) l.1 + (zz (.slc u8) l.2.1 + 0) := rfl
  have hl1 : List.length l.1 ≤ zz (.slc u8) l.1 := zz_len (e := u8) l.1
  have hl2 : List.length l.2.1 ≤ zz (.slc u8) l.2.1 := zz_len (e := u8) l.2.1
  have hok : okL l := ⟨by omega, by omega⟩
  have hR := app_small l r
  have hB : BIG = 4611686018427387904 := rfl
  obtain ⟨k', y, a1, a2, a3, a4⟩ := mhLogResult (appF l r) 1 (by omega) (by omega)
  obtain ⟨k2, y2, b1, b3, b4⟩ := mkLog l 1 (by omega) (by omega)
  obtain ⟨k3, y3, d1, d3, d4⟩ := mkRecord r k2 (by omega) (by omega)
  simp only [e2, n2, decide_false, cond_false, toLog_eq l (by omega), toRecord_eq r (by omega), specAppend_eq l r hok, implAppend_eq l r hok, eqLogResult_self (appF l r) (by omega), eqLog_self l (by omega), eqRecord_self r (by omega), a1, a2, b1, d1, Option.bind_some, Bool.not_true, show ¬ k' < 0 by omega, show ¬ k3 < 0 by omega, decide_true]
end OT
