/- Transactions: what the program and the reference find at fault; conditions on the lengths alone. -/
import Derived.Test.YtkimdiobckckiaaXDa
set_option linter.unusedVariables false
set_option linter.unusedSimpArgs false
namespace OT
open Go

/-! Loops that go on elsewhere. -/
theorem for_loopE {V S O α : Type} {B : (V → Option O) → V → Option O} (xs : List α) (enc : S → Int → V) (f : Nat → S → α → Sum (Option O) S) (fin : S → Option O) (I : Nat → S → Prop) (hmax : xs.length ≤ maxLen)
    (hin : ∀ (i : Nat) (hi : i < xs.length) (s : S) self, I i s → B self (enc s (i : Int)) = match f i s xs[i] with | .inl o => o | .inr s' => self (enc s' (w64 ((i : Int) + 1))))
    (hI : ∀ (i : Nat) (hi : i < xs.length) (s s' : S), I i s → f i s xs[i] = .inr s' → I (i + 1) s')
    (hout : ∀ (s : S) self, I xs.length s → B self (enc s (xs.length : Int)) = fin s) (s : S) (h0 : I 0 s) : ∀ k, xs.length < k → rawIter B k (enc s 0) = forI f fin 0 xs s := by
  have main : ∀ (m i : Nat) (s : S), xs.length - i = m → i ≤ xs.length → I i s → ∀ k, m < k → rawIter B k (enc s (i : Int)) = forI f fin i (xs.drop i) s := by
    intro m
    induction m with
    | zero =>
      intro i s hm hi hs k hk
      have hi' : i = xs.length := by omega
      subst hi'
      cases k with
      | zero => omega
      | succ k =>
        show B (rawIter B k) _ = _
        rw [hout s _ hs]
        simp [forI]
    | succ m ih =>
      intro i s hm hi hs k hk
      have hlt : i < xs.length := by omega
      cases k with
      | zero => omega
      | succ k =>
        show B (rawIter B k) _ = _
        rw [hin i hlt s _ hs, List.drop_eq_getElem_cons hlt]
        simp only [forI]
        cases hf : f i s xs[i] with
        | inl o => rfl
        | inr s' =>
          have hw : w64 ((i : Int) + 1) = ((i + 1 : Nat) : Int) := by rw [w64_in (by rw [maxLen_val] at hmax; omega)]; omega
          simp only [hw]
          exact ih (i + 1) s' (by omega) (by omega) (hI i hlt s s' hs hf) k (by omega)
  intro k hk
  simpa using main xs.length 0 s (by omega) (by omega) h0 k hk

theorem forI_any {O α : Type} (p : α → Bool) (a : O) (fin : Unit → O) : ∀ (xs : List α) (i : Nat), forI (fun _ _ x => if p x then .inl a else .inr ()) fin i xs () = if xs.any p then a else fin ()
  | [], _ => rfl
  | x :: xs, i => by
    simp only [forI, List.any_cons]
    by_cases h : p x = true
    · simp [h]
    · simp [h, forI_any p a fin xs (i + 1)]
/-- Where the first such is. -/
def whereF {α : Type} (p : α → Bool) : Nat → List α → Int
  | _, [] => -1
  | i, x :: xs => if p x then (i : Int) else whereF p (i + 1) xs
theorem forI_where {α : Type} (p : α → Bool) : ∀ (xs : List α) (i : Nat), forI (fun i _ x => if p x then .inl ((i : Int), ()) else .inr ()) (fun _ => ((-1 : Int), ())) i xs () = (whereF p i xs, ())
  | [], _ => rfl
  | x :: xs, i => by
    simp only [forI, whereF]
    by_cases h : p x = true
    · simp [h]
    · simp [h, forI_where p xs (i + 1)]
theorem where_any {α : Type} (p : α → Bool) : ∀ (xs : List α) (i : Nat), decide (0 ≤ whereF p i xs) = xs.any p
  | [], _ => rfl
  | x :: xs, i => by
    simp only [whereF, List.any_cons]
    by_cases h : p x = true
    · simp [h]
    · simp [h, where_any p xs (i + 1)]
theorem where_spec {α : Type} (p : α → Bool) : ∀ (xs : List α) (i : Nat), 0 ≤ whereF p i xs → ∃ (j : Nat) (hj : j < xs.length), whereF p i xs = ((i + j : Nat) : Int) ∧ p xs[j] = true
  | [], _, h => by simp [whereF] at h
  | x :: xs, i, h => by
    simp only [whereF] at h ⊢
    by_cases hp : p x = true
    · exact ⟨0, by simp, by simp [hp], hp⟩
    · rw [if_neg hp] at h ⊢
      obtain ⟨j, hj, h1, h2⟩ := where_spec p xs (i + 1) h
      exact ⟨j + 1, by simp; omega, by rw [h1]; omega, by simpa using h2⟩

/-! Keys. -/
theorem kq_eq (a b : Key) : Ty.eq tKey a b = decide (a = b) := by
  obtain ⟨a1, a2, ⟨⟩⟩ := a
  obtain ⟨b1, b2, ⟨⟩⟩ := b
  show (decide (a1 = b1) && (decide (a2 = b2) && true)) = decide ((a1, a2, ()) = (b1, b2, ()))
  by_cases h1 : a1 = b1 <;> by_cases h2 : a2 = b2 <;> simp [h1, h2]
def keyOfC (c : Change) : Key := ((ck c).1, (ck c).2, ())
def hasK (ks : List Key) (k : Key) : Bool := ks.any fun x => decide (x = k)
theorem hasK_iff {ks : List Key} {k : Key} : hasK ks k = true ↔ k ∈ ks := by simp [hasK]
def keyB2 (k : Key) : Bool := inB k.1 0 3 && inB k.2.1 1 99

theorem specKeyOf_eq (c : Change) : spec_l10KeyOf.sem (c, ()) = some (keyOfC c, ()) := by
  refine lift_eq (k := 0) fun k _ => (spec_l10KeyOf.raw_eq k _).trans ?_
  show spec_l10KeyOf.p _ = _
  unfold spec_l10KeyOf.p
  simp only [specKey_eq, Option.bind_some]
  rfl
theorem lock_eq (c : Change) : impl_Change_lock.sem (c, ()) = some (keyOfC c, ()) := by
  refine lift_eq (k := 0) fun k _ => (impl_Change_lock.raw_eq k _).trans ?_
  show impl_Change_lock.p _ = _
  unfold impl_Change_lock.p keyOfC
  simp only [implKey_eq, Option.bind_some, ← keyRow_ck]
theorem specKeyB_eq (x : Key) : spec_l10Key.sem (x, ()) = some (keyB2 x, ()) := by
  refine lift_eq (k := 0) fun k _ => (spec_l10Key.raw_eq k _).trans ?_
  show spec_l10Key.p _ = _
  unfold spec_l10Key.p keyB2 inB
  simp only [specIn_eq, Option.bind_some]
  cases decide ((0 : Int) ≤ x.1) <;> cases decide (x.1 ≤ 3) <;> rfl
theorem isKey_eq (x : Key) : impl_isKey.sem (x.1, x.2.1, ()) = some (keyB2 x, ()) := by
  refine lift_eq (k := 0) fun k _ => (impl_isKey.raw_eq k _).trans ?_
  show impl_isKey.p _ = _
  unfold impl_isKey.p keyB2 inB
  simp only [implIn_eq, Option.bind_some]
  cases decide ((0 : Int) ≤ x.1) <;> cases decide (x.1 ≤ 3) <;> rfl

theorem locks_eq (x : Tx) (k0 : Key) (h : List.length x.2.2.2.1 ≤ maxLen) : spec_l10Locks.sem (x, k0, ()) = some (hasK x.2.2.2.1 k0, ()) := by
  refine lift_eq (k := List.length x.2.2.2.1 + 1) fun k hk => (spec_l10Locks.raw_eq k _).trans ?_
  have := for_loop (B := fun self v => spec_l10Locks.B0 0 self (fun z => spec_l10Locks.Q0 0 (x, k0, ()) z) (x, k0, ()) v) x.2.2.2.1 (fun (_ : Unit) (i : Int) => i) (fun _ _ y => if decide (y = k0) then .inl (true, ()) else .inr ()) (fun _ => (false, ())) (fun _ _ => True) h
    (fun i hi s self _ => by
      show spec_l10Locks.b0 _ _ _ _ = _
      unfold spec_l10Locks.b0
      have hlt : (i : Int) < (List.length x.2.2.2.1 : Int) := by omega
      simp only [hlt, decide_true, cond_true, Int.natCast_nonneg, if_true, Int.toNat_natCast, List.getElem?_eq_getElem hi, Option.bind_some, kq_eq]
      by_cases hh : (x.2.2.2.1)[i] = k0
      · simp only [hh, decide_true, cond_true, if_true]
      · simp only [hh, decide_false, cond_false, Bool.false_eq_true, if_false])
    (fun _ _ _ _ _ _ => trivial) (fun s self _ => by
      show spec_l10Locks.b0 _ _ _ _ = _
      unfold spec_l10Locks.b0
      simp only [Int.lt_irrefl, decide_false, cond_false]
      rfl) () trivial k (by omega)
  rw [forI_any] at this
  refine Eq.trans this ?_
  unfold hasK
  cases x.2.2.2.1.any (fun y => decide (y = k0)) <;> rfl

theorem contains_eq (ks : List Key) (k0 : Key) (h : ks.length ≤ maxLen) : slices_Contains.sem (ks, k0, ()) = some (hasK ks k0, ()) := by
  have hix : slices_Index.sem (ks, k0, ()) = some (whereF (fun y => decide (k0 = y)) 0 ks, ()) := by
    refine lift_eq (k := ks.length + 1) fun k hk => (slices_Index.raw_eq k _).trans ?_
    have := for_loop (B := fun self v => slices_Index.B0 0 self (fun z => slices_Index.Q0 0 (ks, k0, ()) z) (ks, k0, ()) v) ks (fun (_ : Unit) (i : Int) => i) (fun i _ y => if decide (k0 = y) then .inl ((i : Int), ()) else .inr ()) (fun _ => ((-1 : Int), ())) (fun _ _ => True) h
      (fun i hi s self _ => by
        show slices_Index.b0 _ _ _ _ = _
        unfold slices_Index.b0
        have hlt : (i : Int) < (ks.length : Int) := by omega
        simp only [hlt, decide_true, cond_true, Int.natCast_nonneg, if_true, Int.toNat_natCast, List.getElem?_eq_getElem hi, Option.bind_some, kq_eq]
        by_cases hh : k0 = ks[i]
        · simp only [← hh, decide_true, cond_true, if_true]
        · simp only [hh, decide_false, cond_false, Bool.false_eq_true, if_false])
      (fun _ _ _ _ _ _ => trivial) (fun s self _ => by
        show slices_Index.b0 _ _ _ _ = _
        unfold slices_Index.b0
        simp only [Int.lt_irrefl, decide_false, cond_false]
        rfl) () trivial k (by omega)
    rw [forI_where] at this
    exact this
  refine lift_eq (k := 0) fun k _ => (slices_Contains.raw_eq k _).trans ?_
  show slices_Contains.p _ = _
  unfold slices_Contains.p
  rw [hix]
  simp only [Option.bind_some, where_any]
  congr 2
  unfold hasK
  congr 1
  funext y
  by_cases hh : k0 = y
  · simp [hh]
  · have : ¬ y = k0 := fun e => hh e.symm
    simp [hh, this]

/-! One transaction. -/
def tl (x : Tx) : Prop := List.length x.2.1 ≤ 1048576 ∧ List.length x.2.2.1 ≤ 1048576 ∧ List.length x.2.2.2.1 ≤ 1048576 ∧ ∀ c ∈ x.2.1, cl c
def undoC (ks : List Key) (c : Change) : Int := if chS c = 0 then (if hasK ks (keyOfC c) then 0 else 8) else chS c
def marksL (n last : Int) (ms : List Int) : Bool := forI (fun _ last m => if inB m last n then .inr m else .inl false) (fun _ => true) 0 ms last
def lockC (ks : List Key) (i : Nat) (k : Key) : Int := if keyB2 k then (if hasK (ks.take i) k then 6 else 0) else 3
def locksL (ks : List Key) : Int := forI (fun i (_ : Unit) k => if lockC ks i k = 0 then .inr () else .inl (lockC ks i k)) (fun _ => (0 : Int)) 0 ks ()
def marksF (x : Tx) : Int := if decide (8 < List.length x.2.2.1) || decide (12 < List.length x.2.2.2.1) then 2 else if marksL (List.length x.2.1 : Int) 0 x.2.2.1 then locksL x.2.2.2.1 else 3
def undoF (x : Tx) : Int := firstF (undoC x.2.2.2.1) x.2.1

theorem marksE (n : Int) (E : Option (Int × Unit)) : ∀ (ms : List Int) (i : Nat) (last : Int), forI (fun _ last m => if inB m last n then .inr m else .inl (some ((3 : Int), ()))) (fun _ => E) i ms last = if forI (fun _ last m => if inB m last n then .inr m else .inl false) (fun _ => true) i ms last then E else some ((3 : Int), ())
  | [], _, _ => rfl
  | m :: ms, i, last => by
    simp only [forI]
    by_cases hb : inB m last n = true
    · simp only [hb, if_true]; exact marksE n E ms _ _
    · simp [hb]

theorem specUndo_eq (x : Tx) (h : tl x) : spec_l10Undo.sem (x, ()) = some (undoF x, ()) := by
  obtain ⟨h1, h2, h3, h4⟩ := h
  refine lift_eq (k := List.length x.2.1 + 1) fun k hk => (spec_l10Undo.raw_eq k _).trans ?_
  have := for_loop (B := fun self v => spec_l10Undo.B0 0 self (fun z => spec_l10Undo.Q0 0 (x, ()) z) (x, ()) v) x.2.1 (fun (_ : Unit) (i : Int) => i) (fun _ _ c => if undoC x.2.2.2.1 c = 0 then .inr () else .inl (undoC x.2.2.2.1 c, ())) (fun _ => (0, ())) (fun _ _ => True) (by rw [maxLen_val]; omega)
    (fun i hi s self _ => by
      show spec_l10Undo.b0 _ _ _ _ = _
      unfold spec_l10Undo.b0
      have hlt : (i : Int) < (List.length x.2.1 : Int) := by omega
      simp only [hlt, decide_true, cond_true, Int.natCast_nonneg, if_true, Int.toNat_natCast, List.getElem?_eq_getElem hi, Option.bind_some, specChangeS_eq _ (h4 _ (List.getElem_mem hi)), specKeyOf_eq]
      rw [locks_eq x _ (by rw [maxLen_val]; omega)]
      unfold undoC
      by_cases hc : chS (x.2.1)[i] = 0
      · simp only [hc, decide_true, Bool.not_true, cond_false, if_true, Option.bind_some]
        cases hasK x.2.2.2.1 (keyOfC (x.2.1)[i]) <;> rfl
      · simp only [hc, decide_false, Bool.not_false, cond_true, if_false])
    (fun _ _ _ _ _ _ => trivial) (fun s self _ => by
      show spec_l10Undo.b0 _ _ _ _ = _
      unfold spec_l10Undo.b0
      simp only [Int.lt_irrefl, decide_false, cond_false]
      rfl) () trivial k (by omega)
  rw [forI_first (undoC x.2.2.2.1) (fun c => (c, ())) (fun _ => ((0 : Int), ()))] at this
  refine Eq.trans this ?_
  unfold undoF
  split
  · rename_i h0; rw [h0]
  · rfl

/-- What is asked of marks, with the one ahead in mind. -/
theorem inB_last {m last n : Int} (h : 0 ≤ last) : (inB m 0 n && decide (last ≤ m)) = inB m last n := by
  unfold inB
  by_cases h1 : last ≤ m
  · have : (0 : Int) ≤ m := by omega
    simp [h1, this]
  · simp [h1]

theorem specMarks_eq (x : Tx) (h : tl x) : spec_l10Marks.sem (x, ()) = some (marksF x, ()) := by
  obtain ⟨h1, h2, h3, h4⟩ := h
  refine lift_eq (k := 20) fun k hk => (spec_l10Marks.raw_eq k _).trans ?_
  unfold spec_l10Marks.raw spec_l10Marks.p marksF
  by_cases hm : 8 < List.length x.2.2.1
  · have : (8 : Int) < (List.length x.2.2.1 : Int) := by omega
    simp only [this, hm, decide_true, cond_true, Bool.true_or, if_true]
    rfl
  have hm' : ¬ (8 : Int) < (List.length x.2.2.1 : Int) := by omega
  by_cases hk2 : 12 < List.length x.2.2.2.1
  · have : (12 : Int) < (List.length x.2.2.2.1 : Int) := by omega
    simp only [this, hm, hm', hk2, decide_true, decide_false, cond_true, cond_false, Bool.false_or, if_true]
    rfl
  have hk' : ¬ (12 : Int) < (List.length x.2.2.2.1 : Int) := by omega
  simp only [hm, hm', hk', hk2, decide_false, cond_false, Bool.or_self, Bool.false_eq_true, if_false]
  -- the locks
  have second : spec_l10Marks.r1 k (x, ()) (x, (0 : Int)) = some (locksL x.2.2.2.1, ()) := by
    have inner : ∀ (self : (Tx × Int) → Option spec_l10Marks.Out) (e2 : Unit → Option spec_l10Marks.Out) (i : Nat) (hi : i < List.length x.2.2.2.1), spec_l10Marks.r2 k self e2 (x, ()) x (i : Int) (0 : Int) = if hasK (x.2.2.2.1.take i) (x.2.2.2.1)[i] then some ((6 : Int), ()) else self (x, w64 ((i : Int) + 1)) := fun self e2 i hi => by
      have hti : (x.2.2.2.1.take i).length = i := by simp; omega
      have := for_loopE (B := fun self' v => spec_l10Marks.B2 k self' (fun z => spec_l10Marks.Q1 k self e2 (x, ()) x (i : Int) z) (x, ()) x (i : Int) v) (x.2.2.2.1.take i) (fun (_ : Unit) (j : Int) => j) (fun _ _ y => if decide (y = (x.2.2.2.1)[i]) then .inl (some ((6 : Int), ())) else .inr ()) (fun _ => self (x, w64 ((i : Int) + 1))) (fun _ _ => True) (by rw [maxLen_val]; omega)
        (fun j hj s self' _ => by
          show spec_l10Marks.b2 _ _ _ _ _ _ = _
          unfold spec_l10Marks.b2
          rw [hti] at hj
          have hlt : (j : Int) < (i : Int) := by omega
          have hjl : j < List.length x.2.2.2.1 := by omega
          simp only [hlt, decide_true, cond_true, Int.natCast_nonneg, if_true, Int.toNat_natCast, List.getElem?_eq_getElem hjl, List.getElem?_eq_getElem hi, Option.bind_some, kq_eq, List.getElem_take]
          by_cases hh : (x.2.2.2.1)[j] = (x.2.2.2.1)[i]
          · simp only [hh, decide_true, cond_true, if_true]
          · simp only [hh, decide_false, cond_false, Bool.false_eq_true, if_false])
        (fun _ _ _ _ _ _ => trivial) (fun s self' _ => by
          show spec_l10Marks.b2 _ _ _ _ _ _ = _
          unfold spec_l10Marks.b2
          simp only [hti, Int.lt_irrefl, decide_false, cond_false]
          rfl) () trivial k (by omega)
      rw [forI_any] at this
      exact this
    have := for_loop (B := fun self v => spec_l10Marks.B1 k self (fun z => spec_l10Marks.Q2 k (x, ()) z) (x, ()) v) x.2.2.2.1 (fun (_ : Unit) (i : Int) => (x, i)) (fun i _ y => if lockC x.2.2.2.1 i y = 0 then .inr () else .inl (lockC x.2.2.2.1 i y, ())) (fun _ => (0, ())) (fun _ _ => True) (by rw [maxLen_val]; omega)
      (fun i hi s self _ => by
        show spec_l10Marks.b1 _ _ _ _ _ = _
        unfold spec_l10Marks.b1 lockC
        have hlt : (i : Int) < (List.length x.2.2.2.1 : Int) := by omega
        simp only [hlt, decide_true, cond_true, Int.natCast_nonneg, if_true, Int.toNat_natCast, List.getElem?_eq_getElem hi, Option.bind_some, specKeyB_eq]
        rw [inner self _ i hi]
        cases keyB2 (x.2.2.2.1)[i] <;> cases hasK (x.2.2.2.1.take i) (x.2.2.2.1)[i] <;> rfl)
      (fun _ _ _ _ _ _ => trivial) (fun s self _ => by
        show spec_l10Marks.b1 _ _ _ _ _ = _
        unfold spec_l10Marks.b1
        simp only [Int.lt_irrefl, decide_false, cond_false]
        rfl) () trivial k (by omega)
    refine Eq.trans this ?_
    unfold locksL
    generalize hks : x.2.2.2.1 = ks
    have gen : ∀ (f : Nat → Key → Int) (ys : List Key) (i : Nat), forI (fun i (_ : Unit) y => if f i y = 0 then .inr () else .inl (f i y, ())) (fun _ => ((0 : Int), ())) i ys () = (forI (fun i (_ : Unit) y => if f i y = 0 then .inr () else .inl (f i y)) (fun _ => (0 : Int)) i ys (), ()) := by
      intro f ys
      induction ys with
      | nil => intro i; rfl
      | cons y ys ih => intro i; simp only [forI]; by_cases h0 : f i y = 0 <;> simp [h0, ih]
    rw [gen (lockC ks)]
  have := for_loopE (B := fun self v => spec_l10Marks.B0 k self (fun z => spec_l10Marks.Q0 k (x, ()) z) (x, ()) v) x.2.2.1 (fun (_ : Int) (i : Int) => i) (fun i last m => if inB m last (List.length x.2.1 : Int) then .inr m else .inl (some ((3 : Int), ()))) (fun _ => some (locksL x.2.2.2.1, ()))
    (fun i last => 0 ≤ last ∧ (i = 0 → last = 0) ∧ ∀ y, 0 < i → x.2.2.1[i - 1]? = some y → last = y) (by rw [maxLen_val]; omega)
    (fun i hi last self hI => by
      obtain ⟨i1, i2, i3⟩ := hI
      show spec_l10Marks.b0 _ _ _ _ = _
      unfold spec_l10Marks.b0
      have hlt : (i : Int) < (List.length x.2.2.1 : Int) := by omega
      simp only [hlt, decide_true, cond_true, Int.natCast_nonneg, if_true, Int.toNat_natCast, List.getElem?_eq_getElem hi, Option.bind_some, specIn_eq]
      generalize hmm : (x.2.2.1)[i] = m
      rw [← inB_last i1]
      show (bif !inB m 0 (List.length x.2.1 : Int) then _ else _) = _
      cases hb0 : inB m 0 (List.length x.2.1 : Int) with
      | false => rfl
      | true =>
        have hm0 : 0 ≤ m := by
          simp only [inB, Bool.and_eq_true, decide_eq_true_eq] at hb0
          exact hb0.1
        simp only [Bool.not_true, cond_false, Bool.true_and]
        by_cases h0 : i = 0
        · subst h0
          have := i2 rfl
          subst this
          have hz : ¬ (0 : Int) < ((0 : Nat) : Int) := by omega
          simp only [hz, hm0, decide_true, decide_false, cond_false, if_true]
        · have hi1 : i - 1 < List.length x.2.2.1 := by omega
          have hl := i3 (x.2.2.1)[i - 1] (by omega) (List.getElem?_eq_getElem hi1)
          have hp : (0 : Int) < (i : Int) := by omega
          simp only [hp, decide_true, cond_true, wprev (show 0 < i by omega) (by rw [maxLen_val]; omega), Int.natCast_nonneg, if_true, Int.toNat_natCast, List.getElem?_eq_getElem hi1, Option.bind_some]
          rw [← hl]
          by_cases hc : last ≤ m
          · have : ¬ m < last := by omega
            simp only [hc, this, decide_true, decide_false, cond_false, if_true]
          · have : m < last := by omega
            simp only [hc, this, decide_true, decide_false, cond_true, Bool.false_eq_true, if_false])
    (fun i hi last last' hI hs => by
      split at hs
      · rename_i hb
        injection hs with hs
        subst hs
        simp only [inB, Bool.and_eq_true, decide_eq_true_eq] at hb
        refine ⟨by omega, fun e => by omega, fun y _ hy => ?_⟩
        rw [Nat.add_sub_cancel, List.getElem?_eq_getElem hi] at hy
        injection hy
      · cases hs)
    (fun last self hI => by
      show spec_l10Marks.b0 _ _ _ _ = _
      unfold spec_l10Marks.b0
      simp only [Int.lt_irrefl, decide_false, cond_false]
      exact second) 0 ⟨Int.le_refl _, fun _ => rfl, fun _ h => by omega⟩ k (by omega)
  refine Eq.trans this ?_
  unfold marksL
  rw [marksE]
  cases forI (fun _ last m => if inB m last (List.length x.2.1 : Int) then .inr m else .inl false) (fun _ => true) 0 x.2.2.1 0 <;> rfl
end OT
