/- What ApplyChanges and the faults of rows are; no conditions but the lengths. -/
import Derived.Test.YtkimdiobckckiaaXF
set_option linter.unusedVariables false
set_option linter.unusedSimpArgs false
namespace OT
open Go

/-! Faults of rows. -/
def rowsStep (xs : List Row) (i : Nat) (x : Row) : Sum (Int × Unit) Unit :=
  if rowF x = 0 then (if 0 < i then (match xs[i - 1]? with | some y => if befB (rk y) (rk x) then .inr () else .inl (1, ()) | none => .inl (1, ())) else .inr ()) else .inl (rowF x, ())
def rowsF (xs : List Row) : Int := if 60 < xs.length then 2 else (forI (fun i (_ : Unit) x => rowsStep xs i x) (fun _ => ((0 : Int), ())) 0 xs ()).1

theorem specRows_eq (xs : List Row) (hl : xs.length ≤ maxLen) (h : ∀ c ∈ xs, rl c) : spec_l6Rows.sem (xs, ()) = some (rowsF xs, ()) := by
  refine lift_eq (k := xs.length + 1) fun k hk => (spec_l6Rows.raw_eq k _).trans ?_
  have := for_loop (B := fun self v => spec_l6Rows.B0 0 self (fun z => spec_l6Rows.Q0 0 (xs, ()) z) (xs, ()) v) xs (fun (_ : Unit) (i : Int) => i) (fun i _ x => rowsStep xs i x) (fun _ => (0, ())) (fun _ _ => True) hl
    (fun i hi _ self _ => by
      show spec_l6Rows.b0 _ _ _ _ = _
      unfold spec_l6Rows.b0 rowsStep
      have hlt : (i : Int) < (xs.length : Int) := by omega
      simp only [hlt, decide_true, cond_true, Int.natCast_nonneg, if_true, Int.toNat_natCast, List.getElem?_eq_getElem hi, Option.bind_some, specRow_eq _ (h _ (List.getElem_mem hi))]
      by_cases h1 : rowF xs[i] = 0
      · simp only [h1, decide_true, Bool.not_true, cond_false, if_true]
        by_cases h0 : 0 < i
        · have h0' : (0 : Int) < (i : Int) := by omega
          have hi' : i - 1 < xs.length := by omega
          simp only [h0, h0', decide_true, cond_true, if_true, wprev h0 (by omega), Int.natCast_nonneg, Int.toNat_natCast, List.getElem?_eq_getElem hi', Option.bind_some, specBefore_eq]
          cases befB (rk xs[i - 1]) (rk xs[i]) <;> rfl
        · have h0' : ¬ (0 : Int) < (i : Int) := by omega
          simp [h0, h0']
      · simp [h1]) (fun _ _ _ _ _ _ => trivial) (fun _ self _ => by
      show spec_l6Rows.b0 _ _ _ _ = _
      unfold spec_l6Rows.b0
      simp [spec_l6Rows.Q0, spec_l6Rows.q0]) () trivial k (by omega)
  have this : spec_l6Rows.r0 k (xs, ()) 0 = _ := this
  unfold spec_l6Rows.raw spec_l6Rows.p rowsF
  rw [this, show (60 : Int) = ((60 : Nat) : Int) from rfl]
  simp only [len60]
  by_cases h1 : 60 < xs.length <;> simp [h1] <;> rfl

theorem implRows_eq (xs : List Row) (hl : xs.length ≤ maxLen) (h : ∀ c ∈ xs, rl c) : impl_RowsFault.sem (xs, ()) = some (rowsF xs, ()) := by
  refine lift_eq (k := xs.length + 1) fun k hk => (impl_RowsFault.raw_eq k _).trans ?_
  have := for_loop (B := fun self v => impl_RowsFault.B0 0 self (fun z => impl_RowsFault.Q0 0 (xs, ()) z) (xs, ()) v) xs (fun (_ : Unit) (i : Int) => i) (fun i _ x => rowsStep xs i x) (fun _ => (0, ())) (fun _ _ => True) hl
    (fun i hi _ self _ => by
      show impl_RowsFault.b0 _ _ _ _ = _
      unfold impl_RowsFault.b0 rowsStep rk
      have hlt : (i : Int) < (xs.length : Int) := by omega
      simp only [hlt, decide_true, cond_true, Int.natCast_nonneg, if_true, Int.toNat_natCast, List.getElem?_eq_getElem hi, Option.bind_some, implRow_eq _ (h _ (List.getElem_mem hi))]
      by_cases h1 : rowF xs[i] = 0
      · simp only [h1, decide_true, Bool.not_true, cond_false, if_true]
        by_cases h0 : 0 < i
        · have h0' : (0 : Int) < (i : Int) := by omega
          have hi' : i - 1 < xs.length := by omega
          simp only [h0, h0', decide_true, cond_true, if_true, wprev h0 (by omega), Int.natCast_nonneg, Int.toNat_natCast, List.getElem?_eq_getElem hi', Option.bind_some, isBefore_eq]
          cases befB (xs[i - 1].1, xs[i - 1].2.1) (xs[i].1, xs[i].2.1) <;> rfl
        · have h0' : ¬ (0 : Int) < (i : Int) := by omega
          simp [h0, h0']
      · simp [h1]) (fun _ _ _ _ _ _ => trivial) (fun _ self _ => by
      show impl_RowsFault.b0 _ _ _ _ = _
      unfold impl_RowsFault.b0
      simp [impl_RowsFault.Q0, impl_RowsFault.q0]) () trivial k (by omega)
  have this : impl_RowsFault.r0 k (xs, ()) 0 = _ := this
  unfold impl_RowsFault.raw impl_RowsFault.p rowsF
  rw [this, show (60 : Int) = ((60 : Nat) : Int) from rfl]
  simp only [len60]
  by_cases h1 : 60 < xs.length <;> simp [h1] <;> rfl

/-- A walk that found nothing. -/
theorem forI_none {α : Type} {f : Nat → Unit → α → Sum (Int × Unit) Unit} (hf : ∀ i s x o, f i s x = .inl o → o.1 ≠ 0) : ∀ (xs : List α) (j : Nat), (forI f (fun _ => ((0 : Int), ())) j xs ()).1 = 0 → ∀ i (hi : i < xs.length), f (j + i) () xs[i] = .inr ()
  | x :: xs, j, h, i, hi => by
    simp only [forI] at h
    cases hx : f j () x with
    | inl o => rw [hx] at h; exact absurd h (hf _ _ _ _ hx)
    | inr u =>
      rw [hx] at h
      cases i with
      | zero => exact hx
      | succ i =>
        have := forI_none hf xs (j + 1) h i (by simpa using hi)
        rw [show j + (i + 1) = j + 1 + i by omega]
        exact this

theorem up_adj : ∀ (xs : List Row), (∀ i (hi : i < xs.length), 0 < i → befB (rk (xs[i - 1]'(by omega))) (rk xs[i]) = true) → up xs
  | [], _ => List.Pairwise.nil
  | [x], _ => List.pairwise_singleton _ _
  | x :: y :: xs, h => by
    have hu : up (y :: xs) := up_adj (y :: xs) fun i hi h0 => by
      have := h (i + 1) (by simp at hi ⊢; omega) (by omega)
      simp only [Nat.add_sub_cancel] at this
      have e : (x :: y :: xs)[i]'(by simp at hi ⊢; omega) = (y :: xs)[i - 1]'(by simp at hi ⊢; omega) := by
        cases i with
        | zero => omega
        | succ i => rfl
      rw [e] at this
      exact this
    have hxy : befB (rk x) (rk y) = true := h 1 (by simp) (by omega)
    refine up_cons.2 ⟨fun z hz => ?_, hu⟩
    rcases List.mem_cons.1 hz with rfl | hz
    · exact hxy
    · exact befB_trans hxy ((up_cons.1 hu).1 z hz)

theorem rowF_text {x : Row} (h : rowF x = 0) : List.length x.2.2.2.1 ≤ 8 := by
  unfold rowF at h
  split at h
  · split at h
    · rename_i ht
      unfold textB at ht
      simp only [Bool.and_eq_true, decide_eq_true_eq] at ht
      exact ht.2
    · cases h
  · cases h

structure Good (xs : List Row) : Prop where
  up : up xs
  ok : ∀ x ∈ xs, rowF x = 0

theorem rowsF_good {xs : List Row} (h : rowsF xs = 0) : Good xs ∧ xs.length ≤ 60 := by
  unfold rowsF at h
  split at h
  · cases h
  · rename_i hl
    have hn := forI_none (f := fun i (_ : Unit) x => rowsStep xs i x) (fun i s x o ho => by
      unfold rowsStep at ho
      split at ho
      · split at ho
        · split at ho
          · split at ho
            · cases ho
            · injection ho with ho; rw [← ho]; decide
          · injection ho with ho; rw [← ho]; decide
        · cases ho
      · rename_i hx
        injection ho with ho; rw [← ho]; exact hx) xs 0 h
    have h1 : ∀ i (hi : i < xs.length), rowF xs[i] = 0 := fun i hi => by
      have := hn i hi
      unfold rowsStep at this
      split at this
      · assumption
      · cases this
    refine ⟨⟨up_adj xs fun i hi h0 => ?_, fun x hx => ?_⟩, by omega⟩
    · have := hn i hi
      unfold rowsStep at this
      rw [if_pos (h1 i hi), Nat.zero_add, if_pos h0, List.getElem?_eq_getElem (show i - 1 < xs.length by omega)] at this
      simp only at this
      split at this
      · assumption
      · cases this
    · obtain ⟨i, hi, rfl⟩ := List.mem_iff_getElem.1 hx
      exact h1 i hi

theorem chF_key {c : Change} (h : chF c = 0) : (c.2.2.1 = true → rk c.2.2.2.1 = ck c) ∧ (c.2.2.1 = true → rowF c.2.2.2.1 = 0) := by
  refine ⟨fun hi => by unfold rk ck; rw [hi]; rfl, fun hi => ?_⟩
  unfold chF at h
  split at h
  · cases h
  · split at h
    · rename_i h2
      simp only [Bool.and_eq_true, Bool.not_eq_true', decide_eq_false_iff_not] at h2
      exact absurd h h2.2
    · first | exact h | (rw [if_pos hi] at h; exact h)

theorem good_done {xs : List Row} {c : Change} (h : Good xs) (hc : chF c = 0) : Good (done1 xs c) := by
  obtain ⟨hk, hr⟩ := chF_key hc
  have hb := h.up
  constructor
  · unfold done1 up
    have h1 : (xs.take (pos xs (ck c))).Pairwise (fun a b => befB (rk a) (rk b) = true) := hb.sublist (List.take_sublist _ _)
    have hdr : ∀ n, (xs.drop n).Pairwise (fun a b => befB (rk a) (rk b) = true) := fun n => hb.sublist (List.drop_sublist _ _)
    have hafter : ∀ y ∈ xs.drop (pos xs (ck c) + if fnd xs (ck c) then 1 else 0), befB (ck c) (rk y) = true := fun y hy => by
      obtain ⟨i, e⟩ := List.mem_iff_getElem?.1 hy
      rw [List.getElem?_drop] at e
      obtain ⟨hlt, e1⟩ := List.getElem?_eq_some_iff.1 e
      have hn := up_not xs (ck c) _ hlt hb (by omega)
      rw [e1] at hn
      clear e1 hlt
      cases hbb : befB (ck c) (rk y) with
      | true => rfl
      | false =>
        have he := befB_tri hbb hn
        exfalso
        cases hf : fnd xs (ck c) with
        | true =>
          obtain ⟨hp, hkk⟩ := fnd_lt hf
          rw [hf] at e
          simp only [if_true] at e
          obtain ⟨hlt, e⟩ := List.getElem?_eq_some_iff.1 e
          have := List.pairwise_iff_getElem.1 hb (pos xs (ck c)) (pos xs (ck c) + 1 + i) hp hlt (by omega)
          rw [e, hkk, he] at this
          rw [befB_irr] at this; cases this
        | false =>
          rw [hf] at e
          simp only [Bool.false_eq_true, if_false, Nat.add_zero] at e
          obtain ⟨hlt, e⟩ := List.getElem?_eq_some_iff.1 e
          have hp : pos xs (ck c) < xs.length := by omega
          have hn0 := up_not xs (ck c) _ hp hb (Nat.le_refl _)
          have hne : rk xs[pos xs (ck c)] ≠ ck c := fun e2 => by
            unfold fnd at hf
            rw [List.getElem?_eq_getElem hp] at hf
            simp [e2] at hf
          have hlt0 : befB (ck c) (rk xs[pos xs (ck c)]) = true := by
            cases hb0 : befB (ck c) (rk xs[pos xs (ck c)]) with
            | true => rfl
            | false => exact absurd (befB_tri hb0 hn0).symm hne
          cases i with
          | zero =>
            simp only [Nat.add_zero] at e
            rw [e, ← he, befB_irr] at hlt0; cases hlt0
          | succ i =>
            have := List.pairwise_iff_getElem.1 hb (pos xs (ck c)) (pos xs (ck c) + (i + 1)) hp hlt (by omega)
            rw [e] at this
            have := befB_trans hlt0 this
            rw [← he, befB_irr] at this; cases this
    have hcross : ∀ a ∈ xs.take (pos xs (ck c)), ∀ y ∈ xs.drop (pos xs (ck c) + if fnd xs (ck c) then 1 else 0), befB (rk a) (rk y) = true := fun a ha y hy => befB_trans (take_bef ha) (hafter y hy)
    cases hi : c.2.2.1 with
    | true =>
      have hkc := hk hi
      simp only [if_true]
      refine List.pairwise_append.2 ⟨List.pairwise_append.2 ⟨h1, List.pairwise_singleton _ _, fun a ha b hb => ?_⟩, hdr _, fun a ha y hy => ?_⟩
      · rw [List.mem_singleton] at hb; subst hb; rw [hkc]; exact take_bef ha
      · rcases List.mem_append.1 ha with ha | ha
        · exact hcross a ha y hy
        · rw [List.mem_singleton] at ha; subst ha; rw [hkc]; exact hafter y hy
    | false =>
      simp only [Bool.false_eq_true, if_false, List.append_nil]
      exact List.pairwise_append.2 ⟨h1, hdr _, hcross⟩
  · intro x hx
    unfold done1 at hx
    rcases List.mem_append.1 hx with hx | hx
    · rcases List.mem_append.1 hx with hx | hx
      · exact h.ok x (List.mem_of_mem_take hx)
      · split at hx
        · rename_i hi
          rw [List.mem_singleton] at hx
          rw [hx]; exact hr hi
        · cases hx
    · exact h.ok x (List.mem_of_mem_drop hx)
theorem done_len (xs : List Row) (c : Change) : (done1 xs c).length ≤ xs.length + 1 := by
  unfold done1
  rw [List.length_append, List.length_append, List.length_take, List.length_drop]
  have : (if c.2.2.1 = true then [c.2.2.2.1] else []).length ≤ 1 := by split <;> simp
  omega

/-! All changes. -/
def applyStep (i : Nat) (s : List Row) (c : Change) : Sum (RowsResult × Unit) (List Row) := if chF c = 0 then (if fits1 s c then .inr (done1 s c) else .inl ((8, [], ()), ())) else .inl ((chF c, [], ()), ())
def applyFin (s : List Row) : RowsResult × Unit := if 60 < s.length then ((2, [], ()), ()) else ((0, s, ()), ())
def applyF (xs : List Row) (cs : List Change) : RowsResult := if rowsF xs = 0 then (forI applyStep applyFin 0 cs xs).1 else (rowsF xs, [], ())

theorem applyInv (n i : Nat) (s s' : List Row) (c : Change) (h : Good s ∧ s.length ≤ 60 + i) (hf : applyStep n s c = .inr s') : Good s' ∧ s'.length ≤ 60 + (i + 1) := by
  unfold applyStep at hf
  split at hf
  · rename_i hc
    split at hf
    · injection hf with hf
      subst hf
      exact ⟨good_done h.1 hc, by have := done_len s c; omega⟩
    · cases hf
  · cases hf

theorem cloneRow_eq (xs : List Row) (h : xs.length ≤ 1048576) : slices_Clone.sem (xs, ()) = some (xs, ()) := by
  refine lift_eq (k := 0) fun k _ => (slices_Clone.raw_eq k _).trans ?_
  show slices_Clone.p _ = _
  unfold slices_Clone.p
  have c1 : ([] : List Row).length + xs.length ≤ CAP := cap_ok (by simp only [List.length_nil]; omega)
  exact nilB_eq (fun e => by have e : xs = [] := e; subst e; rfl) (by rw [if_pos c1]; rfl)

theorem implApply_eq (xs : List Row) (cs : List Change) (hl : xs.length ≤ maxLen) (h : ∀ x ∈ xs, rl x) (hcl : cs.length ≤ 1048576) (hc : ∀ c ∈ cs, cl c) : impl_ApplyChanges.sem (xs, cs, ()) = some (applyF xs cs, ()) := by
  refine lift_eq (k := cs.length + 1) fun k hk => (impl_ApplyChanges.raw_eq k _).trans ?_
  unfold impl_ApplyChanges.raw impl_ApplyChanges.p applyF
  simp only [implRows_eq xs hl h, Option.bind_some]
  by_cases h0 : rowsF xs = 0
  · obtain ⟨hg, hn⟩ := rowsF_good h0
    simp only [h0, decide_true, Bool.not_true, cond_false, if_true, cloneRow_eq xs (by omega), Option.bind_some]
    exact for_loop (B := fun self v => impl_ApplyChanges.B0 0 self (fun z => impl_ApplyChanges.Q0 0 (xs, cs, ()) z) (xs, cs, ()) v) cs (fun (s : List Row) (i : Int) => (s, i)) applyStep applyFin (fun i s => Good s ∧ s.length ≤ 60 + i) (by rw [maxLen_val]; omega)
      (fun i hi s self hI => by
        show impl_ApplyChanges.b0 _ _ _ _ = _
        unfold impl_ApplyChanges.b0 applyStep
        have hlt : (i : Int) < (cs.length : Int) := by omega
        simp only [hlt, decide_true, cond_true, Int.natCast_nonneg, if_true, Int.toNat_natCast, List.getElem?_eq_getElem hi, Option.bind_some, implChange_eq _ (hc _ (List.getElem_mem hi)), fitsTo_eq _ s hI.1.up (by omega), changed_eq s _ hI.1.up (by omega)]
        by_cases h1 : chF cs[i] = 0
        · simp only [h1, decide_true, Bool.not_true, cond_false, if_true]
          cases fits1 s cs[i] <;> rfl
        · simp [h1]) (fun i hi s s' hI hf => applyInv _ i s s' _ hI hf) (fun s self hI => by
        show impl_ApplyChanges.b0 _ _ _ _ = _
        unfold impl_ApplyChanges.b0 applyFin
        have hlt : ¬ (cs.length : Int) < (cs.length : Int) := by omega
        simp only [hlt, decide_false, cond_false, impl_ApplyChanges.Q0, impl_ApplyChanges.q0]
        rw [show (60 : Int) = ((60 : Nat) : Int) from rfl, len60]
        by_cases h1 : 60 < s.length <;> simp [h1]) xs ⟨hg, by omega⟩ k (by omega)
  · simp [h0]; rfl

theorem good_zz : ∀ {xs : List Row}, (∀ x ∈ xs, rowF x = 0) → zz (.slc tRow) xs ≤ 9 * xs.length
  | [], _ => Nat.le_refl _
  | x :: xs, h => by
    have h1 : zz (.slc tRow) (x :: xs : List Row) = zz tRow x + 1 + zz (.slc tRow) xs := zz_cons (e := tRow) x xs
    have h2 := rowF_text (h x List.mem_cons_self)
    have h3 : zz tRow x = 0 + (0 + (0 + (List.length x.2.2.2.1 + 0))) := rfl
    have h4 := good_zz fun y hy => h y (List.mem_cons_of_mem _ hy)
    simp only [List.length_cons]
    omega

/-- What comes of changes is small. -/
theorem apply_small (xs : List Row) (cs : List Change) : (∀ x ∈ (applyF xs cs).2.1, rowF x = 0) ∧ zz (.slc tRow) (applyF xs cs).2.1 ≤ 540 := by
  have main : ∀ (cs : List Change) (j i : Nat) (s : List Row), Good s ∧ s.length ≤ 60 + i → (∀ x ∈ (forI applyStep applyFin j cs s).1.2.1, rowF x = 0) ∧ (forI applyStep applyFin j cs s).1.2.1.length ≤ 60 := by
    intro cs
    induction cs with
    | nil =>
      intro j i s h
      simp only [forI, applyFin]
      split
      · exact ⟨(fun x hx => by cases hx), Nat.zero_le _⟩
      · exact ⟨h.1.ok, by show s.length ≤ 60; omega⟩
    | cons c cs ih =>
      intro j i s h
      simp only [forI]
      split
      · rename_i o ho
        unfold applyStep at ho
        split at ho
        · split at ho
          · cases ho
          · injection ho with ho; rw [← ho]; exact ⟨(fun x hx => by cases hx), Nat.zero_le _⟩
        · injection ho with ho; rw [← ho]; exact ⟨(fun x hx => by cases hx), Nat.zero_le _⟩
      · rename_i s' hs
        exact ih (j + 1) (i + 1) s' (applyInv _ i s s' c h hs)
  unfold applyF
  split
  · rename_i h0
    obtain ⟨hg, hn⟩ := rowsF_good h0
    obtain ⟨h1, h2⟩ := main cs 0 0 xs ⟨hg, by omega⟩
    exact ⟨h1, by have := good_zz h1; omega⟩
  · exact ⟨(fun x hx => by cases hx), Nat.zero_le _⟩
end OT
