/- A change noted: the program and the reference alike; and the law of NoteChange. -/
import Derived.Test.YtnpccifddodjlaaXQ
set_option linter.unusedVariables false
set_option linter.unusedSimpArgs false
namespace OT
open Go

/-! Where a transaction is. -/
def atF (xs : List Tx) (t : Int) : Int := whereF (fun x => decide (x.1 = t)) 0 xs
theorem specAt_eq (xs : List Tx) (t : Int) (h : xs.length ≤ 1048576) : spec_l10At.sem (xs, t, ()) = some (atF xs t, ()) := by
  refine lift_eq (k := xs.length + 1) fun k hk => (spec_l10At.raw_eq k _).trans ?_
  have := for_loop (B := fun self v => spec_l10At.B0 0 self (fun z => spec_l10At.Q0 0 (xs, t, ()) z) (xs, t, ()) v) xs (fun (_ : Unit) (i : Int) => i) (fun i _ x => if decide (x.1 = t) then .inl ((i : Int), ()) else .inr ()) (fun _ => ((-1 : Int), ())) (fun _ _ => True) (by rw [maxLen_val]; omega)
    (fun i hi s self _ => by
      show spec_l10At.b0 _ _ _ _ = _
      unfold spec_l10At.b0
      have hlt : (i : Int) < (xs.length : Int) := by omega
      simp only [hlt, decide_true, cond_true, Int.natCast_nonneg, if_true, Int.toNat_natCast, List.getElem?_eq_getElem hi, Option.bind_some]
      cases decide ((xs[i]).1 = t) <;> rfl)
    (fun _ _ _ _ _ _ => trivial) (fun s self _ => by
      show spec_l10At.b0 _ _ _ _ = _
      unfold spec_l10At.b0
      simp only [Int.lt_irrefl, decide_false, cond_false]
      rfl) () trivial k (by omega)
  rw [forI_where] at this
  exact this
theorem implAt_eq (xs : List Tx) (t : Int) (h : xs.length ≤ 1048576) : impl_txAt.sem (xs, t, ()) = some (atF xs t, ()) := by
  have h1 : ∀ x : Tx, impl_txAt_1.sem (x, t, ()) = some (decide (x.1 = t), ()) := fun x => by
    refine lift_eq (k := 0) fun k _ => (impl_txAt_1.raw_eq k _).trans ?_
    rfl
  have h2 : slices_IndexFunc.sem (xs, ((235, t) : Nat × Int), ()) = some (atF xs t, ()) := by
    refine lift_eq (k := xs.length + 1) fun k hk => (slices_IndexFunc.raw_eq k _).trans ?_
    have := for_loop (B := fun self v => slices_IndexFunc.B0 0 self (fun z => slices_IndexFunc.Q0 0 (xs, ((235, t) : Nat × Int), ()) z) (xs, ((235, t) : Nat × Int), ()) v) xs (fun (_ : Unit) (i : Int) => i) (fun i _ x => if decide (x.1 = t) then .inl ((i : Int), ()) else .inr ()) (fun _ => ((-1 : Int), ())) (fun _ _ => True) (by rw [maxLen_val]; omega)
      (fun i hi s self _ => by
        show slices_IndexFunc.b0 _ _ _ _ = _
        unfold slices_IndexFunc.b0
        have hlt : (i : Int) < (xs.length : Int) := by omega
        simp only [hlt, decide_true, cond_true, Int.natCast_nonneg, if_true, Int.toNat_natCast, List.getElem?_eq_getElem hi, Option.bind_some, h1]
        cases decide ((xs[i]).1 = t) <;> rfl)
      (fun _ _ _ _ _ _ => trivial) (fun s self _ => by
        show slices_IndexFunc.b0 _ _ _ _ = _
        unfold slices_IndexFunc.b0
        simp only [Int.lt_irrefl, decide_false, cond_false]
        rfl) () trivial k (by omega)
    rw [forI_where] at this
    exact this
  refine lift_eq (k := 0) fun k _ => (impl_txAt.raw_eq k _).trans ?_
  show impl_txAt.p _ = _
  unfold impl_txAt.p
  rw [h2]
  rfl

/-! Copies. -/
theorem cloneC_eq (s : List Change) (h : s.length ≤ 1048576) : slices_Clone_Change.sem (s, ()) = some (s, ()) := by
  refine lift_eq (k := 0) fun k _ => (slices_Clone_Change.raw_eq k _).trans ?_
  show slices_Clone_Change.p _ = _
  unfold slices_Clone_Change.p
  refine nilB_eq (fun e => by rw [show s = [] from e]) ?_
  have : ([] : List Change).length + s.length ≤ CAP := cap_ok (by simp only [List.length_nil]; omega)
  rw [if_pos this, List.nil_append]
theorem cloneI_eq (s : List Int) (h : s.length ≤ 1048576) : slices_Clone_int64.sem (s, ()) = some (s, ()) := by
  refine lift_eq (k := 0) fun k _ => (slices_Clone_int64.raw_eq k _).trans ?_
  show slices_Clone_int64.p _ = _
  unfold slices_Clone_int64.p
  refine nilB_eq (fun e => by rw [show s = [] from e]) ?_
  have : ([] : List Int).length + s.length ≤ CAP := cap_ok (by simp only [List.length_nil]; omega)
  rw [if_pos this, List.nil_append]
theorem cloneK_eq (s : List Key) (h : s.length ≤ 1048576) : slices_Clone_Key.sem (s, ()) = some (s, ()) := by
  refine lift_eq (k := 0) fun k _ => (slices_Clone_Key.raw_eq k _).trans ?_
  show slices_Clone_Key.p _ = _
  unfold slices_Clone_Key.p
  refine nilB_eq (fun e => by rw [show s = [] from e]) ?_
  have : ([] : List Key).length + s.length ≤ CAP := cap_ok (by simp only [List.length_nil]; omega)
  rw [if_pos this, List.nil_append]
theorem copyOne_eq (x : Tx) (h : tl x) : spec_l10CopyOne.sem (x, ()) = some (x, ()) := by
  obtain ⟨h1, h2, h3, _⟩ := h
  refine lift_eq (k := 0) fun k _ => (spec_l10CopyOne.raw_eq k _).trans ?_
  show spec_l10CopyOne.p _ = _
  unfold spec_l10CopyOne.p
  have c1 : ([] : List Change).length + List.length x.2.1 ≤ CAP := cap_ok (by simp only [List.length_nil]; omega)
  have c2 : ([] : List Int).length + List.length x.2.2.1 ≤ CAP := cap_ok (by simp only [List.length_nil]; omega)
  have c3 : ([] : List Key).length + List.length x.2.2.2.1 ≤ CAP := cap_ok (by simp only [List.length_nil]; omega)
  rw [if_pos c1, if_pos c2, if_pos c3]
  rfl
theorem fold_self {α : Type} : ∀ (xs s : List α), xs.foldl (fun s x => s ++ [x]) s = s ++ xs
  | [], s => by simp
  | x :: xs, s => by rw [List.foldl_cons, fold_self]; simp
theorem specCopyT_eq (xs : List Tx) (h : tls xs) : spec_l10Copy.sem (xs, ()) = some (xs, ()) := by
  obtain ⟨h1, h2⟩ := h
  refine lift_eq (k := xs.length + 1) fun k hk => (spec_l10Copy.raw_eq k _).trans ?_
  have := for_loop (B := fun self v => spec_l10Copy.B0 0 self (fun z => spec_l10Copy.Q0 0 (xs, ()) z) (xs, ()) v) xs (fun (s : List Tx) (i : Int) => (s, i)) (fun _ s x => .inr (s ++ [x])) (fun s => (s, ())) (fun i s => s.length = i) (by rw [maxLen_val]; omega)
    (fun i hi s self hI => by
      show spec_l10Copy.b0 _ _ _ _ = _
      unfold spec_l10Copy.b0
      have hlt : (i : Int) < (xs.length : Int) := by omega
      have hc : s.length + [xs[i]].length ≤ CAP := cap_ok (by simp only [List.length_cons, List.length_nil]; omega)
      simp only [hlt, decide_true, cond_true, Int.natCast_nonneg, if_true, Int.toNat_natCast, List.getElem?_eq_getElem hi, Option.bind_some, copyOne_eq _ (h2 _ (List.getElem_mem hi)), hc])
    (fun i hi s s' hI hs => by injection hs with hs; rw [← hs]; simp [hI]) (fun s self hI => by
      show spec_l10Copy.b0 _ _ _ _ = _
      unfold spec_l10Copy.b0
      simp only [Int.lt_irrefl, decide_false, cond_false]
      rfl) [] rfl k (by omega)
  rw [forI_fold, fold_self] at this
  exact this
theorem ownTxs_eq (xs : List Tx) (h : tls xs) : impl_ownTxs.sem (xs, ()) = some (xs, ()) := by
  obtain ⟨h1, h2⟩ := h
  refine lift_eq (k := xs.length + 1) fun k hk => (impl_ownTxs.raw_eq k _).trans ?_
  have := for_loop (B := fun self v => impl_ownTxs.B0 0 self (fun z => impl_ownTxs.Q0 0 (xs, ()) z) (xs, ()) v) xs (fun (s : List Tx) (i : Int) => (s, i)) (fun _ s x => .inr (s ++ [x])) (fun s => (s, ())) (fun i s => s.length = i) (by rw [maxLen_val]; omega)
    (fun i hi s self hI => by
      show impl_ownTxs.b0 _ _ _ _ = _
      unfold impl_ownTxs.b0
      have hlt : (i : Int) < (xs.length : Int) := by omega
      have hx := h2 _ (List.getElem_mem hi)
      simp only [hlt, decide_true, cond_true, Int.natCast_nonneg, if_true, Int.toNat_natCast, List.getElem?_eq_getElem hi, Option.bind_some]
      generalize xs[i] = x at hx
      obtain ⟨g1, g2, g3, _⟩ := hx
      rw [cloneC_eq _ g1]
      simp only [Option.bind_some]
      rw [cloneI_eq _ g2]
      simp only [Option.bind_some]
      rw [cloneK_eq _ g3]
      have hc : s.length + [x].length ≤ CAP := cap_ok (by simp only [List.length_cons, List.length_nil]; omega)
      simp only [Option.bind_some]
      rw [if_pos hc])
    (fun i hi s s' hI hs => by injection hs with hs; rw [← hs]; simp [hI]) (fun s self hI => by
      show impl_ownTxs.b0 _ _ _ _ = _
      unfold impl_ownTxs.b0
      simp only [Int.lt_irrefl, decide_false, cond_false]
      rfl) [] rfl k (by omega)
  rw [forI_fold, fold_self] at this
  exact this

/-! Noted. -/
def noteX (x : Tx) (c : Change) : Tx := (x.1, x.2.1 ++ [c], x.2.2.1, if hasK x.2.2.2.1 (keyOfC c) then x.2.2.2.1 else x.2.2.2.1 ++ [keyOfC c], ())
def noteF (xs : List Tx) (j : Nat) (c : Change) : List Tx := match xs[j]? with
  | some x => xs.set j (noteX x c)
  | none => xs

theorem specNote_eq (xs : List Tx) (j : Nat) (c : Change) (h : tls xs) (hj : j < xs.length) : spec_l10Note.sem (xs, (j : Int), c, ()) = some (noteF xs j c, ()) := by
  refine lift_eq (k := 0) fun k _ => (spec_l10Note.raw_eq k _).trans ?_
  show spec_l10Note.p _ = _
  unfold spec_l10Note.p noteF
  have hx := h.2 _ (List.getElem_mem hj)
  have hin : (0 : Int) ≤ (j : Int) ∧ (j : Int) < (xs.length : Int) := by omega
  simp only [specCopyT_eq xs h, Option.bind_some, hin, and_self, if_true, Int.toNat_natCast, List.getElem?_eq_getElem hj, specKeyOf_eq]
  generalize hxx : xs[j] = x at hx
  obtain ⟨g1, g2, g3, _⟩ := hx
  have hs1 : xs.set j x = xs := by rw [← hxx]; exact List.set_getElem_self hj
  have hg : xs[j]? = some x := by rw [List.getElem?_eq_getElem hj, hxx]
  have c1 : List.length x.2.1 + [c].length ≤ CAP := cap_ok (by simp only [List.length_cons, List.length_nil]; omega)
  have c2 : List.length x.2.2.2.1 + [keyOfC c].length ≤ CAP := cap_ok (by simp only [List.length_cons, List.length_nil]; omega)
  have hq : ∀ y : Tx, (xs.set j y)[j]? = some y := fun y => by simp [hj]
  rw [if_pos c1, hs1]
  simp only [hg, Option.bind_some, hq]
  rw [locks_eq _ _ (by rw [maxLen_val]; show List.length x.2.2.2.1 ≤ _; omega)]
  simp only [Option.bind_some]
  unfold noteX
  show (bif !hasK x.2.2.2.1 (keyOfC c) then _ else _) = _
  cases hasK x.2.2.2.1 (keyOfC c) with
  | true => rfl
  | false =>
    simp only [Bool.not_false, cond_true]
    rw [if_pos c2]
    simp only [hq, Option.bind_some, List.set_set, Bool.false_eq_true, if_false]
theorem implNote_eq (xs : List Tx) (j : Nat) (c : Change) (h : tls xs) (hj : j < xs.length) : impl_noted.sem (xs, (j : Int), c, ()) = some (noteF xs j c, ()) := by
  refine lift_eq (k := 0) fun k _ => (impl_noted.raw_eq k _).trans ?_
  show impl_noted.p _ = _
  unfold impl_noted.p noteF
  have hx := h.2 _ (List.getElem_mem hj)
  have hin : (0 : Int) ≤ (j : Int) ∧ (j : Int) < (xs.length : Int) := by omega
  simp only [ownTxs_eq xs h, Option.bind_some, hin, and_self, if_true, Int.toNat_natCast, List.getElem?_eq_getElem hj, lock_eq]
  generalize hxx : xs[j] = x at hx
  obtain ⟨g1, g2, g3, _⟩ := hx
  have hs1 : xs.set j x = xs := by rw [← hxx]; exact List.set_getElem_self hj
  have hg : xs[j]? = some x := by rw [List.getElem?_eq_getElem hj, hxx]
  have c1 : List.length x.2.1 + [c].length ≤ CAP := cap_ok (by simp only [List.length_cons, List.length_nil]; omega)
  have c2 : List.length x.2.2.2.1 + [keyOfC c].length ≤ CAP := cap_ok (by simp only [List.length_cons, List.length_nil]; omega)
  have hq : ∀ y : Tx, (xs.set j y)[j]? = some y := fun y => by simp [hj]
  rw [if_pos c1, hs1]
  simp only [hg, Option.bind_some, hq]
  rw [contains_eq _ _ (by rw [maxLen_val]; show List.length x.2.2.2.1 ≤ _; omega)]
  simp only [Option.bind_some]
  unfold noteX
  show (bif !hasK x.2.2.2.1 (keyOfC c) then _ else _) = _
  cases hasK x.2.2.2.1 (keyOfC c) with
  | true => rfl
  | false =>
    simp only [Bool.not_false, cond_true]
    rw [if_pos c2]
    simp only [hq, Option.bind_some, List.set_set, Bool.false_eq_true, if_false]

def badT (c : Int) : TxsResult := (c, ([] : List Tx), ())
def noteAllF (xs : List Tx) (t : Int) (c : Change) : TxsResult :=
  if txsF xs = 0 then
    if atF xs t < 0 then badT 4
    else if chS c = 0 then
      if lockF xs (keyOfC c) ≠ 0 ∧ lockF xs (keyOfC c) ≠ t then badT 7
      else if 12 ≤ cntF xs then badT 2
      else if lockF xs (keyOfC c) = 0 ∧ 12 ≤ List.length ((xs.getD (atF xs t).toNat (0, [], [], [], ())).2.2.2.1 : List Key) then badT 2
      else ((0 : Int), noteF xs (atF xs t).toNat c, ())
    else badT (chS c)
  else badT (txsF xs)

theorem txs_good {xs : List Tx} (h : txsF xs = 0) : eachF xs = 0 ∧ xs.length ≤ 4 := by
  unfold txsF at h
  split at h
  · cases h
  · split at h
    · exact ⟨by assumption, by omega⟩
    · rename_i hn; exact absurd h hn
theorem lockF_some {xs : List Tx} {k : Key} (h : lockF xs k ≠ 0) : ∃ x ∈ xs, x.1 = lockF xs k ∧ hasK x.2.2.2.1 k = true := by
  induction xs with
  | nil => exact absurd rfl h
  | cons x xs ih =>
    simp only [lockF] at h ⊢
    cases hh : hasK x.2.2.2.1 k with
    | true => exact ⟨x, by simp, by simp, hh⟩
    | false =>
      simp only [hh, Bool.false_eq_true, if_false] at h ⊢
      obtain ⟨y, h1, h2, h3⟩ := ih h
      exact ⟨y, by simp [h1], h2, h3⟩
theorem lockF_zero {xs : List Tx} {k : Key} (h : lockF xs k = 0) (hp : ∀ x ∈ xs, 1 ≤ x.1) : ∀ x ∈ xs, hasK x.2.2.2.1 k = false := by
  induction xs with
  | nil => intro x hx; cases hx
  | cons x xs ih =>
    simp only [lockF] at h
    cases hh : hasK x.2.2.2.1 k with
    | true =>
      simp only [hh, if_true] at h
      have := hp x (by simp)
      omega
    | false =>
      simp only [hh, Bool.false_eq_true, if_false] at h
      intro y hy
      rcases List.mem_cons.1 hy with e | e
      · subst e; exact hh
      · exact ih h (fun z hz => hp z (by simp [hz])) y e

theorem implNoteC_eq (xs : List Tx) (t : Int) (c : Change) (h : tls xs) (hc : cl c) : impl_NoteChange.sem (xs, t, c, ()) = some (noteAllF xs t c, ()) := by
  refine lift_eq (k := 0) fun k _ => (impl_NoteChange.raw_eq k _).trans ?_
  show impl_NoteChange.p _ = _
  unfold impl_NoteChange.p noteAllF badT
  simp only [implTxs_eq xs h, implAt_eq xs t h.1, single_eq c hc, lock_eq, implLock_eq xs _ h, implCount_eq xs h, Option.bind_some]
  by_cases h1 : txsF xs = 0
  rotate_left
  · simp only [h1, decide_false, Bool.not_false, cond_true, if_false]
  simp only [h1, decide_true, Bool.not_true, cond_false, if_true]
  by_cases h2 : atF xs t < 0
  · simp only [h2, decide_true, cond_true, if_true]
  simp only [h2, decide_false, cond_false, if_false]
  by_cases h3 : chS c = 0
  rotate_left
  · simp only [h3, decide_false, Bool.not_false, cond_true, if_false]
  simp only [h3, decide_true, Bool.not_true, cond_false, if_true]
  obtain ⟨j, hj, e1, e2⟩ := where_spec (fun x : Tx => decide (x.1 = t)) xs 0 (by show 0 ≤ atF xs t; omega)
  have e1 : atF xs t = (j : Int) := by show whereF _ 0 xs = _; rw [e1]; omega
  rw [e1, Int.toNat_natCast]
  have hn := implNote_eq xs j c h hj
  rw [hn]
  have hgd : xs.getD j (0, [], [], [], ()) = xs[j] := by simp [hj]
  rw [hgd]
  simp only [Int.natCast_nonneg, if_true, List.getElem?_eq_getElem hj, Option.bind_some]
  have hlen : decide ((12 : Int) ≤ (List.length (xs[j]).2.2.2.1 : Int)) = decide (12 ≤ List.length ((xs[j]).2.2.2.1 : List Key)) := by
    by_cases hh : 12 ≤ List.length ((xs[j]).2.2.2.1 : List Key)
    · have : (12 : Int) ≤ (List.length (xs[j]).2.2.2.1 : Int) := by omega
      simp only [hh, this, decide_true]
    · have : ¬ (12 : Int) ≤ (List.length (xs[j]).2.2.2.1 : Int) := by omega
      simp only [hh, this, decide_false]
  rw [hlen]
  by_cases h4 : lockF xs (keyOfC c) = 0
  · simp only [h4, decide_true, Bool.not_true, cond_false, cond_true, ne_eq, not_true_eq_false, false_and, if_false, true_and]
    by_cases h5 : 12 ≤ cntF xs
    · simp only [h5, decide_true, cond_true, if_true]
    · simp only [h5, decide_false, cond_false, if_false]
      by_cases h6 : 12 ≤ List.length ((xs[j]).2.2.2.1 : List Key)
      · simp only [h6, decide_true, cond_true, if_true]
      · simp only [h6, decide_false, cond_false, if_false]
  · by_cases h5 : lockF xs (keyOfC c) = t
    · simp only [h4, h5, decide_true, decide_false, Bool.not_true, Bool.not_false, cond_false, cond_true, ne_eq, not_true_eq_false, and_false, if_false, false_and]
      have h4' : ¬ t = 0 := fun e => h4 (by rw [h5, e])
      simp only [h4', decide_false, cond_false, false_and, if_false]
      by_cases h6 : 12 ≤ cntF xs
      · simp only [h6, decide_true, cond_true, if_true, Bool.not_false]
      · simp only [h6, decide_false, cond_false, if_false, Bool.not_false, cond_true]
    · simp only [h4, h5, decide_false, Bool.not_false, cond_true, ne_eq, not_false_eq_true, and_self, if_true]

theorem specNoteC_eq (xs : List Tx) (t : Int) (c : Change) (h : tls xs) (hc : cl c) : spec_NoteChange.sem (xs, t, c, ()) = some (noteAllF xs t c, ()) := by
  refine lift_eq (k := 0) fun k _ => (spec_NoteChange.raw_eq k _).trans ?_
  show spec_NoteChange.p _ = _
  unfold spec_NoteChange.p noteAllF badT
  simp only [specTxs_eq xs h, specAt_eq xs t h.1, specChangeS_eq c hc, specKeyOf_eq, specLock_eq xs _ h, specCount_eq xs h, Option.bind_some]
  by_cases h1 : txsF xs = 0
  rotate_left
  · simp only [h1, decide_false, Bool.not_false, cond_true, if_false]
  simp only [h1, decide_true, Bool.not_true, cond_false, if_true]
  by_cases h2 : atF xs t < 0
  · simp only [h2, decide_true, cond_true, if_true]
  simp only [h2, decide_false, cond_false, if_false]
  by_cases h3 : chS c = 0
  rotate_left
  · simp only [h3, decide_false, Bool.not_false, cond_true, if_false]
  simp only [h3, decide_true, Bool.not_true, cond_false, if_true]
  obtain ⟨j, hj, e1, e2⟩ := where_spec (fun x : Tx => decide (x.1 = t)) xs 0 (by show 0 ≤ atF xs t; omega)
  have e1 : atF xs t = (j : Int) := by show whereF _ 0 xs = _; rw [e1]; omega
  have e2 : (xs[j]).1 = t := by simpa using e2
  rw [e1, Int.toNat_natCast]
  have hn := specNote_eq xs j c h hj
  rw [hn]
  have hgd : xs.getD j (0, [], [], [], ()) = xs[j] := by simp [hj]
  rw [hgd]
  simp only [Int.natCast_nonneg, if_true, List.getElem?_eq_getElem hj, Option.bind_some, locks_eq _ _ (tl_locks (h.2 _ (List.getElem_mem hj)))]
  have hlen : decide ((12 : Int) ≤ (List.length (xs[j]).2.2.2.1 : Int)) = decide (12 ≤ List.length ((xs[j]).2.2.2.1 : List Key)) := by
    by_cases hh : 12 ≤ List.length ((xs[j]).2.2.2.1 : List Key)
    · have : (12 : Int) ≤ (List.length (xs[j]).2.2.2.1 : Int) := by omega
      simp only [hh, this, decide_true]
    · have : ¬ (12 : Int) ≤ (List.length (xs[j]).2.2.2.1 : Int) := by omega
      simp only [hh, this, decide_false]
  rw [hlen]
  obtain ⟨hea, _⟩ := txs_good h1
  have hids : ∀ x ∈ xs, 1 ≤ x.1 := fun x hx => by
    obtain ⟨i, hi, rfl⟩ := List.mem_iff_getElem.1 hx
    exact (one_good (each_good xs hea i hi)).1
  have hrise := each_rise hea
  by_cases h4 : lockF xs (keyOfC c) = 0
  · have hno := lockF_zero h4 hids _ (List.getElem_mem hj)
    simp only [h4, hno, decide_true, Bool.not_true, Bool.not_false, cond_false, cond_true, ne_eq, not_true_eq_false, false_and, if_false, true_and]
    by_cases h5 : 12 ≤ cntF xs
    · simp only [h5, decide_true, cond_true, if_true]
    · simp only [h5, decide_false, cond_false, if_false]
      by_cases h6 : 12 ≤ List.length ((xs[j]).2.2.2.1 : List Key)
      · simp only [h6, decide_true, cond_true, if_true]
      · simp only [h6, decide_false, cond_false, if_false]
  · by_cases h5 : lockF xs (keyOfC c) = t
    · have hyes : hasK (xs[j]).2.2.2.1 (keyOfC c) = true := by
        obtain ⟨x, x1, x2, x3⟩ := lockF_some h4
        obtain ⟨i, hi, rfl⟩ := List.mem_iff_getElem.1 x1
        have hid : (xs[i]).1 = (xs[j]).1 := by rw [x2, h5, e2]
        have hij : i = j := by
          rw [List.pairwise_iff_getElem] at hrise
          rcases Nat.lt_trichotomy i j with hlt | heq | hgt
          · have := hrise i j hi hj hlt; omega
          · exact heq
          · have := hrise j i hj hi hgt; omega
        subst hij
        exact x3
      have h4' : ¬ t = 0 := fun e => h4 (by rw [h5, e])
      simp only [h4, h5, h4', hyes, decide_true, decide_false, Bool.not_true, Bool.not_false, cond_false, cond_true, ne_eq, not_true_eq_false, not_false_eq_true, and_false, if_false, false_and]
      by_cases h6 : 12 ≤ cntF xs
      · simp only [h6, decide_true, cond_true, if_true]
      · simp only [h6, decide_false, cond_false, if_false]
        cases decide (12 ≤ List.length ((xs[j]).2.2.2.1 : List Key)) <;> rfl
    · simp only [h4, h5, decide_false, Bool.not_false, cond_true, ne_eq, not_false_eq_true, and_self, if_true]

/-! How large it is. -/
theorem zz_set {e : Ty} : ∀ (xs : List e.den) (j : Nat) (y : e.den), zz (.slc e) (xs.set j y) ≤ zz (.slc e) xs + zz e y
  | [], _, _ => Nat.le_add_right _ _
  | x :: xs, 0, y => by
    rw [List.set_cons_zero, zz_cons, zz_cons]
    omega
  | x :: xs, j + 1, y => by
    rw [List.set_cons_succ, zz_cons, zz_cons]
    have := zz_set xs j y
    omega
theorem note_small (xs : List Tx) (t : Int) (c : Change) : zz tTxsResult (noteAllF xs t c) ≤ 2 * zz (.slc tTx) xs + zz tChange c + 10 := by
  have hz : ∀ (n : Int) (ys : List Tx), zz tTxsResult (n, ys, ()) = zz (.slc tTx) ys := fun n ys => by
    show 0 + (zz (.slc tTx) ys + 0) = _
    omega
  have hb : ∀ n : Int, zz tTxsResult (badT n) ≤ 2 * zz (.slc tTx) xs + zz tChange c + 10 := fun n => Nat.le_trans (Nat.le_of_eq (hz n [])) (Nat.zero_le _)
  unfold noteAllF
  split
  · split
    · exact hb _
    · split
      · split
        · exact hb _
        · split
          · exact hb _
          · split
            · exact hb _
            · refine Nat.le_trans (Nat.le_of_eq (hz _ _)) ?_
              unfold noteF
              cases hx : xs[(atF xs t).toNat]? with
              | none =>
                show zz (.slc tTx) xs ≤ _
                omega
              | some x =>
                have h1 := zz_set (e := tTx) xs (atF xs t).toNat (noteX x c)
                have h2 := zz_mem (e := tTx) (List.mem_of_getElem? hx)
                have h3 : zz tTx (noteX x c) ≤ zz tTx x + zz tChange c + 3 := by
                  have e0 : ∀ (i : Int) (a : List Change) (b : List Int) (d : List Key), zz tTx (i, a, b, d, ()) = 0 + (zz (.slc tChange) a + (zz (.slc i64) b + (zz (.slc tKey) d + 0))) := fun _ _ _ _ => rfl
                  have e1 := e0 x.1 x.2.1 x.2.2.1 x.2.2.2.1
                  have e2 := e0 x.1 (x.2.1 ++ [c] : List Change) x.2.2.1 (if hasK x.2.2.2.1 (keyOfC c) then x.2.2.2.1 else x.2.2.2.1 ++ [keyOfC c])
                  have e3 : zz (.slc tChange) (x.2.1 ++ [c] : List Change) = zz (.slc tChange) x.2.1 + zz (.slc tChange) ([c] : List Change) := zz_append (e := tChange) x.2.1 [c]
                  have e4 : zz (.slc tChange) ([c] : List Change) = zz tChange c + 1 := (zz_cons (e := tChange) c []).trans rfl
                  have e5 : zz (.slc tKey) (x.2.2.2.1 ++ [keyOfC c] : List Key) = zz (.slc tKey) x.2.2.2.1 + zz (.slc tKey) ([keyOfC c] : List Key) := zz_append (e := tKey) x.2.2.2.1 [keyOfC c]
                  have e6 : zz (.slc tKey) ([keyOfC c] : List Key) = 1 := rfl
                  have e7b : ∀ b : Bool, zz (.slc tKey) (if b then x.2.2.2.1 else x.2.2.2.1 ++ [keyOfC c] : List Key) ≤ zz (.slc tKey) x.2.2.2.1 + 1 := fun b => by
                    cases b with
                    | true => show zz (.slc tKey) x.2.2.2.1 ≤ _; omega
                    | false => show zz (.slc tKey) (x.2.2.2.1 ++ [keyOfC c] : List Key) ≤ _; omega
                  have e7 := e7b (hasK x.2.2.2.1 (keyOfC c))
                  have e8 : zz tTx (noteX x c) = 0 + (zz (.slc tChange) (x.2.1 ++ [c] : List Change) + (zz (.slc i64) x.2.2.1 + (zz (.slc tKey) (if hasK x.2.2.2.1 (keyOfC c) then x.2.2.2.1 else x.2.2.2.1 ++ [keyOfC c] : List Key) + 0))) := e2
                  have e9 : zz tTx x = 0 + (zz (.slc tChange) x.2.1 + (zz (.slc i64) x.2.2.1 + (zz (.slc tKey) x.2.2.2.1 + 0))) := e1
                  omega
                refine Nat.le_trans h1 ?_
                omega
      · exact hb _
  · exact hb _

theorem noteChange_true (v : laws_FnExactNoteChange.Arg) (hv : okA laws_FnExactNoteChange.ps v) : laws_FnExactNoteChange.sem v = some (true, ()) := by
  obtain ⟨xs, t, c, ⟨⟩⟩ := v
  obtain ⟨hx, _, hs, _⟩ := hv
  refine lift_eq (k := 0) fun k _ => (laws_FnExactNoteChange.raw_eq k _).trans ?_
  show laws_FnExactNoteChange.p _ = _
  unfold laws_FnExactNoteChange.p
  simp only [szTxS_eq xs 1048576 hx (by omega) (by omega), Option.bind_some]
  by_cases hz : ((zz (.slc tTx) xs : Nat) : Int) ≤ 1048576
  rotate_left
  · have : lft 1048576 (zz (.slc tTx) xs) = -1 := if_neg hz
    simp only [this]
    rfl
  have e1 : lft 1048576 (zz (.slc tTx) xs) = 1048576 - ((zz (.slc tTx) xs : Nat) : Int) := if_pos hz
  have n1 : ¬ (1048576 - ((zz (.slc tTx) xs : Nat) : Int) < 0) := by omega
  simp only [e1, n1, decide_false, cond_false, szChange_eq c _ hs (show (0 : Int) ≤ 1048576 - ((zz (.slc tTx) xs : Nat) : Int) by omega) (by omega), Option.bind_some]
  by_cases hz2 : ((zz tChange c : Nat) : Int) ≤ 1048576 - ((zz (.slc tTx) xs : Nat) : Int)
  rotate_left
  · have : lft (1048576 - ((zz (.slc tTx) xs : Nat) : Int)) (zz tChange c) = -1 := if_neg hz2
    simp only [this]
    rfl
  have e2 : lft (1048576 - ((zz (.slc tTx) xs : Nat) : Int)) (zz tChange c) = 1048576 - ((zz (.slc tTx) xs : Nat) : Int) - ((zz tChange c : Nat) : Int) := if_pos hz2
  have n2 : ¬ (1048576 - ((zz (.slc tTx) xs : Nat) : Int) - ((zz tChange c : Nat) : Int) < 0) := by omega
  have hok : tls xs := ⟨Nat.le_trans (zz_len (e := tTx) xs) (by omega), fun x hm => by
    have h1 := zz_mem (e := tTx) hm
    have h2 : zz tTx x = 0 + (zz (.slc tChange) x.2.1 + (zz (.slc i64) x.2.2.1 + (zz (.slc tKey) x.2.2.2.1 + 0))) := rfl
    have h3 : List.length x.2.1 ≤ zz (.slc tChange) x.2.1 := zz_len (e := tChange) x.2.1
    have h4 : List.length x.2.2.1 ≤ zz (.slc i64) x.2.2.1 := zz_len (e := i64) x.2.2.1
    have h5 : List.length x.2.2.2.1 ≤ zz (.slc tKey) x.2.2.2.1 := zz_len (e := tKey) x.2.2.2.1
    exact ⟨by omega, by omega, by omega, fun c hc => cl_ok ((hx.2 x hm).2.1.2 c hc)⟩⟩
  have hcl := cl_ok hs
  have hR := note_small xs t c
  have hB : BIG = 4611686018427387904 := rfl
  obtain ⟨k', y, a1, a2, a3, a4⟩ := mhTxsResult (noteAllF xs t c) 1 (by omega) (by omega)
  obtain ⟨k2, y2, b1, b3, b4⟩ := mkTxS xs 1 (by omega) (by omega)
  simp only [e2, n2, decide_false, cond_false, toTxS_eq xs (by omega), toChange_eq c (by omega), specNoteC_eq xs t c hok hcl, implNoteC_eq xs t c hok hcl, eqTxsResult_self (noteAllF xs t c) (by omega), eqTxS_self xs (by omega), a1, a2, b1, Option.bind_some, Bool.not_true, show ¬ k' < 0 by omega, show ¬ k2 < 0 by omega, decide_true]
end OT
