/- FnExactReplaySent: what its functions compute; no conditions. -/
import Derived.Test.YtnpccifddodjlaaXG
set_option linter.unusedVariables false
set_option linter.unusedSimpArgs false
namespace OT
open Go

def replayStep (i : Nat) (s : RowsResult) (x : Sent) : Sum (RowsResult × Unit) RowsResult := if (applyF s.2.1 x.2.2.1).1 = 0 then .inr (applyF s.2.1 x.2.2.1) else .inl (applyF s.2.1 x.2.2.1, ())
def replayF (xs : List Row) (ss : List Sent) : RowsResult := if rowsF xs = 0 then (if firstF sentF ss = 0 then (forI replayStep (fun s => (s, ())) 0 ss (0, xs, ())).1 else (firstF sentF ss, [], ())) else (rowsF xs, [], ())

/-- Fit to be turned. -/
def fine (s : RowsResult) : Prop := (s.2.1).length ≤ maxLen ∧ (∀ x ∈ s.2.1, rl x) ∧ zz (.slc tRow) s.2.1 ≤ 1048576
theorem fine_apply (xs : List Row) (cs : List Change) : fine (applyF xs cs) := by
  obtain ⟨h1, h2⟩ := apply_small xs cs
  have h3 : List.length (applyF xs cs).2.1 ≤ zz (.slc tRow) (applyF xs cs).2.1 := zz_len (e := tRow) _
  refine ⟨by rw [maxLen_val]; omega, fun x hx => ?_, by omega⟩
  have := rowF_text (h1 x hx)
  unfold rl
  rw [maxLen_val]; omega
theorem replay_inv (n : Nat) (s s' : RowsResult) (x : Sent) (h : fine s) (hf : replayStep n s x = .inr s') : fine s' := by
  unfold replayStep at hf
  split at hf
  · injection hf with hf; subst hf; exact fine_apply _ _
  · cases hf

theorem implReplay_eq (xs : List Row) (ss : List Sent) (hf : fine (0, xs, ())) (hl : ss.length ≤ maxLen) (h : ∀ x ∈ ss, sl x ∧ List.length x.2.2.1 ≤ 1048576) : impl_ReplaySent.sem (xs, ss, ()) = some (replayF xs ss, ()) := by
  refine lift_eq (k := ss.length + 1) fun k hk => (impl_ReplaySent.raw_eq k _).trans ?_
  have h2 := for_loop (B := fun self v => impl_ReplaySent.B1 0 self (fun z => impl_ReplaySent.Q1 0 (xs, ss, ()) z) (xs, ss, ()) v) ss (fun (s : RowsResult) (i : Int) => (s, i)) replayStep (fun s => (s, ())) (fun _ s => fine s) hl
    (fun i hi s self hI => by
      show impl_ReplaySent.b1 _ _ _ _ = _
      unfold impl_ReplaySent.b1 replayStep
      have hlt : (i : Int) < (ss.length : Int) := by omega
      obtain ⟨q1, q2⟩ := h _ (List.getElem_mem hi)
      simp only [hlt, decide_true, cond_true, Int.natCast_nonneg, if_true, Int.toNat_natCast, List.getElem?_eq_getElem hi, Option.bind_some, implApply_eq s.2.1 _ hI.1 hI.2.1 q2 q1.2]
      by_cases h1 : (applyF s.2.1 ss[i].2.2.1).1 = 0 <;> simp [h1]) (fun i hi s s' hI hf => replay_inv _ s s' _ hI hf) (fun s self hI => by
      show impl_ReplaySent.b1 _ _ _ _ = _
      unfold impl_ReplaySent.b1
      simp [impl_ReplaySent.Q1, impl_ReplaySent.q1]) (0, xs, ()) hf k (by omega)
  have h2 : impl_ReplaySent.r1 k (xs, ss, ()) ((0, xs, ()), 0) = _ := h2
  have hxl : List.length xs ≤ 1048576 := Nat.le_trans (zz_len (e := tRow) xs) hf.2.2
  have h3 := for_loop (B := fun self v => impl_ReplaySent.B0 0 self (fun z => impl_ReplaySent.Q0 k (xs, ss, ()) z) (xs, ss, ()) v) ss (fun (_ : Unit) (i : Int) => i) (fun _ _ x => if sentF x = 0 then .inr () else .inl ((sentF x, [], ()), ())) (fun _ => ((forI replayStep (fun s => (s, ())) 0 ss (0, xs, ())).1, ())) (fun _ _ => True) hl
    (fun i hi _ self _ => by
      show impl_ReplaySent.b0 _ _ _ _ = _
      unfold impl_ReplaySent.b0
      have hlt : (i : Int) < (ss.length : Int) := by omega
      simp only [hlt, decide_true, cond_true, Int.natCast_nonneg, if_true, Int.toNat_natCast, List.getElem?_eq_getElem hi, Option.bind_some, implSent_eq _ (h _ (List.getElem_mem hi)).1]
      by_cases h1 : sentF ss[i] = 0 <;> simp [h1]) (fun _ _ _ _ _ _ => trivial) (fun _ self _ => by
      show impl_ReplaySent.b0 _ _ _ _ = _
      unfold impl_ReplaySent.b0
      have hlt : ¬ (ss.length : Int) < (ss.length : Int) := by omega
      simp only [hlt, decide_false, cond_false, impl_ReplaySent.Q0, impl_ReplaySent.q0, cloneRow_eq xs hxl, Option.bind_some, h2]) () trivial k (by omega)
  rw [forI_first sentF (fun c => ((c, [], ()), ())) (fun _ => ((forI replayStep (fun s => (s, ())) 0 ss (0, xs, ())).1, ()))] at h3
  have h3 : impl_ReplaySent.r0 k (xs, ss, ()) 0 = _ := h3
  unfold impl_ReplaySent.raw impl_ReplaySent.p replayF
  simp only [implRows_eq xs hf.1 hf.2.1, Option.bind_some, h3]
  by_cases h0 : rowsF xs = 0
  · by_cases h1 : firstF sentF ss = 0 <;> simp [h0, h1] <;> rfl
  · simp [h0]; rfl

theorem specReplay_eq (xs : List Row) (ss : List Sent) (hf : fine (0, xs, ())) (hl : ss.length ≤ maxLen) (h : ∀ x ∈ ss, sl x ∧ List.length x.2.2.1 ≤ 1048576) : spec_ReplaySent.sem (xs, ss, ()) = some (replayF xs ss, ()) := by
  refine lift_eq (k := ss.length + 1) fun k hk => (spec_ReplaySent.raw_eq k _).trans ?_
  have h2 := for_loop (B := fun self v => spec_ReplaySent.B1 0 self (fun z => spec_ReplaySent.Q1 0 (xs, ss, ()) z) (xs, ss, ()) v) ss (fun (s : RowsResult) (i : Int) => (s, i)) replayStep (fun s => (s, ())) (fun _ s => fine s) hl
    (fun i hi s self hI => by
      show spec_ReplaySent.b1 _ _ _ _ = _
      unfold spec_ReplaySent.b1 replayStep
      have hlt : (i : Int) < (ss.length : Int) := by omega
      obtain ⟨q1, q2⟩ := h _ (List.getElem_mem hi)
      simp only [hlt, decide_true, cond_true, Int.natCast_nonneg, if_true, Int.toNat_natCast, List.getElem?_eq_getElem hi, Option.bind_some, specApply_eq s.2.1 _ hI.1 hI.2.1 q2 q1.2]
      by_cases h1 : (applyF s.2.1 ss[i].2.2.1).1 = 0 <;> simp [h1]) (fun i hi s s' hI hf => replay_inv _ s s' _ hI hf) (fun s self hI => by
      show spec_ReplaySent.b1 _ _ _ _ = _
      unfold spec_ReplaySent.b1
      simp [spec_ReplaySent.Q1, spec_ReplaySent.q1]) (0, xs, ()) hf k (by omega)
  have h2 : spec_ReplaySent.r1 k (xs, ss, ()) ((0, xs, ()), 0) = _ := h2
  have hxl : List.length xs ≤ 1048576 := Nat.le_trans (zz_len (e := tRow) xs) hf.2.2
  have c1 : ([] : List Row).length + xs.length ≤ CAP := cap_ok (by simp only [List.length_nil]; omega)
  have h3 := for_loop (B := fun self v => spec_ReplaySent.B0 0 self (fun z => spec_ReplaySent.Q0 k (xs, ss, ()) z) (xs, ss, ()) v) ss (fun (_ : Unit) (i : Int) => i) (fun _ _ x => if sentF x = 0 then .inr () else .inl ((sentF x, [], ()), ())) (fun _ => ((forI replayStep (fun s => (s, ())) 0 ss (0, xs, ())).1, ())) (fun _ _ => True) hl
    (fun i hi _ self _ => by
      show spec_ReplaySent.b0 _ _ _ _ = _
      unfold spec_ReplaySent.b0
      have hlt : (i : Int) < (ss.length : Int) := by omega
      simp only [hlt, decide_true, cond_true, Int.natCast_nonneg, if_true, Int.toNat_natCast, List.getElem?_eq_getElem hi, Option.bind_some, specSent_eq _ (h _ (List.getElem_mem hi)).1]
      by_cases h1 : sentF ss[i] = 0 <;> simp [h1]) (fun _ _ _ _ _ _ => trivial) (fun _ self _ => by
      show spec_ReplaySent.b0 _ _ _ _ = _
      unfold spec_ReplaySent.b0
      have hlt : ¬ (ss.length : Int) < (ss.length : Int) := by omega
      simp only [hlt, decide_false, cond_false, spec_ReplaySent.Q0, spec_ReplaySent.q0, c1, if_true, List.nil_append, h2]) () trivial k (by omega)
  rw [forI_first sentF (fun c => ((c, [], ()), ())) (fun _ => ((forI replayStep (fun s => (s, ())) 0 ss (0, xs, ())).1, ()))] at h3
  have h3 : spec_ReplaySent.r0 k (xs, ss, ()) 0 = _ := h3
  unfold spec_ReplaySent.raw spec_ReplaySent.p replayF
  simp only [specRows_eq xs hf.1 hf.2.1, Option.bind_some, h3]
  by_cases h0 : rowsF xs = 0
  · by_cases h1 : firstF sentF ss = 0 <;> simp [h0, h1] <;> rfl
  · simp [h0]; rfl

theorem replay_small (xs : List Row) (ss : List Sent) (hf : fine (0, xs, ())) : zz tRowsResult (replayF xs ss) ≤ 1048576 := by
  have main : ∀ (ss : List Sent) (j : Nat) (s : RowsResult), fine s → fine (forI replayStep (fun s => (s, ())) j ss s).1 := by
    intro ss
    induction ss with
    | nil => intro j s h; exact h
    | cons x ss ih =>
      intro j s h
      simp only [forI]
      split
      · rename_i o ho
        unfold replayStep at ho
        split at ho
        · cases ho
        · injection ho with ho; rw [← ho]; exact fine_apply _ _
      · rename_i s' hs
        exact ih (j + 1) s' (replay_inv _ s s' x h hs)
  have hz : zz tRowsResult (replayF xs ss) = 0 + (zz (.slc tRow) (replayF xs ss).2.1 + 0) := rfl
  rw [hz]
  unfold replayF
  split
  · split
    · have := (main ss 0 _ hf).2.2
      omega
    · exact Nat.zero_le _
  · exact Nat.zero_le _

theorem replay_true (v : laws_FnExactReplaySent.Arg) (hv : okA laws_FnExactReplaySent.ps v) : laws_FnExactReplaySent.sem v = some (true, ()) := by
  obtain ⟨xs, ss, ⟨⟩⟩ := v
  obtain ⟨hx, hs, _⟩ := hv
  refine lift_eq (k := 0) fun k _ => (laws_FnExactReplaySent.raw_eq k _).trans ?_
  show laws_FnExactReplaySent.p _ = _
  unfold laws_FnExactReplaySent.p
  simp only [szRowS_eq xs 1048576 hx (by omega) (by omega), Option.bind_some]
  by_cases hz : ((zz (.slc tRow) xs : Nat) : Int) ≤ 1048576
  rotate_left
  · have : lft 1048576 (zz (.slc tRow) xs) = -1 := if_neg hz
    simp [this]
  have e1 : lft 1048576 (zz (.slc tRow) xs) = 1048576 - ((zz (.slc tRow) xs : Nat) : Int) := if_pos hz
  have n1 : ¬ (1048576 - ((zz (.slc tRow) xs : Nat) : Int) < 0) := by omega
  simp only [e1, n1, decide_false, cond_false, szSentS_eq ss _ hs (show (0 : Int) ≤ 1048576 - ((zz (.slc tRow) xs : Nat) : Int) by omega) (by omega), Option.bind_some]
  by_cases hz2 : ((zz (.slc tSent) ss : Nat) : Int) ≤ 1048576 - ((zz (.slc tRow) xs : Nat) : Int)
  rotate_left
  · have : lft (1048576 - ((zz (.slc tRow) xs : Nat) : Int)) (zz (.slc tSent) ss) = -1 := if_neg hz2
    simp [this]
  have e2 : lft (1048576 - ((zz (.slc tRow) xs : Nat) : Int)) (zz (.slc tSent) ss) = 1048576 - ((zz (.slc tRow) xs : Nat) : Int) - ((zz (.slc tSent) ss : Nat) : Int) := if_pos hz2
  have n2 : ¬ (1048576 - ((zz (.slc tRow) xs : Nat) : Int) - ((zz (.slc tSent) ss : Nat) : Int) < 0) := by omega
  have hf : fine (0, xs, ()) := ⟨hx.1, fun x hm => rl_ok (hx.2 x hm), by show zz (.slc tRow) xs ≤ _; omega⟩
  have hsl : ∀ x ∈ ss, sl x ∧ List.length x.2.2.1 ≤ 1048576 := fun x hm => ⟨sl_ok (hs.2 x hm), by
    have h1 := zz_mem (e := tSent) hm
    have h2 : zz tSent x = 0 + (0 + (zz (.slc tChange) x.2.2.1 + 0)) := rfl
    have h3 : List.length x.2.2.1 ≤ zz (.slc tChange) x.2.2.1 := zz_len (e := tChange) x.2.2.1
    omega⟩
  have hR := replay_small xs ss hf
  have hB : BIG = 4611686018427387904 := rfl
  obtain ⟨k', y, a1, a2, a3, a4⟩ := mhRowsResult (replayF xs ss) 1 (by omega) (by omega)
  obtain ⟨k2, y2, b1, b3, b4⟩ := mkRowS xs 1 (by omega) (by omega)
  obtain ⟨k3, y3, d1, d3, d4⟩ := mkSentS ss k2 (by omega) (by omega)
  simp only [e2, n2, decide_false, cond_false, toRowS_eq xs (by omega), toSentS_eq ss (by omega), specReplay_eq xs ss hf hs.1 hsl, implReplay_eq xs ss hf hs.1 hsl, eqRowsResult_self (replayF xs ss) (by omega), eqRowS_self xs (by omega), eqSentS_self ss (by omega), a1, a2, b1, d1, Option.bind_some, Bool.not_true, show ¬ k' < 0 by omega, show ¬ k3 < 0 by omega, decide_true]
end OT
