/- FnExactOnceOnly: what its functions compute; no conditions. -/
import Derived.Test.YtnpccifddodjlaaXD
set_option linter.unusedVariables false
set_option linter.unusedSimpArgs false
namespace OT
open Go

def onceStep (i : Nat) (s : List Sent × Int) (x : Sent) : Sum (List Sent × Unit) (List Sent × Int) := if s.2 < x.1 then .inr (s.1 ++ [x], x.1) else .inr s
def onceOf (xs : List Sent) : List Sent := (forI onceStep (fun s => (s.1, ())) 0 xs ([], -1)).1
def sentsF (xs : List Sent) : Int := if 200 < xs.length then 2 else firstF sentF xs

/-- All that is handed is small. -/
def sm (xs : List Sent) : Prop := xs.length ≤ 200 ∧ ∀ x ∈ xs, List.length x.2.2.1 ≤ 1048576

theorem specOnce_eq (xs : List Sent) (h : sm xs) : spec_l14Once.sem (xs, ()) = some (onceOf xs, ()) := by
  refine lift_eq (k := xs.length + 1) fun k hk => (spec_l14Once.raw_eq k _).trans ?_
  exact for_loop (B := fun self v => spec_l14Once.B0 0 self (fun z => spec_l14Once.Q0 0 (xs, ()) z) (xs, ()) v) xs (fun (s : List Sent × Int) (i : Int) => (s.1, s.2, i)) onceStep (fun s => (s.1, ())) (fun i s => s.1.length ≤ i) (by rw [maxLen_val]; have := h.1; omega)
    (fun i hi s self hI => by
      show spec_l14Once.b0 _ _ _ _ = _
      unfold spec_l14Once.b0 onceStep
      have hlt : (i : Int) < (xs.length : Int) := by omega
      have h1 := h.1
      have h2 := h.2 _ (List.getElem_mem hi)
      simp only [hlt, decide_true, cond_true, Int.natCast_nonneg, if_true, Int.toNat_natCast, List.getElem?_eq_getElem hi, Option.bind_some, List.nil_append, List.length_nil, List.length_cons, Nat.zero_add]
      by_cases hc : s.2 < (xs[i]).1
      · have c1 : List.length xs[i].2.2.1 ≤ CAP := cap_ok (by omega)
        have c2 : s.1.length + 1 ≤ CAP := cap_ok (by omega)
        simp only [hc, decide_true, cond_true, if_true, c1, c2]
      · simp only [hc, decide_false, cond_false, if_false]) (fun i hi s s' hI hf => by
      unfold onceStep at hf
      split at hf
      · injection hf with hf; rw [← hf]; simp; omega
      · injection hf with hf; rw [← hf]; omega) (fun s self hI => by
      show spec_l14Once.b0 _ _ _ _ = _
      unfold spec_l14Once.b0
      simp [spec_l14Once.Q0, spec_l14Once.q0]) ([], -1) (Nat.le_refl _) k (by omega)

theorem cloneChange_eq (xs : List Change) (h : xs.length ≤ 1048576) : slices_Clone_Change.sem (xs, ()) = some (xs, ()) := by
  refine lift_eq (k := 0) fun k _ => (slices_Clone_Change.raw_eq k _).trans ?_
  show slices_Clone_Change.p _ = _
  unfold slices_Clone_Change.p
  have c1 : ([] : List Change).length + xs.length ≤ CAP := cap_ok (by simp only [List.length_nil]; omega)
  exact nilB_eq (fun e => by have e : xs = [] := e; subst e; rfl) (by rw [if_pos c1]; rfl)
theorem ownSent_eq (x : Sent) (h : List.length x.2.2.1 ≤ 1048576) : impl_ownSent.sem (x, ()) = some (x, ()) := by
  refine lift_eq (k := 0) fun k _ => (impl_ownSent.raw_eq k _).trans ?_
  show impl_ownSent.p _ = _
  unfold impl_ownSent.p
  simp only [cloneChange_eq _ h, Option.bind_some]

theorem implOnce_eq (xs : List Sent) (h : sm xs) : impl_once.sem (xs, ()) = some (onceOf xs, ()) := by
  refine lift_eq (k := xs.length + 1) fun k hk => (impl_once.raw_eq k _).trans ?_
  exact for_loop (B := fun self v => impl_once.B0 0 self (fun z => impl_once.Q0 0 (xs, ()) z) (xs, ()) v) xs (fun (s : List Sent × Int) (i : Int) => (s.1, s.2, i)) onceStep (fun s => (s.1, ())) (fun i s => s.1.length ≤ i) (by rw [maxLen_val]; have := h.1; omega)
    (fun i hi s self hI => by
      show impl_once.b0 _ _ _ _ = _
      unfold impl_once.b0 onceStep
      have hlt : (i : Int) < (xs.length : Int) := by omega
      have h1 := h.1
      have h2 := h.2 _ (List.getElem_mem hi)
      simp only [hlt, decide_true, cond_true, Int.natCast_nonneg, if_true, Int.toNat_natCast, List.getElem?_eq_getElem hi, Option.bind_some, ownSent_eq _ h2, List.length_nil, List.length_cons, Nat.zero_add]
      by_cases hc : s.2 < (xs[i]).1
      · have c2 : s.1.length + 1 ≤ CAP := cap_ok (by omega)
        simp only [hc, decide_true, cond_true, if_true, c2]
      · simp only [hc, decide_false, cond_false, if_false]) (fun i hi s s' hI hf => by
      unfold onceStep at hf
      split at hf
      · injection hf with hf; rw [← hf]; simp; omega
      · injection hf with hf; rw [← hf]; omega) (fun s self hI => by
      show impl_once.b0 _ _ _ _ = _
      unfold impl_once.b0
      simp [impl_once.Q0, impl_once.q0]) ([], -1) (Nat.le_refl _) k (by omega)

theorem once_zz : ∀ (xs : List Sent) (i : Nat) (s : List Sent × Int), zz (.slc tSent) (forI onceStep (fun s => (s.1, ())) i xs s).1 ≤ zz (.slc tSent) s.1 + zz (.slc tSent) xs
  | [], i, s => Nat.le_add_right _ _
  | x :: xs, i, s => by
    have hcons : zz (.slc tSent) (x :: xs : List Sent) = zz tSent x + 1 + zz (.slc tSent) xs := zz_cons (e := tSent) x xs
    have happ : zz (.slc tSent) (s.1 ++ [x] : List Sent) = zz (.slc tSent) s.1 + (zz tSent x + 1) := (zz_append (e := tSent) s.1 [x]).trans (by rw [zz_cons (e := tSent) x []]; rfl)
    simp only [forI, onceStep]
    split
    · rename_i heq
      split at heq <;> cases heq
    · rename_i s' heq
      have := once_zz xs (i + 1) s'
      split at heq
      · injection heq with heq; subst heq
        simp only at this
        rw [happ] at this
        rw [hcons]; omega
      · injection heq with heq; subst heq
        rw [hcons]; omega

def onceR (xs : List Sent) : SentResult := if sentsF xs = 0 then (0, onceOf xs, (([], [], ()), 0, ([], [], ()), 0, ()), ()) else (sentsF xs, [], (([], [], ()), 0, ([], [], ()), 0, ()), ())
theorem len200 (n : Nat) : decide ((200 : Int) < (n : Int)) = decide (200 < n) := len60 n 200

theorem sentsF_sm {xs : List Sent} (h : sentsF xs = 0) (hz : ∀ x ∈ xs, List.length x.2.2.1 ≤ 1048576) : sm xs := by
  refine ⟨?_, hz⟩
  unfold sentsF at h
  split at h
  · cases h
  · omega

theorem implSents_eq (xs : List Sent) (hl : xs.length ≤ maxLen) (h : ∀ x ∈ xs, sl x) : impl_sentsFault.sem (xs, ()) = some (sentsF xs, ()) := by
  refine lift_eq (k := xs.length + 1) fun k hk => (impl_sentsFault.raw_eq k _).trans ?_
  have := for_loop (B := fun self v => impl_sentsFault.B0 0 self (fun z => impl_sentsFault.Q0 0 (xs, ()) z) (xs, ()) v) xs (fun (_ : Unit) (i : Int) => i) (fun _ _ x => if sentF x = 0 then .inr () else .inl (sentF x, ())) (fun _ => (0, ())) (fun _ _ => True) hl
    (fun i hi _ self _ => by
      show impl_sentsFault.b0 _ _ _ _ = _
      unfold impl_sentsFault.b0
      have hlt : (i : Int) < (xs.length : Int) := by omega
      simp only [hlt, decide_true, cond_true, Int.natCast_nonneg, if_true, Int.toNat_natCast, List.getElem?_eq_getElem hi, Option.bind_some, implSent_eq _ (h _ (List.getElem_mem hi))]
      by_cases h1 : sentF xs[i] = 0 <;> simp [h1]) (fun _ _ _ _ _ _ => trivial) (fun _ self _ => by
      show impl_sentsFault.b0 _ _ _ _ = _
      unfold impl_sentsFault.b0
      simp [impl_sentsFault.Q0, impl_sentsFault.q0]) () trivial k (by omega)
  rw [forI_first sentF (fun c => (c, ())) (fun _ => (0, ()))] at this
  have this : impl_sentsFault.r0 k (xs, ()) 0 = _ := this
  unfold impl_sentsFault.raw impl_sentsFault.p sentsF
  rw [this]
  simp only [len200]
  by_cases h1 : 200 < xs.length
  · simp [h1]; rfl
  · by_cases h2 : firstF sentF xs = 0 <;> simp [h1, h2] <;> rfl

theorem implOnceOnly_eq (xs : List Sent) (hl : xs.length ≤ maxLen) (h : ∀ x ∈ xs, sl x) (hz : ∀ x ∈ xs, List.length x.2.2.1 ≤ 1048576) : impl_OnceOnly.sem (xs, ()) = some (onceR xs, ()) := by
  refine lift_eq (k := 0) fun k _ => (impl_OnceOnly.raw_eq k _).trans ?_
  show impl_OnceOnly.p _ = _
  unfold impl_OnceOnly.p onceR
  simp only [implSents_eq xs hl h, Option.bind_some]
  by_cases h1 : sentsF xs = 0
  · simp [h1, implOnce_eq xs (sentsF_sm h1 hz)]
  · simp [h1]

theorem specOnceOnly_eq (xs : List Sent) (hl : xs.length ≤ maxLen) (h : ∀ x ∈ xs, sl x) (hz : ∀ x ∈ xs, List.length x.2.2.1 ≤ 1048576) : spec_OnceOnly.sem (xs, ()) = some (onceR xs, ()) := by
  refine lift_eq (k := xs.length + 1) fun k hk => (spec_OnceOnly.raw_eq k _).trans ?_
  unfold spec_OnceOnly.raw spec_OnceOnly.p onceR
  simp only [len200]
  by_cases h0 : 200 < xs.length
  · have : sentsF xs = 2 := by simp [sentsF, h0]
    simp [h0, this]
    rfl
  · have hs : sentsF xs = firstF sentF xs := by simp [sentsF, h0]
    have := for_loop (B := fun self v => spec_OnceOnly.B0 0 self (fun z => spec_OnceOnly.Q0 0 (xs, ()) z) (xs, ()) v) xs (fun (_ : Unit) (i : Int) => i) (fun _ _ x => if sentF x = 0 then .inr () else .inl ((sentF x, [], (([], [], ()), 0, ([], [], ()), 0, ()), ()), ())) (fun _ => ((0, onceOf xs, (([], [], ()), 0, ([], [], ()), 0, ()), ()), ())) (fun _ _ => True) hl
      (fun i hi _ self _ => by
        show spec_OnceOnly.b0 _ _ _ _ = _
        unfold spec_OnceOnly.b0
        have hlt : (i : Int) < (xs.length : Int) := by omega
        simp only [hlt, decide_true, cond_true, Int.natCast_nonneg, if_true, Int.toNat_natCast, List.getElem?_eq_getElem hi, Option.bind_some, specSent_eq _ (h _ (List.getElem_mem hi))]
        by_cases h1 : sentF xs[i] = 0 <;> simp [h1]) (fun _ _ _ _ _ _ => trivial) (fun _ self _ => by
        show spec_OnceOnly.b0 _ _ _ _ = _
        unfold spec_OnceOnly.b0
        simp [spec_OnceOnly.Q0, spec_OnceOnly.q0, specOnce_eq xs ⟨by omega, hz⟩]) () trivial k (by omega)
    rw [forI_first sentF (fun c => ((c, [], (([], [], ()), 0, ([], [], ()), 0, ()), ()), ())) (fun _ => ((0, onceOf xs, (([], [], ()), 0, ([], [], ()), 0, ()), ()), ()))] at this
    have this : spec_OnceOnly.r0 k (xs, ()) 0 = _ := this
    rw [this, hs]
    by_cases h2 : firstF sentF xs = 0 <;> simp [h0, h2] <;> rfl

theorem once_true (v : laws_FnExactOnceOnly.Arg) (hv : okA laws_FnExactOnceOnly.ps v) : laws_FnExactOnceOnly.sem v = some (true, ()) := by
  obtain ⟨xs, ⟨⟩⟩ := v
  obtain ⟨hx, _⟩ := hv
  refine lift_eq (k := 0) fun k _ => (laws_FnExactOnceOnly.raw_eq k _).trans ?_
  show laws_FnExactOnceOnly.p _ = _
  unfold laws_FnExactOnceOnly.p
  simp only [szSentS_eq xs 1048576 hx (by omega) (by omega), Option.bind_some]
  by_cases hz : ((zz (.slc tSent) xs : Nat) : Int) ≤ 1048576
  rotate_left
  · have : lft 1048576 (zz (.slc tSent) xs) = -1 := if_neg hz
    simp [this]
  have e1 : lft 1048576 (zz (.slc tSent) xs) = 1048576 - ((zz (.slc tSent) xs : Nat) : Int) := if_pos hz
  have n1 : ¬ (1048576 - ((zz (.slc tSent) xs : Nat) : Int) < 0) := by omega
  have hz' : zz (.slc tSent) xs ≤ 1048576 := by omega
  have hel : ∀ x ∈ xs, List.length x.2.2.1 ≤ 1048576 := fun x hm => by
    have h1 := zz_mem (e := tSent) hm
    have h2 : zz tSent x = 0 + (0 + (zz (.slc tChange) x.2.2.1 + 0)) := rfl
    have h3 : List.length x.2.2.1 ≤ zz (.slc tChange) x.2.2.1 := zz_len (e := tChange) x.2.2.1
    omega
  have hsl : ∀ x ∈ xs, sl x := fun x hm => sl_ok (hx.2 x hm)
  have hR : zz tSentResult (onceR xs) ≤ 1048576 := by
    have h1 : zz (.slc tSent) (onceOf xs) ≤ 0 + zz (.slc tSent) xs := once_zz xs 0 ([], -1)
    unfold onceR
    split
    · show 0 + (zz (.slc tSent) (onceOf xs) + 0) ≤ _
      omega
    · exact Nat.zero_le _
  have hB : BIG = 4611686018427387904 := rfl
  obtain ⟨k', y, a1, a2, a3, a4⟩ := mhSentResult (onceR xs) 1 (by omega) (by omega)
  obtain ⟨k2, y2, b1, b2, b3, b4⟩ := mhSentS xs 1 (by omega) (by omega)
  simp only [e1, n1, decide_false, cond_false, toSentS_eq xs hz', specOnceOnly_eq xs hx.1 hsl hel, implOnceOnly_eq xs hx.1 hsl hel, eqSentResult_self (onceR xs) (by omega), eqSentS_self xs (by omega), a1, a2, b1, Option.bind_some, Bool.not_true, show ¬ k' < 0 by omega, show ¬ k2 < 0 by omega, decide_true]
end OT
