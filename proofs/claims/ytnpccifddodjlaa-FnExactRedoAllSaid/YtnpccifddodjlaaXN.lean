/- Records applied to pages: the program and the reference alike; and the law of RedoAll. -/
import Derived.Test.YtnpccifddodjlaaXJ
set_option linter.unusedVariables false
set_option linter.unusedSimpArgs false
namespace OT
open Go

abbrev Pages : Type := List (List UInt8)
def gp (ps : Pages) : Prop := ps.length ≤ 12 ∧ ∀ p ∈ ps, p.length = 64
def newF : List UInt8 := ((List.replicate 64 (0 : UInt8)).set 0 0).set 1 64
theorem newF_len : newF.length = 64 := by simp [newF]

theorem implNew_eq : impl_newPage.sem ((0 : UInt8), ()) = some (newF, ()) := by
  refine lift_eq (k := 66) fun k hk => (impl_newPage.raw_eq k _).trans ?_
  unfold impl_newPage.raw impl_newPage.p
  have := for_loop (B := fun self v => impl_newPage.B0 0 self (fun z => impl_newPage.Q0 0 ((0 : UInt8), ()) z) ((0 : UInt8), ()) v) (List.replicate 64 (0 : UInt8)) (fun (s : List UInt8) (i : Int) => (s, i)) (fun _ s _ => .inr s) (fun s => (newF, ())) (fun _ s => s = List.replicate 64 (0 : UInt8)) (by rw [maxLen_val]; simp)
    (fun i hi s self hI => by
      show impl_newPage.b0 _ _ _ _ = _
      unfold impl_newPage.b0
      subst hI
      simp only [List.length_replicate] at hi ⊢
      have hlt : (i : Int) < ((64 : Nat) : Int) := by omega
      have hin : (0 : Int) ≤ (i : Int) ∧ (i : Int) < ((64 : Nat) : Int) := by omega
      have hg : (List.replicate 64 (0 : UInt8))[i]? = some 0 := (List.getElem?_replicate (n := 64) (i := i) (a := (0 : UInt8))).trans (if_pos hi)
      have hs : (List.replicate 64 (0 : UInt8)).set i 0 = List.replicate 64 (0 : UInt8) := List.set_replicate_self
      simp only [hlt, hin, and_self, decide_true, cond_true, if_true, Int.toNat_natCast, hg, Option.bind_some, hs])
    (fun i hi s s' hI hs => by injection hs with hs; rw [← hs, hI]) (fun s self hI => by
      show impl_newPage.b0 _ _ _ _ = _
      unfold impl_newPage.b0
      subst hI
      simp only [List.length_replicate, Int.lt_irrefl, decide_false, cond_false]
      rfl) (List.replicate 64 (0 : UInt8)) rfl k (by simp; omega)
  rw [forI_fold (g := fun s _ => s)] at this
  have hc : (0 : Int) ≤ 64 ∧ (64 : Int) ≤ 64 ∧ (64 : Int) ≤ (CAP : Int) := ⟨by omega, by omega, by simp only [CAP]; omega⟩
  rw [if_pos hc]
  exact this

theorem specNew_eq : spec_l2New.sem ((0 : UInt8), ()) = some (newF, ()) := by
  refine lift_eq (k := 66) fun k hk => (spec_l2New.raw_eq k _).trans ?_
  unfold spec_l2New.raw spec_l2New.p
  have := for_loop (B := fun self v => spec_l2New.B0 0 self (fun z => spec_l2New.Q0 0 ((0 : UInt8), ()) z) ((0 : UInt8), ()) v) (List.replicate 64 (0 : UInt8)) (fun (s : List UInt8) (i : Int) => (s, i)) (fun _ s _ => .inr s) (fun s => (newF, ())) (fun _ s => s = List.replicate 64 (0 : UInt8)) (by rw [maxLen_val]; simp)
    (fun i hi s self hI => by
      show spec_l2New.b0 _ _ _ _ = _
      unfold spec_l2New.b0
      subst hI
      simp only [List.length_replicate] at hi ⊢
      have hlt : (i : Int) < (64 : Int) := by omega
      have hin : (0 : Int) ≤ (i : Int) ∧ (i : Int) < ((64 : Nat) : Int) := by omega
      have hg : (List.replicate 64 (0 : UInt8))[i]? = some 0 := (List.getElem?_replicate (n := 64) (i := i) (a := (0 : UInt8))).trans (if_pos hi)
      have hs : (List.replicate 64 (0 : UInt8)).set i 0 = List.replicate 64 (0 : UInt8) := List.set_replicate_self
      simp only [hlt, hin, and_self, decide_true, cond_true, if_true, Int.toNat_natCast, hg, Option.bind_some, hs])
    (fun i hi s s' hI hs => by injection hs with hs; rw [← hs, hI]) (fun s self hI => by
      show spec_l2New.b0 _ _ _ _ = _
      unfold spec_l2New.b0
      subst hI
      have : ¬ (((64 : Nat) : Int) < 64) := by omega
      simp only [List.length_replicate, this, decide_false, cond_false]
      rfl) (List.replicate 64 (0 : UInt8)) rfl k (by simp; omega)
  rw [forI_fold (g := fun s _ => s)] at this
  have hc : (0 : Int) ≤ 64 ∧ (64 : Int) ≤ 64 ∧ (64 : Int) ≤ (CAP : Int) := ⟨by omega, by omega, by simp only [CAP]; omega⟩
  rw [if_pos hc]
  exact this

/-! Runs applied. -/
def lay1 (p : List UInt8) (r : Run) : List UInt8 := over p r.1.toNat (min (List.length r.2.1) (p.length - r.1.toNat)) r.2.1
def applyR (p : List UInt8) (rs : List Run) : List UInt8 := rs.foldl lay1 p
theorem lay1_len {p : List UInt8} {r : Run} (h : r.1.toNat ≤ p.length) : (lay1 p r).length = p.length := over_length _ _ (by omega) (by omega)
theorem applyR_len : ∀ (rs : List Run) (p : List UInt8), p.length = 64 → (∀ r ∈ rs, 0 ≤ r.1 ∧ r.1 ≤ 63) → (applyR p rs).length = 64
  | [], p, h, _ => h
  | r :: rs, p, h, hr => by
    have := hr r (by simp)
    exact applyR_len rs _ (by rw [lay1_len (by omega)]; exact h) (fun x hx => hr x (by simp [hx]))

theorem implApplied_eq (p : List UInt8) (rs : List Run) (hp : p.length = 64) (hl : rs.length ≤ 64) (hr : ∀ r ∈ rs, 0 ≤ r.1 ∧ r.1 ≤ 63) : impl_applied.sem (p, rs, ()) = some (applyR p rs, ()) := by
  refine lift_eq (k := 66) fun k hk => (impl_applied.raw_eq k _).trans ?_
  unfold impl_applied.raw impl_applied.p
  rw [implCopied_eq _ (by show p.length ≤ _; omega)]
  have := for_loop (B := fun self v => impl_applied.B0 0 self (fun z => impl_applied.Q0 0 (p, rs, ()) z) (p, rs, ()) v) rs (fun (s : List UInt8) (i : Int) => (s, i)) (fun _ s r => .inr (lay1 s r)) (fun s => (s, ())) (fun _ s => s.length = 64) (by rw [maxLen_val]; omega)
    (fun i hi s self hI => by
      show impl_applied.b0 _ _ _ _ = _
      unfold impl_applied.b0
      have hlt : (i : Int) < (rs.length : Int) := by omega
      have hx := hr rs[i] (List.getElem_mem hi)
      have hin : (0 : Int) ≤ (rs[i]).1 ∧ (rs[i]).1 ≤ (s.length : Int) := by omega
      simp only [hlt, decide_true, cond_true, Int.natCast_nonneg, if_true, Int.toNat_natCast, List.getElem?_eq_getElem hi, Option.bind_some, hin, and_self]
      rfl)
    (fun i hi s s' hI hs => by
      injection hs with hs
      have hx := hr rs[i] (List.getElem_mem hi)
      rw [← hs, lay1_len (by omega)]; exact hI) (fun s self hI => by
      show impl_applied.b0 _ _ _ _ = _
      unfold impl_applied.b0
      simp only [Int.lt_irrefl, decide_false, cond_false]
      rfl) p hp k (by omega)
  rw [forI_fold] at this
  exact this

theorem specApplied_eq (p : List UInt8) (rs : List Run) (hp : p.length = 64) (hl : rs.length ≤ 64) (hr : ∀ r ∈ rs, 0 ≤ r.1 ∧ r.1 ≤ 63) : spec_l3Apply.sem (p, rs, ()) = some (applyR p rs, ()) := by
  refine lift_eq (k := 66) fun k hk => (spec_l3Apply.raw_eq k _).trans ?_
  unfold spec_l3Apply.raw spec_l3Apply.p
  rw [specCopy_eq _ (by show p.length ≤ _; omega)]
  have := for_loop (B := fun self v => spec_l3Apply.B0 0 self (fun z => spec_l3Apply.Q0 0 (p, rs, ()) z) (p, rs, ()) v) rs (fun (s : List UInt8) (i : Int) => (s, i)) (fun _ s r => .inr (lay1 s r)) (fun s => (s, ())) (fun _ s => s.length = 64) (by rw [maxLen_val]; omega)
    (fun i hi s self hI => by
      show spec_l3Apply.b0 _ _ _ _ = _
      unfold spec_l3Apply.b0
      have hlt : (i : Int) < (rs.length : Int) := by omega
      have hx := hr rs[i] (List.getElem_mem hi)
      have hin : (0 : Int) ≤ (rs[i]).1 ∧ (rs[i]).1 ≤ (s.length : Int) := by omega
      simp only [hlt, decide_true, cond_true, Int.natCast_nonneg, if_true, Int.toNat_natCast, List.getElem?_eq_getElem hi, Option.bind_some, hin, and_self]
      rfl)
    (fun i hi s s' hI hs => by
      injection hs with hs
      have hx := hr rs[i] (List.getElem_mem hi)
      rw [← hs, lay1_len (by omega)]; exact hI) (fun s self hI => by
      show spec_l3Apply.b0 _ _ _ _ = _
      unfold spec_l3Apply.b0
      simp only [Int.lt_irrefl, decide_false, cond_false]
      rfl) p hp k (by omega)
  rw [forI_fold] at this
  exact this

/-! Copies. -/
theorem fold_self {α : Type} : ∀ (xs s : List α), xs.foldl (fun s x => s ++ [x]) s = s ++ xs
  | [], s => by simp
  | x :: xs, s => by rw [List.foldl_cons, fold_self]; simp
theorem implCopies_eq (ps : Pages) (h : gp ps) : impl_copies.sem (ps, ()) = some (ps, ()) := by
  obtain ⟨h1, h2⟩ := h
  refine lift_eq (k := 14) fun k hk => (impl_copies.raw_eq k _).trans ?_
  have := for_loop (B := fun self v => impl_copies.B0 0 self (fun z => impl_copies.Q0 0 (ps, ()) z) (ps, ()) v) ps (fun (s : Pages) (i : Int) => (s, i)) (fun _ s x => .inr (s ++ [x])) (fun s => (s, ())) (fun i s => s.length = i) (by rw [maxLen_val]; omega)
    (fun i hi s self hI => by
      show impl_copies.b0 _ _ _ _ = _
      unfold impl_copies.b0
      have hlt : (i : Int) < (ps.length : Int) := by omega
      have hx := h2 ps[i] (List.getElem_mem hi)
      simp only [hlt, decide_true, cond_true, Int.natCast_nonneg, if_true, Int.toNat_natCast, List.getElem?_eq_getElem hi, Option.bind_some]
      rw [implCopied_eq _ (by omega)]
      have hc : s.length + [ps[i]].length ≤ CAP := cap_ok (by simp only [List.length_cons, List.length_nil]; omega)
      simp only [Option.bind_some, hc, if_true])
    (fun i hi s s' hI hs => by injection hs with hs; rw [← hs]; simp [hI]) (fun s self hI => by
      show impl_copies.b0 _ _ _ _ = _
      unfold impl_copies.b0
      simp only [Int.lt_irrefl, decide_false, cond_false]
      rfl) [] rfl k (by omega)
  rw [forI_fold, fold_self] at this
  exact this
theorem specCopies_eq (ps : Pages) (h : gp ps) : spec_l7Copy.sem (ps, ()) = some (ps, ()) := by
  obtain ⟨h1, h2⟩ := h
  refine lift_eq (k := 14) fun k hk => (spec_l7Copy.raw_eq k _).trans ?_
  have := for_loop (B := fun self v => spec_l7Copy.B0 0 self (fun z => spec_l7Copy.Q0 0 (ps, ()) z) (ps, ()) v) ps (fun (s : Pages) (i : Int) => (s, i)) (fun _ s x => .inr (s ++ [x])) (fun s => (s, ())) (fun i s => s.length = i) (by rw [maxLen_val]; omega)
    (fun i hi s self hI => by
      show spec_l7Copy.b0 _ _ _ _ = _
      unfold spec_l7Copy.b0
      have hlt : (i : Int) < (ps.length : Int) := by omega
      have hx := h2 ps[i] (List.getElem_mem hi)
      simp only [hlt, decide_true, cond_true, Int.natCast_nonneg, if_true, Int.toNat_natCast, List.getElem?_eq_getElem hi, Option.bind_some]
      rw [specCopy_eq _ (by omega)]
      have hc : s.length + [ps[i]].length ≤ CAP := cap_ok (by simp only [List.length_cons, List.length_nil]; omega)
      simp only [Option.bind_some, hc, if_true])
    (fun i hi s s' hI hs => by injection hs with hs; rw [← hs]; simp [hI]) (fun s self hI => by
      show spec_l7Copy.b0 _ _ _ _ = _
      unfold spec_l7Copy.b0
      simp only [Int.lt_irrefl, decide_false, cond_false]
      rfl) [] rfl k (by omega)
  rw [forI_fold, fold_self] at this
  exact this
theorem clone_eq (ps : Pages) (h : ps.length ≤ 12) : slices_Clone_bytes.sem (ps, ()) = some (ps, ()) := by
  refine lift_eq (k := 0) fun k _ => (slices_Clone_bytes.raw_eq k _).trans ?_
  show slices_Clone_bytes.p _ = _
  unfold slices_Clone_bytes.p
  refine nilB_eq (fun e => by rw [show ps = [] from e]) ?_
  have : ([] : List (List UInt8)).length + ps.length ≤ CAP := cap_ok (by simp only [List.length_nil]; omega)
  rw [if_pos this, List.nil_append]

/-! One record. -/
def putR (q : Pages) (r : Record) : Pages := q.set r.2.2.1.toNat (applyR (q.getD r.2.2.1.toNat []) r.2.2.2.1)
def stepF (ps : Pages) (r : Record) : Sum Int Pages :=
  if recF r = 0 then (if inB r.1 2 4 then (if (ps.length : Int) < r.2.2.1 then .inl 1 else .inr (putR (if r.2.2.1 = (ps.length : Int) then ps ++ [newF] else ps) r)) else .inr ps) else .inl (recF r)
theorem stepF_bad {ps : Pages} {r : Record} {c : Int} (h : stepF ps r = .inl c) : c ≠ 0 := by
  unfold stepF at h
  split at h
  · split at h
    · split at h
      · injection h with h; subst h; decide
      · cases h
    · cases h
  · rename_i hr
    injection h with h; subst h; exact hr
theorem putR_good {q : Pages} {r : Record} (hq : gp q) (hr : recF r = 0) (hp : r.2.2.1.toNat < q.length) : gp (putR q r) := by
  have hg := recF_good hr
  refine ⟨by simp [putR]; exact hq.1, fun p hm => ?_⟩
  rcases List.mem_or_eq_of_mem_set hm with h | h
  · exact hq.2 p h
  · subst h
    have hx : q.getD r.2.2.1.toNat [] = q[r.2.2.1.toNat] := by simp [hp]
    rw [hx]
    exact applyR_len _ _ (hq.2 _ (List.getElem_mem hp)) (fun x hx => by have := hg.2.2.2.2.2.2.2 x hx; omega)
theorem stepF_good {ps ps' : Pages} {r : Record} (hp : gp ps) (h : stepF ps r = .inr ps') : gp ps' := by
  unfold stepF at h
  split at h
  · rename_i hr
    have hg := recF_good hr
    split at h
    · split at h
      · cases h
      · rename_i hl
        injection h with h
        subst h
        split
        · rename_i he
          refine putR_good ⟨by simp; omega, fun p hm => ?_⟩ hr (by simp; omega)
          rcases List.mem_append.1 hm with hm | hm
          · exact hp.2 p hm
          · simp only [List.mem_singleton] at hm; subst hm; exact newF_len
        · rename_i he
          exact putR_good hp hr (by omega)
    · injection h with h; subst h; exact hp
  · cases h

theorem implRecorded_eq (ps : Pages) (r : Record) (hp : gp ps) (hr : recF r = 0) : impl_recorded.sem (ps, r, ()) = some (match stepF ps r with | .inl c => (([] : Pages), c, ()) | .inr ps' => (ps', (0 : Int), ())) := by
  refine lift_eq (k := 0) fun k _ => (impl_recorded.raw_eq k _).trans ?_
  show impl_recorded.p _ = _
  have hg := recF_good hr
  unfold impl_recorded.p stepF
  simp only [turns_eq, hr, if_true, Option.bind_some]
  cases ht : inB r.1 2 4 with
  | false => rfl
  | true =>
    simp only [Bool.not_true, cond_false, if_true]
    by_cases hl : (ps.length : Int) < r.2.2.1
    · simp only [hl, decide_true, cond_true, if_true]
    have h12 : ¬ r.2.2.1 = 12 := by omega
    simp only [hl, h12, decide_false, cond_false, if_false, clone_eq ps hp.1, Option.bind_some]
    have key : ∀ q : Pages, gp q → r.2.2.1.toNat < q.length → (if 0 ≤ r.2.2.1 ∧ r.2.2.1 < (q.length : Int) then ((q[r.2.2.1.toNat]?).bind fun x11 => (impl_applied.sem (x11, r.2.2.2.1, ())).bind fun r12 => if 0 ≤ r.2.2.1 ∧ r.2.2.1 < (q.length : Int) then ((q[r.2.2.1.toNat]?).bind fun x13 => some (q.set r.2.2.1.toNat r12.1, (0 : Int), ())) else none) else none : Option impl_recorded.Out) = some (putR q r, (0 : Int), ()) := fun q hq hlt => by
      have hc : 0 ≤ r.2.2.1 ∧ r.2.2.1 < (q.length : Int) := by omega
      simp only [hc, and_self, if_true, List.getElem?_eq_getElem hlt, Option.bind_some]
      rw [implApplied_eq _ _ (hq.2 _ (List.getElem_mem hlt)) hg.2.2.2.2.2.2.1 (fun x hx => by have := hg.2.2.2.2.2.2.2 x hx; omega)]
      have hx : q.getD r.2.2.1.toNat [] = q[r.2.2.1.toNat] := by simp [hlt]
      unfold putR
      rw [hx]
      rfl
    by_cases he : r.2.2.1 = (ps.length : Int)
    · have hcc : ps.length + [newF].length ≤ CAP := cap_ok (by have := hp.1; simp only [List.length_cons, List.length_nil]; omega)
      rw [if_pos he]
      simp only [he, decide_true, cond_true, implNew_eq, Option.bind_some, hcc, if_true]
      rw [← he]
      refine key _ ⟨by simp; omega, fun p hm => ?_⟩ (by simp; omega)
      rcases List.mem_append.1 hm with hm | hm
      · exact hp.2 p hm
      · simp only [List.mem_singleton] at hm; subst hm; exact newF_len
    · rw [if_neg he]
      simp only [he, decide_false, cond_false]
      exact key ps hp (by omega)

theorem bad_eq (c : Int) : spec_l7Bad.sem (c, ()) = some ((c, ([] : List Run), ([] : List (List UInt8)), ()), ()) := by
  refine lift_eq (k := 0) fun k _ => (spec_l7Bad.raw_eq k _).trans ?_
  rfl

theorem specRecord_eq (ps : Pages) (r : Record) (hp : gp ps) : spec_ApplyRecord.sem (ps, r, ()) = some (match stepF ps r with | .inl c => ((c, ([] : List Run), ([] : Pages), ()), ()) | .inr ps' => (((0 : Int), ([] : List Run), ps', ()), ())) := by
  refine lift_eq (k := 14) fun k hk => (spec_ApplyRecord.raw_eq k _).trans ?_
  unfold spec_ApplyRecord.raw spec_ApplyRecord.p
  have h12 : ¬ (12 : Int) < (ps.length : Int) := by have := hp.1; omega
  simp only [h12, decide_false, cond_false]
  have main : spec_ApplyRecord.Q0 0 (ps, r, ()) () = some (match stepF ps r with | .inl c => ((c, ([] : List Run), ([] : Pages), ()), ()) | .inr ps' => (((0 : Int), ([] : List Run), ps', ()), ())) := by
    show spec_ApplyRecord.q0 _ _ = _
    unfold spec_ApplyRecord.q0 stepF
    simp only [specRec_eq, bad_eq, specCopies_eq ps hp, spec4Runs_eq, Option.bind_some]
    by_cases hr : recF r = 0
    rotate_left
    · simp only [hr, decide_false, Bool.not_false, cond_true, if_false]
    have hg := recF_good hr
    simp only [hr, decide_true, Bool.not_true, cond_false, if_true]
    cases ht : inB r.1 2 4 with
    | false => rfl
    | true =>
      simp only [Bool.not_true, cond_false, if_true]
      by_cases hl : (ps.length : Int) < r.2.2.1
      · simp only [hl, decide_true, cond_true, if_true]
      have h12 : ¬ r.2.2.1 = 12 := by omega
      simp only [hl, h12, decide_false, cond_false, if_false]
      have key : ∀ q : Pages, gp q → r.2.2.1.toNat < q.length → (if 0 ≤ r.2.2.1 ∧ r.2.2.1 < (q.length : Int) then ((q[r.2.2.1.toNat]?).bind fun x621 => (q[r.2.2.1.toNat]?).bind fun x622 => (spec_l3Apply.sem (x622, r.2.2.2.1, ())).bind fun r623 => if 0 ≤ r.2.2.1 ∧ r.2.2.1 < (q.length : Int) then ((q[r.2.2.1.toNat]?).bind fun x624 => some (((0 : Int), ([] : List Run), q.set r.2.2.1.toNat r623.1, ()), ())) else none) else none : Option spec_ApplyRecord.Out) = some (((0 : Int), ([] : List Run), putR q r, ()), ()) := fun q hq hlt => by
        have hc : 0 ≤ r.2.2.1 ∧ r.2.2.1 < (q.length : Int) := by omega
        simp only [hc, and_self, if_true, List.getElem?_eq_getElem hlt, Option.bind_some]
        rw [specApplied_eq _ _ (hq.2 _ (List.getElem_mem hlt)) hg.2.2.2.2.2.2.1 (fun x hx => by have := hg.2.2.2.2.2.2.2 x hx; omega)]
        have hx : q.getD r.2.2.1.toNat [] = q[r.2.2.1.toNat] := by simp [hlt]
        unfold putR
        rw [hx]
        rfl
      by_cases he : r.2.2.1 = (ps.length : Int)
      · have hcc : ps.length + [newF].length ≤ CAP := cap_ok (by have := hp.1; simp only [List.length_cons, List.length_nil]; omega)
        rw [if_pos he]
        simp only [he, decide_true, cond_true, specNew_eq, Option.bind_some, hcc, if_true]
        rw [← he]
        refine key _ ⟨by simp; omega, fun p hm => ?_⟩ (by simp; omega)
        rcases List.mem_append.1 hm with hm | hm
        · exact hp.2 p hm
        · simp only [List.mem_singleton] at hm; subst hm; exact newF_len
      · rw [if_neg he]
        simp only [he, decide_false, cond_false]
        exact key ps hp (by omega)
  have := for_loop (B := fun self v => spec_ApplyRecord.B0 0 self (fun z => spec_ApplyRecord.Q0 0 (ps, r, ()) z) (ps, r, ()) v) ps (fun (s : Unit) (i : Int) => i) (fun _ s x => .inr s) (fun s => (match stepF ps r with | .inl c => ((c, ([] : List Run), ([] : Pages), ()), ()) | .inr ps' => (((0 : Int), ([] : List Run), ps', ()), ()))) (fun i s => True) (by have := hp.1; rw [maxLen_val]; omega)
    (fun i hi s self hI => by
      show spec_ApplyRecord.b0 _ _ _ _ = _
      unfold spec_ApplyRecord.b0
      have hlt : (i : Int) < (ps.length : Int) := by omega
      have hx : ((ps[i].length : Nat) : Int) = 64 := by have := hp.2 ps[i] (List.getElem_mem hi); omega
      simp only [hlt, decide_true, cond_true, Int.natCast_nonneg, if_true, Int.toNat_natCast, List.getElem?_eq_getElem hi, Option.bind_some, hx, Bool.not_true, cond_false])
    (fun _ _ _ _ _ _ => trivial) (fun s self hI => by
      show spec_ApplyRecord.b0 _ _ _ _ = _
      unfold spec_ApplyRecord.b0
      simp only [Int.lt_irrefl, decide_false, cond_false]
      exact main) () trivial k (by have := hp.1; omega)
  rw [forI_fold (g := fun s _ => s)] at this
  exact this

/-! All records. -/
def redoF (xs : List Record) : Pages × Int × Unit := forI (fun _ ps r => match stepF ps r with | .inl c => .inl (([] : Pages), c, ()) | .inr ps' => .inr ps') (fun ps => (ps, (0 : Int), ())) 0 xs []
def redoAllF (xs : List Record) : EditsResult := if (redoF xs).2.1 = 0 then ((0 : Int), ([] : List Run), (redoF xs).1, ()) else ((redoF xs).2.1, ([] : List Run), ([] : Pages), ())

theorem redoF_good (xs : List Record) : (redoF xs).2.1 = 0 → gp (redoF xs).1 := by
  have main : ∀ (xs : List Record) (i : Nat) (ps : Pages), gp ps → (forI (fun _ ps r => match stepF ps r with | .inl c => .inl (([] : Pages), c, ()) | .inr ps' => .inr ps') (fun ps => (ps, (0 : Int), ())) i xs ps).2.1 = 0 → gp (forI (fun _ ps r => match stepF ps r with | .inl c => .inl (([] : Pages), c, ()) | .inr ps' => .inr ps') (fun ps => (ps, (0 : Int), ())) i xs ps).1 := by
    intro xs
    induction xs with
    | nil => intro i ps h _; exact h
    | cons x xs ih =>
      intro i ps h
      simp only [forI]
      cases hs : stepF ps x with
      | inl c => intro h0; exact absurd h0 (stepF_bad hs)
      | inr ps' => exact ih _ _ (stepF_good h hs)
  exact main xs 0 [] ⟨by simp, fun _ h => by cases h⟩

theorem specRedo_eq (xs : List Record) (hx : xs.length ≤ maxLen) : spec_l12Redo.sem (xs, ()) = some (redoF xs) := by
  refine lift_eq (k := xs.length + 1) fun k hk => (spec_l12Redo.raw_eq k _).trans ?_
  exact for_loop (B := fun self v => spec_l12Redo.B0 0 self (fun z => spec_l12Redo.Q0 0 (xs, ()) z) (xs, ()) v) xs (fun (s : Pages) (i : Int) => (s, i)) (fun _ ps r => match stepF ps r with | .inl c => .inl (([] : Pages), c, ()) | .inr ps' => .inr ps') (fun ps => (ps, (0 : Int), ())) (fun _ s => gp s) hx
    (fun i hi s self hI => by
      show spec_l12Redo.b0 _ _ _ _ = _
      unfold spec_l12Redo.b0
      have hlt : (i : Int) < (xs.length : Int) := by omega
      simp only [hlt, decide_true, cond_true, Int.natCast_nonneg, if_true, Int.toNat_natCast, List.getElem?_eq_getElem hi, Option.bind_some, specRecord_eq s _ hI]
      cases hs : stepF s xs[i] with
      | inl c =>
        have := stepF_bad hs
        simp only [this, decide_false, Bool.not_false, cond_true]
      | inr ps' => simp only [decide_true, Bool.not_true, cond_false])
    (fun i hi s s' hI hs => by
      cases h : stepF s xs[i] with
      | inl c => rw [h] at hs; cases hs
      | inr ps' => rw [h] at hs; injection hs with hs; subst hs; exact stepF_good hI h) (fun s self hI => by
      show spec_l12Redo.b0 _ _ _ _ = _
      unfold spec_l12Redo.b0
      simp only [Int.lt_irrefl, decide_false, cond_false]
      rfl) [] ⟨by simp, fun _ h => by cases h⟩ k (by omega)

theorem implRedo_eq (xs : List Record) (hx : xs.length ≤ maxLen) : impl_redo.sem (xs, ()) = some (redoF xs) := by
  refine lift_eq (k := xs.length + 1) fun k hk => (impl_redo.raw_eq k _).trans ?_
  exact for_loop (B := fun self v => impl_redo.B0 0 self (fun z => impl_redo.Q0 0 (xs, ()) z) (xs, ()) v) xs (fun (s : Pages) (i : Int) => (s, i)) (fun _ ps r => match stepF ps r with | .inl c => .inl (([] : Pages), c, ()) | .inr ps' => .inr ps') (fun ps => (ps, (0 : Int), ())) (fun _ s => gp s) hx
    (fun i hi s self hI => by
      show impl_redo.b0 _ _ _ _ = _
      unfold impl_redo.b0
      have hlt : (i : Int) < (xs.length : Int) := by omega
      simp only [hlt, decide_true, cond_true, Int.natCast_nonneg, if_true, Int.toNat_natCast, List.getElem?_eq_getElem hi, Option.bind_some, implRec_eq]
      by_cases hr : recF xs[i] = 0
      · simp only [hr, decide_true, Bool.not_true, cond_false, implRecorded_eq s _ hI hr, Option.bind_some]
        cases hs : stepF s xs[i] with
        | inl c =>
          have := stepF_bad hs
          simp only [this, decide_false, Bool.not_false, cond_true]
        | inr ps' => simp only [decide_true, Bool.not_true, cond_false]
      · have hs : stepF s xs[i] = .inl (recF xs[i]) := by unfold stepF; rw [if_neg hr]
        simp only [hr, decide_false, Bool.not_false, cond_true, hs])
    (fun i hi s s' hI hs => by
      cases h : stepF s xs[i] with
      | inl c => rw [h] at hs; cases hs
      | inr ps' => rw [h] at hs; injection hs with hs; subst hs; exact stepF_good hI h) (fun s self hI => by
      show impl_redo.b0 _ _ _ _ = _
      unfold impl_redo.b0
      simp only [Int.lt_irrefl, decide_false, cond_false]
      rfl) [] ⟨by simp, fun _ h => by cases h⟩ k (by omega)

theorem specRedoAll_eq (xs : List Record) (hx : xs.length ≤ maxLen) : spec_RedoAll.sem (xs, ()) = some (redoAllF xs, ()) := by
  refine lift_eq (k := 0) fun k _ => (spec_RedoAll.raw_eq k _).trans ?_
  show spec_RedoAll.p _ = _
  unfold spec_RedoAll.p redoAllF
  simp only [specRedo_eq xs hx, bad_eq, Option.bind_some]
  by_cases h : (redoF xs).2.1 = 0
  · simp only [h, decide_true, Bool.not_true, cond_false, if_true]
  · simp only [h, decide_false, Bool.not_false, cond_true, if_false]
theorem implRedoAll_eq (xs : List Record) (hx : xs.length ≤ maxLen) : impl_RedoAll.sem (xs, ()) = some (redoAllF xs, ()) := by
  refine lift_eq (k := 0) fun k _ => (impl_RedoAll.raw_eq k _).trans ?_
  show impl_RedoAll.p _ = _
  unfold impl_RedoAll.p redoAllF
  simp only [implRedo_eq xs hx, Option.bind_some]
  by_cases h : (redoF xs).2.1 = 0
  · simp only [h, decide_true, Bool.not_true, cond_false, if_true, implCopies_eq _ (redoF_good xs h), Option.bind_some]
  · simp only [h, decide_false, Bool.not_false, cond_true, if_false]

theorem zz_pages (ps : Pages) (h : gp ps) : zz (.slc (.slc u8)) ps ≤ 12 * 65 := by
  obtain ⟨h1, h2⟩ := h
  have main : ∀ ps : Pages, (∀ p ∈ ps, p.length = 64) → zz (.slc (.slc u8)) ps = 65 * ps.length := by
    intro ps
    induction ps with
    | nil => intro _; rfl
    | cons p ps ih =>
      intro h
      have h3 : zz (.slc (.slc u8)) (p :: ps) = zz (.slc u8) p + 1 + zz (.slc (.slc u8)) ps := zz_cons (e := .slc u8) p ps
      have h4 : zz (.slc u8) p = p.length + sumW (zz u8) p := rfl
      have h5 : sumW (zz u8) p = 0 := sumW_zero _ (fun _ => rfl) p
      have h6 := ih fun q hq => h q (by simp [hq])
      have h7 := h p (by simp)
      rw [h3, h4, h5, h6, h7, List.length_cons]
      omega
  rw [main ps h2]
  omega

theorem redoAll_small (xs : List Record) : zz tEditsResult (redoAllF xs) ≤ 1000 := by
  have hz : ∀ (c : Int) (ps : Pages), zz tEditsResult (c, ([] : List Run), ps, ()) = zz (.slc (.slc u8)) ps := fun c ps => by
    show 0 + (0 + (zz (.slc (.slc u8)) ps + 0)) = _
    omega
  unfold redoAllF
  split
  · rename_i h
    exact Nat.le_trans (Nat.le_of_eq (hz _ _)) (Nat.le_trans (zz_pages _ (redoF_good xs h)) (by omega))
  · exact Nat.le_trans (Nat.le_of_eq (hz _ _)) (Nat.zero_le _)

theorem redoAll_true (v : laws_FnExactRedoAll.Arg) (hv : okA laws_FnExactRedoAll.ps v) : laws_FnExactRedoAll.sem v = some (true, ()) := by
  obtain ⟨xs, ⟨⟩⟩ := v
  obtain ⟨hx, _⟩ := hv
  refine lift_eq (k := 0) fun k _ => (laws_FnExactRedoAll.raw_eq k _).trans ?_
  show laws_FnExactRedoAll.p _ = _
  unfold laws_FnExactRedoAll.p
  simp only [szRecordS_eq xs 1048576 hx (by omega) (by omega), Option.bind_some]
  by_cases hz : ((zz (.slc tRecord) xs : Nat) : Int) ≤ 1048576
  rotate_left
  · have : lft 1048576 (zz (.slc tRecord) xs) = -1 := if_neg hz
    simp only [this]
    rfl
  have e1 : lft 1048576 (zz (.slc tRecord) xs) = 1048576 - ((zz (.slc tRecord) xs : Nat) : Int) := if_pos hz
  have n1 : ¬ (1048576 - ((zz (.slc tRecord) xs : Nat) : Int) < 0) := by omega
  have hR := redoAll_small xs
  have hB : BIG = 4611686018427387904 := rfl
  obtain ⟨k', y, a1, a2, a3, a4⟩ := mhEditsResult (redoAllF xs) 1 (by omega) (by omega)
  obtain ⟨k2, y2, b1, b3, b4⟩ := mkRecordS xs 1 (by omega) (by omega)
  simp only [e1, n1, decide_false, cond_false, toRecordS_eq xs (by omega), specRedoAll_eq xs hx.1, implRedoAll_eq xs hx.1, eqEditsResult_self (redoAllF xs) (by omega), eqRecordS_self xs (by omega), a1, a2, b1, Option.bind_some, Bool.not_true, show ¬ k' < 0 by omega, show ¬ k2 < 0 by omega, decide_true]
end OT
