/- The plain model's faults: the program and the reference alike; and the law of PlainFault. -/
import Derived.Test.YtkimdiobckckiaaXS
set_option linter.unusedVariables false
set_option linter.unusedSimpArgs false
namespace OT
open Go

/-! Taken back. -/
def invC (c : Change) : Change := (c.2.2.1, c.2.2.2.1, c.1, c.2.1, ())
def invF (cs : List Change) : List Change := cs.reverse.map invC
theorem inv_len (cs : List Change) : (invF cs).length = cs.length := by simp [invF]
theorem inv_mem {cs : List Change} {c : Change} (h : c ∈ invF cs) : ∃ d ∈ cs, c = invC d := by
  unfold invF at h
  obtain ⟨d, h1, h2⟩ := List.mem_map.1 h
  exact ⟨d, List.mem_reverse.1 h1, h2.symm⟩
theorem sameKey_comm (a b : Row) : sameKey a b = sameKey b a := by
  rw [sameKey_rk, sameKey_rk]
  by_cases h : rk a = rk b
  · simp [h]
  · have : ¬ rk b = rk a := fun e => h e.symm
    simp [h, this]
theorem chF_inv {c : Change} (h : chF c = 0) : chF (invC c) = 0 := by
  obtain ⟨a, ra, b, rb, ⟨⟩⟩ := c
  unfold chF at h ⊢
  simp only [invC]
  have hk := sameKey_comm ra rb
  cases a <;> cases b
  · exact h
  · simp at h ⊢
    by_cases hr : rowF rb = 0
    · exact fun _ => hr
    · simp [hr] at h
  · simp at h ⊢
    by_cases hr : rowF ra = 0
    · exact hr
    · simp [hr] at h
  · simp only [hk] at h
    by_cases hs : sameKey rb ra = true
    · by_cases hr : rowF ra = 0
      · by_cases hb : rowF rb = 0
        · simp [hs, hr, hb] at h ⊢
          try omega
        · simp [hs, hr, hb] at h ⊢
      · by_cases hb : rowF rb = 0
        · simp [hs, hr, hb] at h ⊢
        · simp [hs, hr, hb] at h ⊢
    · simp [hs] at h

theorem inverse_loop (cs : List Change) (hl : cs.length ≤ 1048576) {O : Type} {B : ((List Change × Int) → Option O) → (List Change × Int) → Option O} {E : List Change → Option O}
    (hin : ∀ (m : Nat) (hm : m < cs.length) acc self, acc.length ≤ 1048576 → B self (acc, (m : Int)) = self (acc ++ [invC cs[m]], w64 ((m : Int) - 1))) (hout : ∀ acc self, B self (acc, (-1 : Int)) = E acc) :
    ∀ k, cs.length < k → rawIter B k ([], w64 ((cs.length : Int) - 1)) = E (invF cs) := by
  have main : ∀ (m : Nat) (acc : List Change), m ≤ cs.length → acc.length + m ≤ cs.length → ∀ k, m < k → rawIter B k (acc, (m : Int) - 1) = E (acc ++ (cs.take m).reverse.map invC) := by
    intro m
    induction m with
    | zero =>
      intro acc _ _ k hk
      cases k with
      | zero => omega
      | succ k =>
        show B (rawIter B k) _ = _
        have : ((0 : Nat) : Int) - 1 = -1 := by omega
        rw [this, hout]
        simp
    | succ m ih =>
      intro acc hm ha k hk
      cases k with
      | zero => omega
      | succ k =>
        show B (rawIter B k) _ = _
        have e : ((m + 1 : Nat) : Int) - 1 = (m : Int) := by omega
        rw [e, hin m (by omega) acc _ (by omega), w64_in (by omega), ih _ (by omega) (by simp; omega) k (by omega), List.take_succ_eq_append_getElem (by omega), List.reverse_append, List.map_append, List.append_assoc]
        rfl
  intro k hk
  have := main cs.length [] (Nat.le_refl _) (by simp) k hk
  rw [w64_in (by omega)]
  simpa [invF] using this
theorem specInv_eq (cs : List Change) (hl : cs.length ≤ 1048576) : spec_l10Inverse.sem (cs, ()) = some (invF cs, ()) := by
  refine lift_eq (k := cs.length + 1) fun k hk => (spec_l10Inverse.raw_eq k _).trans ?_
  refine inverse_loop cs hl (B := fun self v => spec_l10Inverse.B0 0 self (fun z => spec_l10Inverse.Q0 0 (cs, ()) z) (cs, ()) v) (E := fun z => some (z, ())) (fun m hm acc self ha => ?_) (fun acc self => ?_) k (by omega)
  · show spec_l10Inverse.b0 _ _ _ _ = _
    unfold spec_l10Inverse.b0
    have hc : acc.length + [invC cs[m]].length ≤ CAP := cap_ok (by simp only [List.length_cons, List.length_nil]; omega)
    simp only [Int.natCast_nonneg, decide_true, cond_true, if_true, Int.toNat_natCast, List.getElem?_eq_getElem hm, Option.bind_some]
    exact if_pos hc
  · show spec_l10Inverse.b0 _ _ _ _ = _
    unfold spec_l10Inverse.b0
    rfl
theorem implInv_eq (cs : List Change) (hl : cs.length ≤ 1048576) : impl_inverse.sem (cs, ()) = some (invF cs, ()) := by
  refine lift_eq (k := cs.length + 1) fun k hk => (impl_inverse.raw_eq k _).trans ?_
  refine inverse_loop cs hl (B := fun self v => impl_inverse.B0 0 self (fun z => impl_inverse.Q0 0 (cs, ()) z) (cs, ()) v) (E := fun z => some (z, ())) (fun m hm acc self ha => ?_) (fun acc self => ?_) k (by omega)
  · show impl_inverse.b0 _ _ _ _ = _
    unfold impl_inverse.b0
    have hc : acc.length + [invC cs[m]].length ≤ CAP := cap_ok (by simp only [List.length_cons, List.length_nil]; omega)
    simp only [Int.natCast_nonneg, decide_true, cond_true, if_true, Int.toNat_natCast, List.getElem?_eq_getElem hm, Option.bind_some]
    exact if_pos hc
  · show impl_inverse.b0 _ _ _ _ = _
    unfold impl_inverse.b0
    rfl

def backL : List Row → List Change → Option (List Row)
  | s, [] => some s
  | s, c :: cs => if fits1 s c then backL (done1 s c) cs else none
theorem back_append : ∀ (a b : List Change) (s : List Row), backL s (a ++ b) = (backL s a).bind fun t => backL t b
  | [], b, s => rfl
  | c :: a, b, s => by
    simp only [List.cons_append, backL]
    split
    · exact back_append a b _
    · rfl
theorem forI_back {O : Type} (bad : O) (fin : List Row → O) : ∀ (cs : List Change) (i : Nat) (s : List Row), forI (fun _ s c => if fits1 s c then .inr (done1 s c) else .inl bad) fin i cs s = match backL s cs with | some t => fin t | none => bad
  | [], _, _ => rfl
  | c :: cs, i, s => by
    simp only [forI, backL]
    by_cases h : fits1 s c = true
    · simp only [h, if_true]; exact forI_back bad fin cs _ _
    · simp [h]
theorem back_good : ∀ (cs : List Change) (s t : List Row), Good s → (∀ c ∈ cs, chF c = 0) → backL s cs = some t → Good t ∧ t.length ≤ s.length + cs.length
  | [], s, t, h, _, hb => by injection hb with hb; subst hb; exact ⟨h, by simp⟩
  | c :: cs, s, t, h, hc, hb => by
    simp only [backL] at hb
    split at hb
    · have h1 := back_good cs (done1 s c) t (good_done h (hc c (by simp))) (fun d hd => hc d (by simp [hd])) hb
      have h2 := done_len s c
      exact ⟨h1.1, by simp only [List.length_cons]; omega⟩
    · cases hb

theorem forI_inr {O α : Type} {f : Nat → Unit → α → Sum O Unit} {fin : Unit → O} : ∀ (xs : List α) (j : Nat), (∀ i (hi : i < xs.length), f (j + i) () xs[i] = .inr ()) → forI f fin j xs () = fin ()
  | [], _, _ => rfl
  | x :: xs, j, h => by
    have h0 := h 0 (by simp)
    simp only [Nat.add_zero, List.getElem_cons_zero] at h0
    simp only [forI, h0]
    exact forI_inr xs (j + 1) fun i hi => by
      have := h (i + 1) (by simp; omega)
      rw [show j + 1 + i = j + (i + 1) by omega]
      simpa using this
theorem good_rowsF {xs : List Row} (h : Good xs) (hl : xs.length ≤ 60) : rowsF xs = 0 := by
  unfold rowsF
  rw [if_neg (by omega), forI_inr xs 0 fun i hi => ?_]
  unfold rowsStep
  rw [if_pos (h.ok _ (List.getElem_mem hi)), Nat.zero_add]
  by_cases h0 : 0 < i
  · rw [if_pos h0, List.getElem?_eq_getElem (show i - 1 < xs.length by omega)]
    have hu := h.up
    unfold up at hu
    rw [List.pairwise_iff_getElem] at hu
    have := hu (i - 1) i (by omega) hi (by omega)
    simp only [this, if_true]
  · rw [if_neg h0]

theorem apply_back {s : List Row} {cs : List Change} (h : Good s) (hc : ∀ c ∈ cs, chF c = 0) (hl : s.length + cs.length ≤ 60) : applyF s cs = match backL s cs with | some t => ((0 : Int), t, ()) | none => ((8 : Int), ([] : List Row), ()) := by
  unfold applyF
  rw [if_pos (good_rowsF h (by omega))]
  have main : ∀ (cs : List Change) (s : List Row) (i : Nat), Good s → (∀ c ∈ cs, chF c = 0) → s.length + cs.length ≤ 60 → (forI applyStep applyFin i cs s).1 = match backL s cs with | some t => ((0 : Int), t, ()) | none => ((8 : Int), ([] : List Row), ()) := by
    intro cs
    induction cs with
    | nil =>
      intro s i h _ hl
      simp only [forI, applyFin, backL]
      rw [if_neg (by simp at hl; omega)]
    | cons c cs ih =>
      intro s i h hc hl
      simp only [forI, applyStep, backL, hc c (by simp), if_true]
      by_cases hf : fits1 s c = true
      · simp only [hf, if_true]
        have := done_len s c
        exact ih _ _ (good_done h (hc c (by simp))) (fun d hd => hc d (by simp [hd])) (by simp at hl; omega)
      · simp [hf]
  exact main cs s 0 h hc hl

def backs (xs : List Tx) : List Change := xs.flatMap fun x => invF x.2.1
theorem forI_backs {O : Type} (bad : O) (fin : List Row → O) : ∀ (xs : List Tx) (i : Nat) (s : List Row), forI (fun _ s x => match backL s (invF x.2.1) with | some t => .inr t | none => .inl bad) fin i xs s = match backL s (backs xs) with | some t => fin t | none => bad
  | [], _, _ => rfl
  | x :: xs, i, s => by
    have hb : backs (x :: xs) = invF x.2.1 ++ backs xs := by simp [backs]
    rw [hb, back_append]
    simp only [forI]
    cases backL s (invF x.2.1) with
    | none => rfl
    | some t => simp only [Option.bind_some]; exact forI_backs bad fin xs _ _

/-- What is known of transactions without a fault. -/
structure TxsOk (xs : List Tx) : Prop where
  len : xs.length ≤ 4
  ch : ∀ x ∈ xs, ∀ c ∈ (x.2.1 : List Change), chF c = 0
  locks : ∀ x ∈ xs, List.length x.2.2.2.1 ≤ 12
  undo : ∀ x ∈ xs, List.length x.2.1 ≤ 12
theorem firstF_zero {α : Type} {c : α → Int} : ∀ {xs : List α}, firstF c xs = 0 → ∀ x ∈ xs, c x = 0
  | [], _, _, h => by cases h
  | y :: ys, h, x, hx => by
    simp only [firstF] at h
    split at h
    · rcases List.mem_cons.1 hx with e | e
      · subst e; assumption
      · exact firstF_zero h x e
    · rename_i hn; exact absurd h hn
theorem cnt_mem : ∀ (xs : List Tx) (n : Int), 0 ≤ n → n ≤ xs.foldl (fun n x => n + (List.length x.2.1 : Int)) n ∧ ∀ x ∈ xs, (List.length x.2.1 : Int) ≤ xs.foldl (fun n x => n + (List.length x.2.1 : Int)) n
  | [], n, h => ⟨Int.le_refl _, fun x hx => by cases hx⟩
  | y :: ys, n, h => by
    obtain ⟨h1, h2⟩ := cnt_mem ys (n + (List.length y.2.1 : Int)) (by omega)
    simp only [List.foldl_cons]
    refine ⟨by omega, fun x hx => ?_⟩
    rcases List.mem_cons.1 hx with e | e
    · subst e; omega
    · exact h2 x e
theorem txs_ok {xs : List Tx} (h : txsF xs = 0) : TxsOk xs := by
  unfold txsF at h
  split at h
  · cases h
  · rename_i hl
    split at h
    · rename_i he
      split at h
      · split at h
        · cases h
        · rename_i hc
          have each : ∀ x ∈ xs, txF x = 0 := fun x hx => by
            obtain ⟨i, hi, rfl⟩ := List.mem_iff_getElem.1 hx
            exact (one_good (each_good xs he i hi)).2.1
          refine ⟨by omega, fun x hx c hcm => ?_, fun x hx => ?_, fun x hx => ?_⟩
          · have h1 := each x hx
            unfold txF at h1
            split at h1
            · rename_i hu
              have h2 := firstF_zero hu c hcm
              unfold undoC at h2
              split at h2
              · rename_i hs
                unfold chS at hs
                split at hs
                · assumption
                · rename_i hn; exact absurd hs hn
              · rename_i hn; exact absurd h2 hn
            · rename_i hn; exact absurd h1 hn
          · have h1 := each x hx
            unfold txF at h1
            split at h1
            · unfold marksF at h1
              split at h1
              · cases h1
              · rename_i hm
                simp only [Bool.or_eq_true, decide_eq_true_eq, not_or] at hm
                omega
            · rename_i hn; exact absurd h1 hn
          · have := (cnt_mem xs 0 (Int.le_refl _)).2 x hx
            unfold cntF at hc
            omega
      · cases h
    · rename_i hn; exact absurd h hn

theorem inv_ch {cs : List Change} (h : ∀ c ∈ cs, chF c = 0) : ∀ c ∈ invF cs, chF c = 0 := fun c hc => by
  obtain ⟨d, h1, rfl⟩ := inv_mem hc
  exact chF_inv (h d h1)
theorem inv_cl {cs : List Change} (h : ∀ c ∈ cs, cl c) : ∀ c ∈ invF cs, cl c := fun c hc => by
  obtain ⟨d, h1, rfl⟩ := inv_mem hc
  exact ⟨(h d h1).2, (h d h1).1⟩
theorem good_rl {s : List Row} (h : Good s) : ∀ x ∈ s, rl x := fun x hx => by
  have := rowF_text (h.ok x hx)
  unfold rl
  rw [maxLen_val]
  omega

theorem specUndoL_eq (s : List Row) (cs : List Change) (h : Good s) (hc : ∀ c ∈ cs, chF c = 0) (hl : s.length + cs.length ≤ 1000) : spec_l11Undo.sem (s, cs, ()) = some (match backL s (invF cs) with | some t => (t, true, ()) | none => (([] : List Row), false, ())) := by
  refine lift_eq (k := 1001) fun k hk => (spec_l11Undo.raw_eq k _).trans ?_
  unfold spec_l11Undo.raw spec_l11Undo.p
  rw [specInv_eq cs (by omega)]
  simp only [Option.bind_some]
  have hlen := inv_len cs
  have hch := inv_ch hc
  have := for_loop (B := fun self v => spec_l11Undo.B0 0 self (fun z => spec_l11Undo.Q0 0 (s, cs, ()) (invF cs) z) (s, cs, ()) (invF cs) v) (invF cs) (fun (s : List Row) (i : Int) => (s, i)) (fun _ s c => if fits1 s c then .inr (done1 s c) else .inl (([] : List Row), false, ())) (fun s => (s, true, ())) (fun i t => Good t ∧ t.length ≤ s.length + i) (by rw [maxLen_val]; omega)
    (fun i hi t self hI => by
      show spec_l11Undo.b0 _ _ _ _ _ = _
      unfold spec_l11Undo.b0
      have hlt : (i : Int) < ((invF cs).length : Int) := by omega
      have hin : (0 : Int) ≤ (i : Int) ∧ (i : Int) < ((invF cs).length : Int) := by omega
      simp only [hlt, hin, and_self, decide_true, cond_true, if_true, Int.toNat_natCast, List.getElem?_eq_getElem hi, Option.bind_some]
      rw [specDo_eq t _ hI.1.up (by omega) (chF_key (hch _ (List.getElem_mem hi))).1]
      cases fits1 t (invF cs)[i] <;> rfl)
    (fun i hi t t' hI hs => by
      split at hs
      · injection hs with hs
        subst hs
        have := done_len t (invF cs)[i]
        exact ⟨good_done hI.1 (hch _ (List.getElem_mem hi)), by omega⟩
      · cases hs) (fun t self _ => by
      show spec_l11Undo.b0 _ _ _ _ _ = _
      unfold spec_l11Undo.b0
      simp only [Int.lt_irrefl, decide_false, cond_false]
      rfl) s ⟨h, by omega⟩ k (by omega)
  rw [forI_back] at this
  refine Eq.trans this ?_
  cases backL s (invF cs) <;> rfl

theorem specBack_eq (rows : List Row) (xs : List Tx) (h : Good rows) (hl : rows.length ≤ 12) (hx : TxsOk xs) : spec_l11Back.sem (rows, xs, ()) = some (match backL rows (backs xs) with | some t => (t, true, ()) | none => (([] : List Row), false, ())) := by
  refine lift_eq (k := 10) fun k hk => (spec_l11Back.raw_eq k _).trans ?_
  unfold spec_l11Back.raw spec_l11Back.p
  have hc : ([] : List Row).length + rows.length ≤ CAP := cap_ok (by simp only [List.length_nil]; omega)
  rw [if_pos hc, List.nil_append]
  have hx4 := hx.len
  have := for_loop (B := fun self v => spec_l11Back.B0 0 self (fun z => spec_l11Back.Q0 0 (rows, xs, ()) z) (rows, xs, ()) v) xs (fun (s : List Row) (i : Int) => (s, i)) (fun _ s x => match backL s (invF x.2.1) with | some t => .inr t | none => .inl (([] : List Row), false, ())) (fun s => (s, true, ())) (fun i t => Good t ∧ t.length ≤ 12 + 12 * i) (by rw [maxLen_val]; omega)
    (fun i hi t self hI => by
      show spec_l11Back.b0 _ _ _ _ = _
      unfold spec_l11Back.b0
      have hlt : (i : Int) < (xs.length : Int) := by omega
      have hu := hx.undo _ (List.getElem_mem hi)
      simp only [hlt, decide_true, cond_true, Int.natCast_nonneg, if_true, Int.toNat_natCast, List.getElem?_eq_getElem hi, Option.bind_some]
      rw [specUndoL_eq t _ hI.1 (hx.ch _ (List.getElem_mem hi)) (by omega)]
      cases backL t (invF (xs[i]).2.1) <;> rfl)
    (fun i hi t t' hI hs => by
      have hu := hx.undo _ (List.getElem_mem hi)
      cases hb : backL t (invF (xs[i]).2.1) with
      | none => rw [hb] at hs; cases hs
      | some q =>
        rw [hb] at hs
        injection hs with hs
        subst hs
        have := back_good _ _ _ hI.1 (inv_ch (hx.ch _ (List.getElem_mem hi))) hb
        rw [inv_len] at this
        exact ⟨this.1, by omega⟩) (fun t self _ => by
      show spec_l11Back.b0 _ _ _ _ = _
      unfold spec_l11Back.b0
      simp only [Int.lt_irrefl, decide_false, cond_false]
      rfl) rows ⟨h, by omega⟩ k (by omega)
  rw [forI_backs] at this
  refine Eq.trans this ?_
  cases backL rows (backs xs) <;> rfl

theorem committed_eq (rows : List Row) (xs : List Tx) (h : Good rows) (hl : rows.length ≤ 12) (hx : TxsOk xs) (ht : tls xs) : impl_committed.sem (rows, xs, ()) = some (match backL rows (backs xs) with | some t => (t, (0 : Int), ()) | none => (([] : List Row), (8 : Int), ())) := by
  refine lift_eq (k := 10) fun k hk => (impl_committed.raw_eq k _).trans ?_
  unfold impl_committed.raw impl_committed.p
  have hx4 := hx.len
  have := for_loop (B := fun self v => impl_committed.B0 0 self (fun z => impl_committed.Q0 0 (rows, xs, ()) z) (rows, xs, ()) v) xs (fun (s : List Row) (i : Int) => (s, i)) (fun _ s x => match backL s (invF x.2.1) with | some t => .inr t | none => .inl (([] : List Row), (8 : Int), ())) (fun s => (s, (0 : Int), ())) (fun i t => Good t ∧ t.length ≤ 12 + 12 * i) (by rw [maxLen_val]; omega)
    (fun i hi t self hI => by
      show impl_committed.b0 _ _ _ _ = _
      unfold impl_committed.b0
      have hlt : (i : Int) < (xs.length : Int) := by omega
      have hu := hx.undo _ (List.getElem_mem hi)
      have hch := inv_ch (hx.ch _ (List.getElem_mem hi))
      have htl := ht.2 _ (List.getElem_mem hi)
      simp only [hlt, decide_true, cond_true, Int.natCast_nonneg, if_true, Int.toNat_natCast, List.getElem?_eq_getElem hi, Option.bind_some]
      rw [implInv_eq _ htl.1]
      simp only [Option.bind_some]
      have hil := inv_len (xs[i]).2.1
      rw [implApply_eq t _ (by rw [maxLen_val]; omega) (good_rl hI.1) (by omega) (inv_cl htl.2.2.2), apply_back hI.1 hch (by omega)]
      cases backL t (invF (xs[i]).2.1) <;> rfl)
    (fun i hi t t' hI hs => by
      have hu := hx.undo _ (List.getElem_mem hi)
      cases hb : backL t (invF (xs[i]).2.1) with
      | none => rw [hb] at hs; cases hs
      | some q =>
        rw [hb] at hs
        injection hs with hs
        subst hs
        have := back_good _ _ _ hI.1 (inv_ch (hx.ch _ (List.getElem_mem hi))) hb
        rw [inv_len] at this
        exact ⟨this.1, by omega⟩) (fun t self hI => by
      show impl_committed.b0 _ _ _ _ = _
      unfold impl_committed.b0
      simp only [Int.lt_irrefl, decide_false, cond_false, impl_committed.Q0, impl_committed.q0]
      rw [cloneRow_eq t (by omega)]
      rfl) rows ⟨h, by omega⟩ k (by omega)
  rw [forI_backs] at this
  refine Eq.trans this ?_
  cases backL rows (backs xs) <;> rfl

/-! The plain model. -/
def nextB (n : Int) (xs : List Tx) : Bool := match xs[xs.length - 1]? with
  | some x => decide (n ≤ x.1)
  | none => false
def plainF (p : Plain) : Int :=
  if rowsF p.1 = 0 then
    if txsF p.2.1 = 0 then
      if inB p.2.2.1 1 100 && !nextB p.2.2.1 p.2.1 then
        if 12 < roomF p.1 p.2.1 then 2 else (match backL p.1 (backs p.2.1) with | some _ => 0 | none => 8)
      else 3
    else txsF p.2.1
  else rowsF p.1
def okP (p : Plain) : Prop := List.length p.1 ≤ 1048576 ∧ (∀ x ∈ (p.1 : List Row), rl x) ∧ tls p.2.1

theorem last_eq {O : Type} (n : Int) (xs : List Tx) (hl : xs.length ≤ 1048576) (bad j : Option O) :
    (bif decide ((0 : Int) < (xs.length : Int)) then (if 0 ≤ w64 ((xs.length : Int) - (1 : Int)) then ((xs[(w64 ((xs.length : Int) - (1 : Int))).toNat]?).bind fun x5 => bif decide (n ≤ x5.1) then bad else j) else none) else j) = if nextB n xs then bad else j := by
  unfold nextB
  by_cases h : 0 < xs.length
  · have h1 : (0 : Int) < (xs.length : Int) := by omega
    have h2 : w64 ((xs.length : Int) - 1) = ((xs.length - 1 : Nat) : Int) := by rw [w64_in (by omega)]; omega
    have h3 : xs.length - 1 < xs.length := by omega
    simp only [h1, h2, decide_true, cond_true, Int.natCast_nonneg, if_true, Int.toNat_natCast, List.getElem?_eq_getElem h3, Option.bind_some]
    cases decide (n ≤ (xs[xs.length - 1]).1) <;> rfl
  · have h0 : xs = [] := List.eq_nil_of_length_eq_zero (by omega)
    subst h0
    rfl

theorem implPlain_eq (p : Plain) (h : okP p) : impl_PlainFault.sem (p, ()) = some (plainF p, ()) := by
  obtain ⟨rows, xs, n, ⟨⟩⟩ := p
  obtain ⟨h1, h2, h3⟩ := h
  simp only at h1 h2 h3
  refine lift_eq (k := 0) fun k _ => (impl_PlainFault.raw_eq k _).trans ?_
  show impl_PlainFault.p _ = _
  unfold impl_PlainFault.p plainF
  simp only [implRows_eq rows (by rw [maxLen_val]; omega) h2, implTxs_eq xs h3, implIn_eq, keysOf_eq rows xs h1 h3, Option.bind_some]
  by_cases hr : rowsF rows = 0
  rotate_left
  · simp only [hr, decide_false, Bool.not_false, cond_true, if_false]
  by_cases ht : txsF xs = 0
  rotate_left
  · simp only [hr, ht, decide_true, decide_false, Bool.not_true, Bool.not_false, cond_true, cond_false, if_true, if_false]
  obtain ⟨hg, _⟩ := rowsF_good hr
  have hok := txs_ok ht
  simp only [hr, ht, decide_true, Bool.not_true, cond_false, if_true]
  have hin : (decide ((1 : Int) ≤ n) && decide (n ≤ 100)) = inB n 1 100 := rfl
  rw [hin]
  cases inB n 1 100 with
  | false => rfl
  | true =>
    simp only [Bool.not_true, cond_false, Bool.true_and]
    rw [last_eq n xs h3.1]
    cases nextB n xs with
    | true => rfl
    | false =>
      simp only [Bool.not_false, Bool.false_eq_true, if_false, if_true]
      have hlen : (seenM (dd [] (allKs rows xs))).length = roomF rows xs := by simp [seenM, roomF]
      by_cases hroom : 12 < roomF rows xs
      · have : (12 : Int) < ((seenM (dd [] (allKs rows xs))).length : Int) := by rw [hlen]; omega
        simp only [this, hroom, decide_true, cond_true, if_true]
      · have : ¬ (12 : Int) < ((seenM (dd [] (allKs rows xs))).length : Int) := by rw [hlen]; omega
        have hrl : rows.length ≤ 12 := by
          have := rows_room (xs := xs) hg.up
          unfold roomF at hroom
          omega
        simp only [this, hroom, decide_false, cond_false, if_false, committed_eq rows xs hg hrl hok h3, Option.bind_some]
        cases backL rows (backs xs) <;> rfl

theorem specFault_eq (p : Plain) (h : okP p) : spec_l11Fault.sem (p, ()) = some (plainF p, ()) := by
  obtain ⟨rows, xs, n, ⟨⟩⟩ := p
  obtain ⟨h1, h2, h3⟩ := h
  simp only at h1 h2 h3
  refine lift_eq (k := 0) fun k _ => (spec_l11Fault.raw_eq k _).trans ?_
  show spec_l11Fault.p _ = _
  unfold spec_l11Fault.p plainF
  simp only [specRows_eq rows (by rw [maxLen_val]; omega) h2, specTxs_eq xs h3, specIn_eq, Option.bind_some]
  by_cases hr : rowsF rows = 0
  rotate_left
  · simp only [hr, decide_false, Bool.not_false, cond_true, if_false]
  by_cases ht : txsF xs = 0
  rotate_left
  · simp only [hr, ht, decide_true, decide_false, Bool.not_true, Bool.not_false, cond_true, cond_false, if_true, if_false]
  obtain ⟨hg, _⟩ := rowsF_good hr
  have hok := txs_ok ht
  have hroomE := specRoom_eq rows xs h1 (by have := hok.len; omega) (fun x hx => by have := hok.locks x hx; omega)
  simp only [hr, ht, decide_true, Bool.not_true, cond_false, if_true, hroomE, Option.bind_some]
  have hin : (decide ((1 : Int) ≤ n) && decide (n ≤ 100)) = inB n 1 100 := rfl
  rw [hin]
  cases inB n 1 100 with
  | false => rfl
  | true =>
    simp only [Bool.not_true, cond_false, Bool.true_and]
    rw [last_eq n xs h3.1]
    cases nextB n xs with
    | true => rfl
    | false =>
      simp only [Bool.not_false, Bool.false_eq_true, if_false, if_true]
      by_cases hroom : 12 < roomF rows xs
      · have : (12 : Int) < (roomF rows xs : Int) := by omega
        simp only [this, hroom, decide_true, cond_true, if_true]
      · have : ¬ (12 : Int) < (roomF rows xs : Int) := by omega
        have hrl : rows.length ≤ 12 := by
          have := rows_room (xs := xs) hg.up
          unfold roomF at hroom
          omega
        simp only [this, hroom, decide_false, cond_false, if_false, specBack_eq rows xs hg hrl hok, Option.bind_some]
        cases backL rows (backs xs) <;> rfl

theorem plain_ok {p : Plain} (hv : okD tPlain p) (hz : zz tPlain p ≤ 1048576) : okP p := by
  obtain ⟨rows, xs, n, ⟨⟩⟩ := p
  obtain ⟨hr, hx, _⟩ := hv
  replace hz : zz (.slc tRow) rows + (zz (.slc tTx) xs + (0 + 0)) ≤ 1048576 := hz
  refine ⟨Nat.le_trans (zz_len (e := tRow) rows) (by omega), fun x hm => rl_ok (hr.2 x hm), Nat.le_trans (zz_len (e := tTx) xs) (by omega), fun x hm => ?_⟩
  have h1 : zz tTx x + 1 ≤ zz (.slc tTx) xs := zz_mem (e := tTx) hm
  have h2 : zz tTx x = 0 + (zz (.slc tChange) x.2.1 + (zz (.slc i64) x.2.2.1 + (zz (.slc tKey) x.2.2.2.1 + 0))) := rfl
  have h3 : List.length x.2.1 ≤ zz (.slc tChange) x.2.1 := zz_len (e := tChange) x.2.1
  have h4 : List.length x.2.2.1 ≤ zz (.slc i64) x.2.2.1 := zz_len (e := i64) x.2.2.1
  have h5 : List.length x.2.2.2.1 ≤ zz (.slc tKey) x.2.2.2.1 := zz_len (e := tKey) x.2.2.2.1
  exact ⟨by omega, by omega, by omega, fun c hc => cl_ok ((hx.2 x hm).2.1.2 c hc)⟩
end OT
