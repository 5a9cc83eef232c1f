/- Lists of transactions: what the program and the reference find at fault; conditions on the lengths alone. -/
import Derived.Test.YtkimdiobckckiaaXO
set_option linter.unusedVariables false
set_option linter.unusedSimpArgs false
namespace OT
open Go

def txF (x : Tx) : Int := if undoF x = 0 then marksF x else undoF x

theorem forI_pack {α : Type} (c : Nat → α → Int) : ∀ (xs : List α) (i : Nat), forI (fun i (_ : Unit) y => if c i y = 0 then .inr () else .inl (c i y, ())) (fun _ => ((0 : Int), ())) i xs () = (forI (fun i (_ : Unit) y => if c i y = 0 then .inr () else .inl (c i y)) (fun _ => (0 : Int)) i xs (), ())
  | [], _ => rfl
  | y :: ys, i => by simp only [forI]; by_cases h0 : c i y = 0 <;> simp [h0, forI_pack c ys (i + 1)]
theorem forI_codeE {α : Type} (c : Nat → α → Int) (E : Option (Int × Unit)) : ∀ (xs : List α) (i : Nat), forI (fun i (_ : Unit) y => if c i y = 0 then .inr () else .inl (some (c i y, ()))) (fun _ => E) i xs () =
    if forI (fun i (_ : Unit) y => if c i y = 0 then .inr () else .inl (c i y)) (fun _ => (0 : Int)) i xs () = 0 then E else some (forI (fun i (_ : Unit) y => if c i y = 0 then .inr () else .inl (c i y)) (fun _ => (0 : Int)) i xs (), ())
  | [], _ => rfl
  | y :: ys, i => by simp only [forI]; by_cases h0 : c i y = 0 <;> simp [h0, forI_codeE c E ys (i + 1)]
theorem forI_firstF {α : Type} (c : α → Int) : ∀ (xs : List α) (i : Nat), forI (fun _ (_ : Unit) y => if c y = 0 then .inr () else .inl (c y)) (fun _ => (0 : Int)) i xs () = firstF c xs
  | [], _ => rfl
  | y :: ys, i => by simp only [forI, firstF]; by_cases h0 : c y = 0 <;> simp [h0, forI_firstF c ys (i + 1)]

theorem txFault_eq (x : Tx) (h : tl x) : impl_txFault.sem (x, ()) = some (txF x, ()) := by
  obtain ⟨h1, h2, h3, h4⟩ := h
  refine lift_eq (k := 1048577) fun k hk => (impl_txFault.raw_eq k _).trans ?_
  -- the locks
  have third : List.length x.2.2.2.1 ≤ 12 → impl_txFault.r2 k (x, ()) (0 : Int) = some (locksL x.2.2.2.1, ()) := fun hl => by
    have := for_loop (B := fun self v => impl_txFault.B2 k self (fun z => impl_txFault.Q2 k (x, ()) z) (x, ()) v) x.2.2.2.1 (fun (_ : Unit) (i : Int) => i) (fun i _ y => if lockC x.2.2.2.1 i y = 0 then .inr () else .inl (lockC x.2.2.2.1 i y, ())) (fun _ => (0, ())) (fun _ _ => True) (by rw [maxLen_val]; omega)
      (fun i hi s self _ => by
        show impl_txFault.b2 _ _ _ _ = _
        unfold impl_txFault.b2 lockC
        have hlt : (i : Int) < (List.length x.2.2.2.1 : Int) := by omega
        have hin : (0 : Int) ≤ (i : Int) ∧ (i : Int) ≤ (List.length x.2.2.2.1 : Int) := by omega
        simp only [hlt, hin, and_self, decide_true, cond_true, Int.natCast_nonneg, if_true, Int.toNat_natCast, List.getElem?_eq_getElem hi, Option.bind_some, isKey_eq, List.drop_zero]
        rw [contains_eq _ _ (by rw [maxLen_val]; simp; omega)]
        cases keyB2 (x.2.2.2.1)[i] <;> cases hasK (x.2.2.2.1.take i) (x.2.2.2.1)[i] <;> rfl)
      (fun _ _ _ _ _ _ => trivial) (fun s self _ => by
        show impl_txFault.b2 _ _ _ _ = _
        unfold impl_txFault.b2
        simp only [Int.lt_irrefl, decide_false, cond_false]
        rfl) () trivial k (by omega)
    rw [forI_pack (lockC x.2.2.2.1)] at this
    exact this
  have second : List.length x.2.2.1 ≤ 8 → List.length x.2.2.2.1 ≤ 12 → impl_txFault.r1 k (x, ()) ((0 : Int), (0 : Int)) = some (if marksL (List.length x.2.1 : Int) 0 x.2.2.1 then locksL x.2.2.2.1 else 3, ()) := fun hm hl => by
    have := for_loopE (B := fun self v => impl_txFault.B1 k self (fun z => impl_txFault.Q1 k (x, ()) z) (x, ()) v) x.2.2.1 (fun (last : Int) (i : Int) => (last, i)) (fun _ last m => if inB m last (List.length x.2.1 : Int) then .inr m else .inl (some ((3 : Int), ()))) (fun _ => some (locksL x.2.2.2.1, ())) (fun _ _ => True) (by rw [maxLen_val]; omega)
      (fun i hi last self _ => by
        show impl_txFault.b1 _ _ _ _ = _
        unfold impl_txFault.b1
        have hlt : (i : Int) < (List.length x.2.2.1 : Int) := by omega
        simp only [hlt, decide_true, cond_true, Int.natCast_nonneg, if_true, Int.toNat_natCast, List.getElem?_eq_getElem hi, Option.bind_some, implIn_eq]
        show (bif !inB (x.2.2.1)[i] last (List.length x.2.1 : Int) then _ else _) = _
        cases inB (x.2.2.1)[i] last (List.length x.2.1 : Int) <;> rfl)
      (fun _ _ _ _ _ _ => trivial) (fun last self _ => by
        show impl_txFault.b1 _ _ _ _ = _
        unfold impl_txFault.b1
        simp only [Int.lt_irrefl, decide_false, cond_false]
        exact third hl) 0 trivial k (by omega)
    rw [marksE] at this
    refine Eq.trans this ?_
    unfold marksL
    cases forI (fun _ last m => if inB m last (List.length x.2.1 : Int) then .inr m else .inl false) (fun _ => true) 0 x.2.2.1 0 <;> rfl
  have after : impl_txFault.Q0 k (x, ()) () = some (marksF x, ()) := by
    show impl_txFault.q0 _ _ _ = _
    unfold impl_txFault.q0 marksF
    by_cases hm : 8 < List.length x.2.2.1
    · have : (8 : Int) < (List.length x.2.2.1 : Int) := by omega
      simp only [this, hm, decide_true, cond_true, Bool.true_or, if_true]
      try rfl
    have hm' : ¬ (8 : Int) < (List.length x.2.2.1 : Int) := by omega
    by_cases hk2 : 12 < List.length x.2.2.2.1
    · have : (12 : Int) < (List.length x.2.2.2.1 : Int) := by omega
      simp only [this, hm, hm', hk2, decide_true, decide_false, cond_true, cond_false, Bool.false_or, if_true]
      try rfl
    have hk' : ¬ (12 : Int) < (List.length x.2.2.2.1 : Int) := by omega
    simp only [hm, hm', hk', hk2, decide_false, cond_false, Bool.or_self, Bool.false_eq_true, if_false]
    exact second (by omega) (by omega)
  have := for_loopE (B := fun self v => impl_txFault.B0 k self (fun z => impl_txFault.Q0 k (x, ()) z) (x, ()) v) x.2.1 (fun (_ : Unit) (i : Int) => i) (fun _ _ c => if undoC x.2.2.2.1 c = 0 then .inr () else .inl (some (undoC x.2.2.2.1 c, ()))) (fun _ => some (marksF x, ())) (fun _ _ => True) (by rw [maxLen_val]; omega)
    (fun i hi s self _ => by
      show impl_txFault.b0 _ _ _ _ = _
      unfold impl_txFault.b0
      have hlt : (i : Int) < (List.length x.2.1 : Int) := by omega
      simp only [hlt, decide_true, cond_true, Int.natCast_nonneg, if_true, Int.toNat_natCast, List.getElem?_eq_getElem hi, Option.bind_some, single_eq _ (h4 _ (List.getElem_mem hi)), lock_eq]
      rw [contains_eq _ _ (by rw [maxLen_val]; omega)]
      unfold undoC
      by_cases hc : chS (x.2.1)[i] = 0
      · simp only [hc, decide_true, Bool.not_true, cond_false, if_true, Option.bind_some]
        cases hasK x.2.2.2.1 (keyOfC (x.2.1)[i]) <;> rfl
      · simp only [hc, decide_false, Bool.not_false, cond_true, if_false])
    (fun _ _ _ _ _ _ => trivial) (fun s self _ => by
      show impl_txFault.b0 _ _ _ _ = _
      unfold impl_txFault.b0
      simp only [Int.lt_irrefl, decide_false, cond_false]
      exact after) () trivial k (by omega)
  rw [forI_codeE (fun _ => undoC x.2.2.2.1), forI_firstF] at this
  refine Eq.trans this ?_
  unfold txF undoF
  split <;> rfl

/-! Who locks what. -/
def lockF (xs : List Tx) (k : Key) : Int := match xs with
  | [] => 0
  | x :: xs => if hasK x.2.2.2.1 k then x.1 else lockF xs k
def tls (xs : List Tx) : Prop := xs.length ≤ 1048576 ∧ ∀ x ∈ xs, tl x
theorem forI_lock (k : Key) : ∀ (xs : List Tx) (i : Nat), forI (fun _ (_ : Unit) x => if hasK x.2.2.2.1 k then .inl (x.1, ()) else .inr ()) (fun _ => ((0 : Int), ())) i xs () = (lockF xs k, ())
  | [], _ => rfl
  | x :: xs, i => by simp only [forI, lockF]; cases hasK x.2.2.2.1 k <;> simp [forI_lock k xs (i + 1)]
theorem tl_locks {x : Tx} (h : tl x) : List.length x.2.2.2.1 ≤ maxLen := by rw [maxLen_val]; have := h.2.2.1; omega

theorem specLock_eq (xs : List Tx) (k0 : Key) (h : tls xs) : spec_l10Lock.sem (xs, k0, ()) = some (lockF xs k0, ()) := by
  obtain ⟨h1, h2⟩ := h
  refine lift_eq (k := xs.length + 1) fun k hk => (spec_l10Lock.raw_eq k _).trans ?_
  have := for_loop (B := fun self v => spec_l10Lock.B0 0 self (fun z => spec_l10Lock.Q0 0 (xs, k0, ()) z) (xs, k0, ()) v) xs (fun (_ : Unit) (i : Int) => i) (fun _ _ x => if hasK x.2.2.2.1 k0 then .inl (x.1, ()) else .inr ()) (fun _ => (0, ())) (fun _ _ => True) (by rw [maxLen_val]; omega)
    (fun i hi s self _ => by
      show spec_l10Lock.b0 _ _ _ _ = _
      unfold spec_l10Lock.b0
      have hlt : (i : Int) < (xs.length : Int) := by omega
      simp only [hlt, decide_true, cond_true, Int.natCast_nonneg, if_true, Int.toNat_natCast, List.getElem?_eq_getElem hi, Option.bind_some, locks_eq _ _ (tl_locks (h2 _ (List.getElem_mem hi)))]
      cases hasK (xs[i]).2.2.2.1 k0 <;> rfl)
    (fun _ _ _ _ _ _ => trivial) (fun s self _ => by
      show spec_l10Lock.b0 _ _ _ _ = _
      unfold spec_l10Lock.b0
      simp only [Int.lt_irrefl, decide_false, cond_false]
      rfl) () trivial k (by omega)
  rw [forI_lock] at this
  exact this
/-! How many changes there are. -/
def cntF (xs : List Tx) : Int := xs.foldl (fun n x => n + (List.length x.2.1 : Int)) 0
theorem fold_cnt : ∀ (xs : List Tx) (n : Int), 0 ≤ n → (∀ x ∈ xs, tl x) → n ≤ xs.foldl (fun n x => n + (List.length x.2.1 : Int)) n ∧ xs.foldl (fun n x => n + (List.length x.2.1 : Int)) n ≤ n + 1048576 * (xs.length : Int)
  | [], n, _, _ => by simp
  | x :: xs, n, h, hx => by
    have h1 := (hx x (by simp)).1
    obtain ⟨h2, h3⟩ := fold_cnt xs (n + (List.length x.2.1 : Int)) (by omega) (fun y hy => hx y (by simp [hy]))
    simp only [List.foldl_cons, List.length_cons]
    omega
theorem forI_fold {S O α : Type} {g : S → α → S} {fin : S → O} : ∀ (xs : List α) (i : Nat) (s : S), forI (fun _ s x => .inr (g s x)) fin i xs s = fin (xs.foldl g s)
  | [], _, _ => rfl
  | x :: xs, i, s => by simp only [forI, List.foldl_cons]; exact forI_fold xs _ _
theorem take_foldl {α β : Type} (g : β → α → β) (xs : List α) (i : Nat) (hi : i < xs.length) (s : β) : (xs.take (i + 1)).foldl g s = g ((xs.take i).foldl g s) xs[i] := by
  rw [List.take_succ_eq_append_getElem hi, List.foldl_append]; rfl

theorem specCount_eq (xs : List Tx) (h : tls xs) : spec_l10Count.sem (xs, ()) = some (cntF xs, ()) := by
  obtain ⟨h1, h2⟩ := h
  refine lift_eq (k := xs.length + 1) fun k hk => (spec_l10Count.raw_eq k _).trans ?_
  have := for_loop (B := fun self v => spec_l10Count.B0 0 self (fun z => spec_l10Count.Q0 0 (xs, ()) z) (xs, ()) v) xs (fun (n : Int) (i : Int) => (n, i)) (fun _ n x => .inr (n + (List.length x.2.1 : Int))) (fun n => (n, ())) (fun i n => 0 ≤ n ∧ n ≤ 1048576 * (i : Int)) (by rw [maxLen_val]; omega)
    (fun i hi n self hI => by
      show spec_l10Count.b0 _ _ _ _ = _
      unfold spec_l10Count.b0
      have hlt : (i : Int) < (xs.length : Int) := by omega
      have hx := (h2 _ (List.getElem_mem hi)).1
      simp only [hlt, decide_true, cond_true, Int.natCast_nonneg, if_true, Int.toNat_natCast, List.getElem?_eq_getElem hi, Option.bind_some]
      rw [w64_in (n := n + _) (by omega)])
    (fun i hi n n' hI hs => by
      injection hs with hs
      have hx := (h2 _ (List.getElem_mem hi)).1
      omega) (fun s self _ => by
      show spec_l10Count.b0 _ _ _ _ = _
      unfold spec_l10Count.b0
      simp only [Int.lt_irrefl, decide_false, cond_false]
      rfl) 0 (by omega) k (by omega)
  rw [forI_fold] at this
  exact this
theorem implCount_eq (xs : List Tx) (h : tls xs) : impl_undone.sem (xs, ()) = some (cntF xs, ()) := by
  obtain ⟨h1, h2⟩ := h
  refine lift_eq (k := xs.length + 1) fun k hk => (impl_undone.raw_eq k _).trans ?_
  have := for_loop (B := fun self v => impl_undone.B0 0 self (fun z => impl_undone.Q0 0 (xs, ()) z) (xs, ()) v) xs (fun (n : Int) (i : Int) => (n, i)) (fun _ n x => .inr (n + (List.length x.2.1 : Int))) (fun n => (n, ())) (fun i n => 0 ≤ n ∧ n ≤ 1048576 * (i : Int)) (by rw [maxLen_val]; omega)
    (fun i hi n self hI => by
      show impl_undone.b0 _ _ _ _ = _
      unfold impl_undone.b0
      have hlt : (i : Int) < (xs.length : Int) := by omega
      have hx := (h2 _ (List.getElem_mem hi)).1
      simp only [hlt, decide_true, cond_true, Int.natCast_nonneg, if_true, Int.toNat_natCast, List.getElem?_eq_getElem hi, Option.bind_some]
      rw [w64_in (n := n + _) (by omega)])
    (fun i hi n n' hI hs => by
      injection hs with hs
      have hx := (h2 _ (List.getElem_mem hi)).1
      omega) (fun s self _ => by
      show impl_undone.b0 _ _ _ _ = _
      unfold impl_undone.b0
      simp only [Int.lt_irrefl, decide_false, cond_false]
      rfl) 0 (by omega) k (by omega)
  rw [forI_fold] at this
  exact this

/-! Each by itself. -/
def oneC (xs : List Tx) (i : Nat) (x : Tx) : Int := if inB x.1 1 99 then (if 0 < i then (match xs[i - 1]? with
    | some y => if x.1 ≤ y.1 then 1 else txF x
    | none => 1) else txF x) else 3
def eachF (xs : List Tx) : Int := forI (fun i (_ : Unit) x => if oneC xs i x = 0 then .inr () else .inl (oneC xs i x)) (fun _ => (0 : Int)) 0 xs ()
def flatK (xs : List Tx) : List Key := xs.flatMap fun x => x.2.2.2.1
def apartB (xs : List Tx) : Bool := decide (flatK xs).Nodup
def txsF (xs : List Tx) : Int := if 4 < xs.length then 2 else if eachF xs = 0 then (if apartB xs then (if 12 < cntF xs then 2 else 0) else 7) else eachF xs

/-- What the faultless are: each is, and they rise. -/
theorem each_good (xs : List Tx) (h : eachF xs = 0) : ∀ i (hi : i < xs.length), oneC xs i xs[i] = 0 := by
  have main : ∀ (ys : List Tx) (j : Nat), (forI (fun i (_ : Unit) x => if oneC xs i x = 0 then .inr () else .inl (oneC xs i x)) (fun _ => (0 : Int)) j ys ()) = 0 → ∀ i (hi : i < ys.length), oneC xs (j + i) ys[i] = 0 := by
    intro ys
    induction ys with
    | nil => intro j _ i hi; simp at hi
    | cons y ys ih =>
      intro j hf i hi
      simp only [forI] at hf
      by_cases h0 : oneC xs j y = 0
      · rw [if_pos h0] at hf
        cases i with
        | zero => simpa using h0
        | succ i =>
          have := ih (j + 1) hf i (by simpa using hi)
          rw [show j + (i + 1) = j + 1 + i by omega]
          simpa using this
      · rw [if_neg h0] at hf
        exact absurd hf h0
  intro i hi
  have := main xs 0 h i hi
  rwa [Nat.zero_add] at this
theorem one_good {xs : List Tx} {i : Nat} {x : Tx} (h : oneC xs i x = 0) : 1 ≤ x.1 ∧ txF x = 0 ∧ ∀ y, 0 < i → xs[i - 1]? = some y → y.1 < x.1 := by
  unfold oneC at h
  split at h
  · rename_i hb
    simp only [inB, Bool.and_eq_true, decide_eq_true_eq] at hb
    split at h
    · rename_i h0
      split at h
      · rename_i y hy
        split at h
        · cases h
        · exact ⟨hb.1, h, fun z _ hz => by rw [hy] at hz; injection hz with hz; subst hz; omega⟩
      · cases h
    · exact ⟨hb.1, h, fun y h0 => by omega⟩
  · cases h
theorem each_rise {xs : List Tx} (h : eachF xs = 0) : xs.Pairwise fun x y => x.1 < y.1 := by
  rw [List.pairwise_iff_getElem]
  intro i j hi hj hij
  have key : ∀ d (hd : i + d + 1 < xs.length), (xs[i]).1 < (xs[i + d + 1]).1 := by
    intro d
    induction d with
    | zero =>
      intro hd
      exact (one_good (each_good xs h (i + 1) hd)).2.2 xs[i] (by omega) (by simp [hi])
    | succ d ih =>
      intro hd
      have h1 := ih (by omega)
      have h2 := (one_good (each_good xs h (i + d + 1 + 1) hd)).2.2 xs[i + d + 1] (by omega) (by rw [Nat.add_sub_cancel]; exact List.getElem?_eq_getElem (by omega))
      exact Int.lt_trans h1 h2
  have := key (j - i - 1) (by omega)
  have e : i + (j - i - 1) + 1 = j := by omega
  simpa only [e] using this
theorem locks_nodup {ks : List Key} (h : locksL ks = 0) : ks.Nodup := by
  have main : ∀ (ys : List Key) (j : Nat), (forI (fun i (_ : Unit) k => if lockC ks i k = 0 then .inr () else .inl (lockC ks i k)) (fun _ => (0 : Int)) j ys ()) = 0 → ∀ i (hi : i < ys.length), lockC ks (j + i) ys[i] = 0 := by
    intro ys
    induction ys with
    | nil => intro j _ i hi; simp at hi
    | cons y ys ih =>
      intro j hf i hi
      simp only [forI] at hf
      by_cases h0 : lockC ks j y = 0
      · rw [if_pos h0] at hf
        cases i with
        | zero => simpa using h0
        | succ i =>
          have := ih (j + 1) hf i (by simpa using hi)
          rw [show j + (i + 1) = j + 1 + i by omega]
          simpa using this
      · rw [if_neg h0] at hf
        exact absurd hf h0
  rw [List.nodup_iff_pairwise_ne, List.pairwise_iff_getElem]
  intro i j hi hj hij e
  have h1 := main ks 0 h j hj
  rw [Nat.zero_add] at h1
  unfold lockC at h1
  split at h1
  · split at h1
    · cases h1
    · rename_i hn
      refine hn (hasK_iff.2 ?_)
      rw [← e]
      exact List.mem_take_iff_getElem.2 ⟨i, by omega, rfl⟩
  · cases h1
theorem tx_nodup {x : Tx} (h : txF x = 0) : (x.2.2.2.1 : List Key).Nodup := by
  unfold txF at h
  split at h
  · unfold marksF at h
    split at h
    · cases h
    · split at h
      · exact locks_nodup h
      · cases h
  · rename_i hn; exact absurd h hn
end OT
