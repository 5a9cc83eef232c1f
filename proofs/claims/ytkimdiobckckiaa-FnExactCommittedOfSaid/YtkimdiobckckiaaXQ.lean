/- A change noted: the program and the reference alike; and the law of NoteChange. -/
import Derived.Test.YtkimdiobckckiaaXP
set_option linter.unusedVariables false
set_option linter.unusedSimpArgs false
namespace OT
open Go

/-! Locks apart. -/
def apartS (xs : List Tx) : Bool := xs.all fun x => x.2.2.2.1.all fun k => decide (lockF xs k = x.1)

theorem lockF_mem {xs : List Tx} {k : Key} (h : k ∉ flatK xs) : lockF xs k = 0 := by
  induction xs with
  | nil => rfl
  | cons x xs ih =>
    simp only [flatK, List.flatMap_cons, List.mem_append, not_or] at h
    simp only [lockF]
    have : hasK x.2.2.2.1 k = false := by
      cases hh : hasK x.2.2.2.1 k with
      | false => rfl
      | true => exact absurd (hasK_iff.1 hh) h.1
    rw [this]
    exact ih h.2
theorem apart_eq {xs : List Tx} (hr : xs.Pairwise fun x y => x.1 < y.1) (hn : ∀ x ∈ xs, (x.2.2.2.1 : List Key).Nodup) : apartS xs = apartB xs := by
  -- by what follows
  have main : ∀ (xs : List Tx), (xs.Pairwise fun x y => x.1 < y.1) → (∀ x ∈ xs, (x.2.2.2.1 : List Key).Nodup) → ((∀ x ∈ xs, ∀ k ∈ (x.2.2.2.1 : List Key), lockF xs k = x.1) ↔ (flatK xs).Nodup) := by
    intro xs
    induction xs with
    | nil => intro _ _; simp [flatK]
    | cons x xs ih =>
      intro hr hn
      obtain ⟨h1, h2⟩ := List.pairwise_cons.1 hr
      have ih := ih h2 (fun y hy => hn y (by simp [hy]))
      have hfl : flatK (x :: xs) = x.2.2.2.1 ++ flatK xs := by simp [flatK]
      rw [hfl, List.nodup_append]
      constructor
      · intro hall
        have hd : ∀ y ∈ xs, ∀ k ∈ (y.2.2.2.1 : List Key), k ∉ (x.2.2.2.1 : List Key) := fun y hy k hk hx => by
          have e1 := hall y (by simp [hy]) k hk
          simp only [lockF, hasK_iff.2 hx, if_true] at e1
          have := h1 y hy
          omega
        refine ⟨hn x (by simp), ih.1 fun y hy k hk => ?_, fun a ha b hb e => ?_⟩
        · have e1 := hall y (by simp [hy]) k hk
          have : hasK x.2.2.2.1 k = false := by
            cases hh : hasK x.2.2.2.1 k with
            | false => rfl
            | true => exact absurd (hasK_iff.1 hh) (hd y hy k hk)
          simp only [lockF, this, Bool.false_eq_true, if_false] at e1
          exact e1
        · subst e
          obtain ⟨y, hy, hk⟩ := List.mem_flatMap.1 hb
          exact hd y hy a hk ha
      · rintro ⟨g1, g2, g3⟩ y hy k hk
        rcases List.mem_cons.1 hy with e | e
        · subst e
          simp only [lockF, hasK_iff.2 hk, if_true]
        · have hkf : k ∈ flatK xs := List.mem_flatMap.2 ⟨y, e, hk⟩
          have : hasK x.2.2.2.1 k = false := by
            cases hh : hasK x.2.2.2.1 k with
            | false => rfl
            | true => exact absurd rfl (g3 k (hasK_iff.1 hh) k hkf)
          simp only [lockF, this, Bool.false_eq_true, if_false]
          exact ih.2 g2 y e k hk
  have hm := main xs hr hn
  unfold apartS apartB
  rw [Bool.eq_iff_iff]
  simp only [List.all_eq_true, decide_eq_true_eq]
  exact hm

theorem specApart_eq (xs : List Tx) (h : tls xs) : spec_l10Apart.sem (xs, ()) = some (apartS xs, ()) := by
  have ht := h
  obtain ⟨h1, h2⟩ := h
  refine lift_eq (k := 1048577) fun k hk => (spec_l10Apart.raw_eq k _).trans ?_
  have inner : ∀ (self : ((List Tx) × Int) → Option spec_l10Apart.Out) (e0 : Unit → Option spec_l10Apart.Out) (i : Nat) (hi : i < xs.length), spec_l10Apart.r1 k self e0 (xs, ()) xs (i : Int) (0 : Int) = if (xs[i]).2.2.2.1.any (fun y => !decide (lockF xs y = (xs[i]).1)) then some (false, ()) else self (xs, w64 ((i : Int) + 1)) := fun self e0 i hi => by
    have htx := h2 _ (List.getElem_mem hi)
    have hlk := htx.2.2.1
    have := for_loopE (B := fun self' v => spec_l10Apart.B1 k self' (fun z => spec_l10Apart.Q0 k self e0 (xs, ()) xs (i : Int) z) (xs, ()) xs (i : Int) v) (xs[i]).2.2.2.1 (fun (_ : Unit) (j : Int) => j) (fun _ _ y => if !decide (lockF xs y = (xs[i]).1) then .inl (some (false, ())) else .inr ()) (fun _ => self (xs, w64 ((i : Int) + 1))) (fun _ _ => True) (by rw [maxLen_val]; omega)
      (fun j hj s self' _ => by
        show spec_l10Apart.b1 _ _ _ _ _ _ = _
        unfold spec_l10Apart.b1
        have hlt : (j : Int) < (List.length (xs[i]).2.2.2.1 : Int) := by omega
        simp only [Int.natCast_nonneg, if_true, Int.toNat_natCast, List.getElem?_eq_getElem hi, Option.bind_some, hlt, decide_true, cond_true, List.getElem?_eq_getElem hj, specLock_eq xs _ ht]
        cases decide (lockF xs ((xs[i]).2.2.2.1)[j] = (xs[i]).1) <;> rfl)
      (fun _ _ _ _ _ _ => trivial) (fun s self' _ => by
        show spec_l10Apart.b1 _ _ _ _ _ _ = _
        unfold spec_l10Apart.b1
        simp only [Int.natCast_nonneg, if_true, Int.toNat_natCast, List.getElem?_eq_getElem hi, Option.bind_some, Int.lt_irrefl, decide_false, cond_false]
        rfl) () trivial k (by omega)
    rw [forI_any] at this
    exact this
  have := for_loop (B := fun self v => spec_l10Apart.B0 k self (fun z => spec_l10Apart.Q1 k (xs, ()) z) (xs, ()) v) xs (fun (_ : Unit) (i : Int) => (xs, i)) (fun _ _ x => if x.2.2.2.1.all (fun y => decide (lockF xs y = x.1)) then .inr () else .inl (false, ())) (fun _ => (true, ())) (fun _ _ => True) (by rw [maxLen_val]; omega)
    (fun i hi s self _ => by
      show spec_l10Apart.b0 _ _ _ _ _ = _
      unfold spec_l10Apart.b0
      have hlt : (i : Int) < (xs.length : Int) := by omega
      simp only [hlt, decide_true, cond_true]
      rw [inner self _ i hi]
      have : (xs[i]).2.2.2.1.any (fun y => !decide (lockF xs y = (xs[i]).1)) = !(xs[i]).2.2.2.1.all (fun y => decide (lockF xs y = (xs[i]).1)) := by rw [List.not_all_eq_any_not]
      rw [this]
      cases (xs[i]).2.2.2.1.all (fun y => decide (lockF xs y = (xs[i]).1)) <;> rfl)
    (fun _ _ _ _ _ _ => trivial) (fun s self _ => by
      show spec_l10Apart.b0 _ _ _ _ _ = _
      unfold spec_l10Apart.b0
      simp only [Int.lt_irrefl, decide_false, cond_false]
      rfl) () trivial k (by omega)
  rw [forI_check (fun (x : Tx) => x.2.2.2.1.all (fun y => decide (lockF xs y = x.1))) (false, ()) (fun _ => (true, ()))] at this
  refine Eq.trans this ?_
  unfold apartS
  cases xs.all fun x => x.2.2.2.1.all (fun y => decide (lockF xs y = x.1)) <;> rfl

/-! The map of what was seen. -/
def seenM (S : List Key) : List (Key × Bool) := S.map fun k => (k, true)
theorem mapGet_cons {α : Type} (k : Ty) (e : k.den × α) (m : List (k.den × α)) (x : k.den) : mapGet k (e :: m) x = if k.eq x e.1 then some e.2 else mapGet k m x := by
  unfold mapGet
  rw [List.find?_cons]
  cases k.eq x e.1 <;> rfl
theorem mapPut_new {α : Type} (k : Ty) (m : List (k.den × α)) (x : k.den) (y : α) (h : ∀ e ∈ m, k.eq x e.1 = false) : mapPut k m x y = m ++ [(x, y)] := by
  have : m.findIdx? (fun e => k.eq x e.1) = none := by
    rw [List.findIdx?_eq_none_iff]
    intro e he
    exact h e he
  unfold mapPut
  rw [this]
theorem mapGet_seen (S : List Key) (k : Key) : mapGet tKey (seenM S) k = if hasK S k then some true else none := by
  induction S with
  | nil => rfl
  | cons s S ih =>
    refine (mapGet_cons tKey (s, true) (seenM S) k).trans ?_
    have hk : tKey.eq k (s, true).1 = decide (k = s) := kq_eq k s
    rw [hk]
    have hc : hasK (s :: S) k = (decide (s = k) || hasK S k) := rfl
    rw [hc]
    by_cases h : k = s
    · have h2 : s = k := h.symm
      simp [h2]
    · have h2 : ¬ s = k := fun e => h e.symm
      simp only [h, h2, decide_false, Bool.false_or, Bool.false_eq_true, if_false]
      exact ih
theorem get_seen (S : List Key) (k : Key) : orZ (mapGet tKey (seenM S) k) false = hasK S k := by
  refine Eq.trans (congrArg (fun o => orZ o false) (mapGet_seen S k)) ?_
  cases hasK S k <;> rfl
theorem put_seen {S : List Key} {k : Key} (h : hasK S k = false) : mapPut tKey (seenM S) k true = seenM (S ++ [k]) := by
  refine (mapPut_new tKey (seenM S) k true fun e he => ?_).trans ?_
  · obtain ⟨s, hs, rfl⟩ := List.mem_map.1 he
    have hk : tKey.eq k (s, true).1 = decide (k = s) := kq_eq k s
    rw [hk]
    simp only [hasK, List.any_eq_false, decide_eq_true_eq] at h
    have := h s hs
    simp only [decide_eq_false_iff_not]
    exact fun e => this e.symm
  · simp only [seenM, List.map_append, List.map_cons, List.map_nil]
    rfl
def getM (m : List (Key × Bool)) (k : Key) : Bool := orZ (mapGet tKey m k) false
def putM (m : List (Key × Bool)) (k : Key) : List (Key × Bool) := mapPut tKey m k true
def walkM : List (Key × Bool) → List Key → Option (List (Key × Bool))
  | m, [] => some m
  | m, k :: ks => if getM m k then none else walkM (putM m k) ks
theorem walk_append : ∀ (m : List (Key × Bool)) (a b : List Key), walkM m (a ++ b) = (walkM m a).bind fun m' => walkM m' b
  | m, [], b => rfl
  | m, k :: a, b => by
    simp only [List.cons_append, walkM]
    split
    · rfl
    · exact walk_append _ a b
theorem walk_seen : ∀ (ks S : List Key), S.Nodup → walkM (seenM S) ks = if (S ++ ks).Nodup then some (seenM (S ++ ks)) else none
  | [], S, h => by simp [walkM, h]
  | k :: ks, S, h => by
    have hg : getM (seenM S) k = hasK S k := get_seen S k
    simp only [walkM, hg]
    cases hh : hasK S k with
    | true =>
      have : ¬ (S ++ k :: ks).Nodup := fun hn => by
        rw [List.nodup_append] at hn
        exact hn.2.2 k (hasK_iff.1 hh) k (by simp) rfl
      simp [this]
    | false =>
      have hk : k ∉ S := fun hm => by rw [hasK_iff.2 hm] at hh; cases hh
      simp only [Bool.false_eq_true, if_false]
      have hp : putM (seenM S) k = seenM (S ++ [k]) := put_seen hh
      rw [hp, walk_seen ks (S ++ [k]) (by rw [List.nodup_append]; exact ⟨h, by simp, fun a ha b hb e => by simp at hb; subst hb; subst e; exact hk ha⟩)]
      simp only [List.append_assoc, List.cons_append, List.nil_append]
theorem forI_walk {O : Type} (bad : Option O) (E : List (Key × Bool) → Option O) : ∀ (ks : List Key) (i : Nat) (m : List (Key × Bool)), forI (fun _ m k => if getM m k then .inl bad else .inr (putM m k)) E i ks m = match walkM m ks with | none => bad | some m' => E m'
  | [], _, _ => rfl
  | k :: ks, i, m => by
    simp only [forI, walkM]
    by_cases h : getM m k = true
    · simp [h]
    · simp only [h, if_false]
      exact forI_walk bad E ks _ _
theorem forI_walks {O : Type} (bad : Option O) (E : Option O) : ∀ (xs : List Tx) (i : Nat) (m : List (Key × Bool)), forI (fun _ m x => match walkM m x.2.2.2.1 with | none => .inl bad | some m' => .inr m') (fun _ => E) i xs m = match walkM m (flatK xs) with | none => bad | some _ => E
  | [], _, _ => rfl
  | x :: xs, i, m => by
    have hfl : flatK (x :: xs) = x.2.2.2.1 ++ flatK xs := by simp [flatK]
    rw [hfl, walk_append]
    simp only [forI]
    cases h : walkM m x.2.2.2.1 with
    | none => rfl
    | some m' =>
      simp only [Option.bind_some]
      exact forI_walks bad E xs _ _

theorem implTxs_eq (xs : List Tx) (h : tls xs) : impl_TxsFault.sem (xs, ()) = some (txsF xs, ()) := by
  have ht := h
  obtain ⟨h1, h2⟩ := h
  refine lift_eq (k := 1048577) fun k hk => (impl_TxsFault.raw_eq k _).trans ?_
  unfold impl_TxsFault.raw impl_TxsFault.p txsF
  by_cases h4 : 4 < xs.length
  · have : (4 : Int) < (xs.length : Int) := by omega
    simp only [this, h4, decide_true, cond_true, if_true]
    rfl
  have h4' : ¬ (4 : Int) < (xs.length : Int) := by omega
  simp only [h4, h4', decide_false, cond_false, if_false]
  have last : impl_TxsFault.Q2 k (xs, ()) xs = some (if 12 < cntF xs then 2 else 0, ()) := by
    show impl_TxsFault.q2 _ _ = _
    unfold impl_TxsFault.q2
    simp only [implCount_eq xs ht, Option.bind_some]
    by_cases hc : 12 < cntF xs <;> simp [hc]
  have inner : ∀ (self : ((List Tx) × (List (Key × Bool)) × (List Tx) × Int × Int) → Option impl_TxsFault.Out) (e2 : List Tx → Option impl_TxsFault.Out) (i : Nat) (hi : i < xs.length) (m : List (Key × Bool)), impl_TxsFault.r2 k self e2 (xs, ()) xs xs (xs.length : Int) (i : Int) (xs[i]).2.2.2.1 (List.length (xs[i]).2.2.2.1 : Int) (m, (0 : Int)) = match walkM m (xs[i]).2.2.2.1 with | none => some ((7 : Int), ()) | some m' => self (xs, m', xs, (xs.length : Int), w64 ((i : Int) + 1)) := fun self e2 i hi m => by
    have hlk := (h2 _ (List.getElem_mem hi)).2.2.1
    have := for_loopE (B := fun self' v => impl_TxsFault.B2 k self' (fun z => impl_TxsFault.Q1 k self e2 (xs, ()) xs xs (xs.length : Int) (i : Int) (xs[i]).2.2.2.1 (List.length (xs[i]).2.2.2.1 : Int) z) (xs, ()) xs xs (xs.length : Int) (i : Int) (xs[i]).2.2.2.1 (List.length (xs[i]).2.2.2.1 : Int) v) (xs[i]).2.2.2.1 (fun (m : List (Key × Bool)) (j : Int) => (m, j)) (fun _ m y => if getM m y then .inl (some ((7 : Int), ())) else .inr (putM m y)) (fun m => self (xs, m, xs, (xs.length : Int), w64 ((i : Int) + 1))) (fun _ _ => True) (by rw [maxLen_val]; omega)
      (fun j hj s self' _ => by
        show impl_TxsFault.b2 _ _ _ _ _ _ _ _ _ _ = _
        unfold impl_TxsFault.b2
        have hlt : (j : Int) < (List.length (xs[i]).2.2.2.1 : Int) := by omega
        simp only [hlt, decide_true, cond_true, Int.natCast_nonneg, if_true, Int.toNat_natCast, List.getElem?_eq_getElem hj, Option.bind_some]
        show (bif getM s ((xs[i]).2.2.2.1)[j] then some ((7 : Int), ()) else self' (putM s ((xs[i]).2.2.2.1)[j], w64 ((j : Int) + 1))) = _
        cases getM s ((xs[i]).2.2.2.1)[j] <;> rfl)
      (fun _ _ _ _ _ _ => trivial) (fun s self' _ => by
        show impl_TxsFault.b2 _ _ _ _ _ _ _ _ _ _ = _
        unfold impl_TxsFault.b2
        simp only [Int.lt_irrefl, decide_false, cond_false]
        rfl) m trivial k (by omega)
    rw [forI_walk] at this
    exact this
  have apart : impl_TxsFault.Q0 k (xs, ()) () = some (if apartB xs then (if 12 < cntF xs then 2 else 0) else 7, ()) := by
    have := for_loopE (B := fun self v => impl_TxsFault.B1 k self (fun z => impl_TxsFault.Q2 k (xs, ()) z) (xs, ()) v) xs (fun (m : List (Key × Bool)) (i : Int) => (xs, m, xs, (xs.length : Int), i)) (fun _ m x => match walkM m x.2.2.2.1 with | none => .inl (some ((7 : Int), ())) | some m' => .inr m') (fun _ => some (if 12 < cntF xs then 2 else 0, ())) (fun _ _ => True) (by rw [maxLen_val]; omega)
      (fun i hi m self _ => by
        show impl_TxsFault.b1 _ _ _ _ _ = _
        unfold impl_TxsFault.b1
        have hlt : (i : Int) < (xs.length : Int) := by omega
        simp only [hlt, decide_true, cond_true, Int.natCast_nonneg, if_true, Int.toNat_natCast, List.getElem?_eq_getElem hi, Option.bind_some]
        rw [inner self _ i hi m]
        cases walkM m (xs[i]).2.2.2.1 <;> rfl)
      (fun _ _ _ _ _ _ => trivial) (fun s self _ => by
        show impl_TxsFault.b1 _ _ _ _ _ = _
        unfold impl_TxsFault.b1
        simp only [Int.lt_irrefl, decide_false, cond_false]
        exact last) (seenM []) trivial k (by omega)
    rw [forI_walks, walk_seen _ _ List.nodup_nil] at this
    refine Eq.trans this ?_
    unfold apartB
    simp only [List.nil_append]
    by_cases hn : (flatK xs).Nodup <;> simp [hn]
  have := for_loopE (B := fun self v => impl_TxsFault.B0 k self (fun z => impl_TxsFault.Q0 k (xs, ()) z) (xs, ()) v) xs (fun (_ : Unit) (i : Int) => i) (fun i _ x => if oneC xs i x = 0 then .inr () else .inl (some (oneC xs i x, ()))) (fun _ => some (if apartB xs then (if 12 < cntF xs then 2 else 0) else 7, ())) (fun _ _ => True) (by rw [maxLen_val]; omega)
    (fun i hi s self _ => by
      show impl_TxsFault.b0 _ _ _ _ = _
      unfold impl_TxsFault.b0 oneC
      have hlt : (i : Int) < (xs.length : Int) := by omega
      simp only [hlt, decide_true, cond_true, Int.natCast_nonneg, if_true, Int.toNat_natCast, List.getElem?_eq_getElem hi, Option.bind_some, isTx_eq, txFault_eq _ (h2 _ (List.getElem_mem hi))]
      show (bif !inB (xs[i]).1 1 99 then _ else _) = _
      cases inB (xs[i]).1 1 99 with
      | false => rfl
      | true =>
        simp only [Bool.not_true, cond_false, if_true]
        by_cases h0 : i = 0
        · subst h0
          have hz : ¬ (0 : Int) < ((0 : Nat) : Int) := by omega
          simp only [hz, decide_false, cond_false, Nat.lt_irrefl, if_false]
          by_cases hc : txF xs[0] = 0
          · simp only [hc, decide_true, Bool.not_true, cond_false, if_true]
          · simp only [hc, decide_false, Bool.not_false, cond_true, if_false]
        · have hi1 : i - 1 < xs.length := by omega
          have hp : (0 : Int) < (i : Int) := by omega
          have hp2 : 0 < i := by omega
          simp only [hp, hp2, decide_true, cond_true, wprev (show 0 < i by omega) (by rw [maxLen_val]; omega), Int.natCast_nonneg, if_true, Int.toNat_natCast, List.getElem?_eq_getElem hi1, Option.bind_some]
          by_cases hle : (xs[i]).1 ≤ (xs[i - 1]).1
          · simp only [hle, decide_true, cond_true, if_true]
            rfl
          · simp only [hle, decide_false, cond_false, if_false]
            by_cases hc : txF xs[i] = 0
            · simp only [hc, decide_true, Bool.not_true, cond_false, if_true]
            · simp only [hc, decide_false, Bool.not_false, cond_true, if_false])
    (fun _ _ _ _ _ _ => trivial) (fun s self _ => by
      show impl_TxsFault.b0 _ _ _ _ = _
      unfold impl_TxsFault.b0
      simp only [Int.lt_irrefl, decide_false, cond_false]
      exact apart) () trivial k (by omega)
  rw [forI_codeE (oneC xs)] at this
  refine Eq.trans this ?_
  unfold eachF
  split <;> rfl

theorem specTxs_eq (xs : List Tx) (h : tls xs) : spec_l10Fault.sem (xs, ()) = some (txsF xs, ()) := by
  have ht := h
  obtain ⟨h1, h2⟩ := h
  refine lift_eq (k := 1048577) fun k hk => (spec_l10Fault.raw_eq k _).trans ?_
  unfold spec_l10Fault.raw spec_l10Fault.p txsF
  by_cases h4 : 4 < xs.length
  · have : (4 : Int) < (xs.length : Int) := by omega
    simp only [this, h4, decide_true, cond_true, if_true]
    rfl
  have h4' : ¬ (4 : Int) < (xs.length : Int) := by omega
  simp only [h4, h4', decide_false, cond_false, if_false]
  have last : spec_l10Fault.Q0 k (xs, ()) () = some (if apartS xs then (if 12 < cntF xs then 2 else 0) else 7, ()) := by
    show spec_l10Fault.q0 _ _ = _
    unfold spec_l10Fault.q0
    simp only [specApart_eq xs ht, specCount_eq xs ht, Option.bind_some]
    cases apartS xs with
    | false => rfl
    | true => by_cases hc : 12 < cntF xs <;> simp [hc]
  have := for_loopE (B := fun self v => spec_l10Fault.B0 k self (fun z => spec_l10Fault.Q0 k (xs, ()) z) (xs, ()) v) xs (fun (_ : Unit) (i : Int) => i) (fun i _ x => if oneC xs i x = 0 then .inr () else .inl (some (oneC xs i x, ()))) (fun _ => some (if apartS xs then (if 12 < cntF xs then 2 else 0) else 7, ())) (fun _ _ => True) (by rw [maxLen_val]; omega)
    (fun i hi s self _ => by
      show spec_l10Fault.b0 _ _ _ _ = _
      unfold spec_l10Fault.b0 oneC
      have hlt : (i : Int) < (xs.length : Int) := by omega
      simp only [hlt, decide_true, cond_true, Int.natCast_nonneg, if_true, Int.toNat_natCast, List.getElem?_eq_getElem hi, Option.bind_some, specIn_eq, specUndo_eq _ (h2 _ (List.getElem_mem hi)), specMarks_eq _ (h2 _ (List.getElem_mem hi))]
      have hj : (bif !decide (undoF xs[i] = 0) then some (undoF xs[i], ()) else bif !decide (marksF xs[i] = 0) then some (marksF xs[i], ()) else self (w64 ((i : Int) + 1))) = match (generalizing := false) (if txF xs[i] = 0 then .inr () else .inl (some (txF xs[i], ())) : Sum (Option (Int × Unit)) Unit) with | .inl o => o | .inr _ => self (w64 ((i : Int) + 1)) := by
        unfold txF
        by_cases hu : undoF xs[i] = 0
        · simp only [hu, decide_true, Bool.not_true, cond_false, if_true]
          by_cases hm : marksF xs[i] = 0
          · simp only [hm, decide_true, Bool.not_true, cond_false, if_true]
          · simp only [hm, decide_false, Bool.not_false, cond_true, if_false]
        · simp only [hu, decide_false, Bool.not_false, cond_true, if_false]
      show (bif !inB (xs[i]).1 1 99 then _ else _) = _
      cases inB (xs[i]).1 1 99 with
      | false => rfl
      | true =>
        simp only [Bool.not_true, cond_false, if_true]
        by_cases h0 : i = 0
        · subst h0
          have hz : ¬ (0 : Int) < ((0 : Nat) : Int) := by omega
          simp only [hz, decide_false, cond_false, Nat.lt_irrefl, if_false]
          refine hj.trans ?_
          by_cases hc : txF xs[0] = 0 <;> simp only [hc, if_true, if_false]
        · have hi1 : i - 1 < xs.length := by omega
          have hp : (0 : Int) < (i : Int) := by omega
          have hp2 : 0 < i := by omega
          simp only [hp, hp2, decide_true, cond_true, wprev (show 0 < i by omega) (by rw [maxLen_val]; omega), Int.natCast_nonneg, if_true, Int.toNat_natCast, List.getElem?_eq_getElem hi1, Option.bind_some]
          by_cases hle : (xs[i]).1 ≤ (xs[i - 1]).1
          · simp only [hle, decide_true, cond_true, if_true]
            rfl
          · simp only [hle, decide_false, cond_false, if_false]
            refine hj.trans ?_
            by_cases hc : txF xs[i] = 0 <;> simp only [hc, if_true, if_false])
    (fun _ _ _ _ _ _ => trivial) (fun s self _ => by
      show spec_l10Fault.b0 _ _ _ _ = _
      unfold spec_l10Fault.b0
      simp only [Int.lt_irrefl, decide_false, cond_false]
      exact last) () trivial k (by omega)
  rw [forI_codeE (oneC xs)] at this
  refine Eq.trans this ?_
  show (if eachF xs = 0 then _ else some (eachF xs, ())) = _
  by_cases he : eachF xs = 0
  · rw [if_pos he, if_pos he, apart_eq (each_rise he) (fun x hx => by
      obtain ⟨i, hi, rfl⟩ := List.mem_iff_getElem.1 hx
      exact tx_nodup (one_good (each_good xs he i hi)).2.1)]
  · rw [if_neg he, if_neg he]
end OT
