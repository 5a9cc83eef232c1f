/- The plain model's faults: the program and the reference alike; conditions on the lengths alone. -/
import Derived.Test.YtkimdiobckckiaaXQ
import Derived.Test.YtkimdiobckckiaaXG
set_option linter.unusedVariables false
set_option linter.unusedSimpArgs false
namespace OT
open Go

/-! Keys of rows and locks. -/
def dd (S : List Key) (ks : List Key) : List Key := ks.foldl (fun S k => if hasK S k then S else S ++ [k]) S
def rowKs (rows : List Row) : List Key := rows.map fun r => (r.1, r.2.1, ())
def allKs (rows : List Row) (xs : List Tx) : List Key := rowKs rows ++ flatK xs
theorem mapPut_some {α : Type} (k : Ty) (m : List (k.den × α)) (x : k.den) (y : α) {i : Nat} (h : m.findIdx? (fun e => k.eq x e.1) = some i) : mapPut k m x y = m.set i (x, y) := by
  unfold mapPut
  rw [h]
theorem putM_same {S : List Key} {k : Key} (h : hasK S k = true) : putM (seenM S) k = seenM S := by
  have key : ∀ (S : List Key) (i : Nat), (seenM S).findIdx? (fun e => Ty.eq tKey k e.1) = some i → (seenM S)[i]? = some (k, true) := by
    intro S i hi
    have h1 := List.findIdx?_eq_some_iff_findIdx_eq.1 hi
    have hlt : i < (seenM S).length := h1.1
    have h2 : (seenM S).findIdx (fun e => Ty.eq tKey k e.1) < (seenM S).length := by rw [h1.2]; exact hlt
    have h3 := List.findIdx_getElem (xs := seenM S) (p := fun e => Ty.eq tKey k e.1) (w := h2)
    simp only [h1.2] at h3
    have h4 : Ty.eq tKey k (seenM S)[i].1 = decide (k = (seenM S)[i].1) := kq_eq k _
    have h3 : Ty.eq tKey k (seenM S)[i].1 = true := h3
    rw [h4, decide_eq_true_eq] at h3
    rw [List.getElem?_eq_getElem hlt]
    have h5 : (seenM S)[i] = ((seenM S)[i].1, true) := by simp [seenM]
    rw [h5, ← h3]
  show mapPut tKey (seenM S) k true = seenM S
  cases hf : (seenM S).findIdx? (fun e => Ty.eq tKey k e.1) with
  | none =>
    exfalso
    have h1 : mapGet tKey (seenM S) k = none := by
      unfold mapGet
      have h2 := List.findIdx?_eq_none_iff.1 hf
      have : (seenM S).find? (fun e => Ty.eq tKey k e.1) = none := List.find?_eq_none.2 fun e he => by rw [h2 e he]; simp
      exact congrArg _ this
    have h2 := mapGet_seen S k
    rw [h] at h2
    exact absurd (h1.symm.trans h2) (by simp)
  | some i =>
    have h1 := key S i hf
    have hlt := (List.getElem?_eq_some_iff.1 h1).1
    refine (mapPut_some tKey (seenM S) k true hf).trans ?_
    show (seenM S).set i (k, true) = seenM S
    have : (seenM S)[i] = (k, true) := (List.getElem?_eq_some_iff.1 h1).2
    rw [← this]
    exact List.set_getElem_self hlt
theorem put_step (S : List Key) (k : Key) : putM (seenM S) k = seenM (if hasK S k then S else S ++ [k]) := by
  cases h : hasK S k with
  | true => simp only [if_true]; exact putM_same h
  | false => simp only [Bool.false_eq_true, if_false]; exact put_seen h
theorem puts_dd : ∀ (ks S : List Key), ks.foldl putM (seenM S) = seenM (dd S ks)
  | [], S => rfl
  | k :: ks, S => by
    rw [List.foldl_cons, put_step, puts_dd ks]
    rfl
theorem dd_append (S a b : List Key) : dd S (a ++ b) = dd (dd S a) b := List.foldl_append
theorem dd_mem : ∀ (ks S : List Key) (k : Key), k ∈ dd S ks ↔ k ∈ S ∨ k ∈ ks
  | [], S, k => by simp [dd]
  | x :: ks, S, k => by
    show k ∈ dd (if hasK S x then S else S ++ [x]) ks ↔ _
    rw [dd_mem ks]
    cases h : hasK S x with
    | true =>
      have := hasK_iff.1 h
      simp only [if_true, List.mem_cons]
      constructor
      · rintro (h1 | h1)
        · exact .inl h1
        · exact .inr (.inr h1)
      · rintro (h1 | h1 | h1)
        · exact .inl h1
        · subst h1; exact .inl this
        · exact .inr h1
    | false =>
      simp only [Bool.false_eq_true, if_false, List.mem_append, List.mem_cons, List.not_mem_nil, or_false]
      exact or_assoc
theorem dd_len : ∀ (ks S : List Key), S.length ≤ (dd S ks).length
  | [], S => Nat.le_refl _
  | x :: ks, S => by
    refine Nat.le_trans ?_ (dd_len ks (if hasK S x then S else S ++ [x]))
    split
    · exact Nat.le_refl _
    · simp
theorem dd_nodup : ∀ (ks S : List Key), (S ++ ks).Nodup → dd S ks = S ++ ks
  | [], S, _ => by simp [dd]
  | x :: ks, S, h => by
    have hx : hasK S x = false := by
      cases hh : hasK S x with
      | false => rfl
      | true =>
        rw [List.nodup_append] at h
        exact absurd rfl (h.2.2 x (hasK_iff.1 hh) x (by simp))
    show dd (if hasK S x then S else S ++ [x]) ks = _
    rw [hx]
    simp only [Bool.false_eq_true, if_false]
    rw [dd_nodup ks (S ++ [x]) (by simpa using h)]
    simp
theorem rowKs_nodup {rows : List Row} (h : up rows) : (rowKs rows).Nodup := by
  unfold rowKs
  rw [List.nodup_iff_pairwise_ne, List.pairwise_map]
  refine h.imp fun {a b} hab e => ?_
  have : rk a = rk b := by
    simp only [Prod.mk.injEq, and_true] at e
    exact Prod.ext e.1 e.2
  rw [this, befB_irr] at hab
  cases hab
theorem rows_room {rows : List Row} {xs : List Tx} (h : up rows) : rows.length ≤ (dd [] (allKs rows xs)).length := by
  unfold allKs
  rw [dd_append, dd_nodup (rowKs rows) [] (by simpa using rowKs_nodup h)]
  refine Nat.le_trans ?_ (dd_len _ _)
  simp [rowKs]

/-- How many come for the first time. -/
def newN : List Key → List Key → Nat
  | _, [] => 0
  | S, k :: ks => (if hasK S k then 0 else 1) + newN (S ++ [k]) ks
theorem newN_dd : ∀ (ks S T : List Key), (∀ k, k ∈ S ↔ k ∈ T) → (dd S ks).length = S.length + newN T ks
  | [], S, T, _ => rfl
  | x :: ks, S, T, h => by
    have hx : hasK S x = hasK T x := by rw [Bool.eq_iff_iff, hasK_iff, hasK_iff]; exact h x
    show (dd (if hasK S x then S else S ++ [x]) ks).length = _
    simp only [newN, ← hx]
    cases hh : hasK S x with
    | true =>
      simp only [if_true]
      rw [newN_dd ks S (T ++ [x]) fun k => ?_]
      · omega
      · simp only [List.mem_append, List.mem_singleton, ← h k]
        constructor
        · exact .inl
        · rintro (h1 | h1)
          · exact h1
          · subst h1; exact hasK_iff.1 hh
    | false =>
      simp only [Bool.false_eq_true, if_false]
      rw [newN_dd ks (S ++ [x]) (T ++ [x]) fun k => by simp only [List.mem_append, h k]]
      simp only [List.length_append, List.length_cons, List.length_nil]
      omega

def roomF (rows : List Row) (xs : List Tx) : Nat := (dd [] (allKs rows xs)).length

theorem keysOf_eq (rows : List Row) (xs : List Tx) (hr : rows.length ≤ 1048576) (h : tls xs) : impl_keysOf.sem (rows, xs, ()) = some (seenM (dd [] (allKs rows xs)), ()) := by
  obtain ⟨h1, h2⟩ := h
  refine lift_eq (k := 1048577) fun k hk => (impl_keysOf.raw_eq k _).trans ?_
  have inner : ∀ (self : ((List (Key × Bool)) × (List Tx) × Int × Int) → Option impl_keysOf.Out) (e2 : (List (Key × Bool)) → Option impl_keysOf.Out) (i : Nat) (hi : i < xs.length) (m : List (Key × Bool)), impl_keysOf.r2 k self e2 (rows, xs, ()) xs (xs.length : Int) (i : Int) (xs[i]).2.2.2.1 (List.length (xs[i]).2.2.2.1 : Int) (m, (0 : Int)) = self ((xs[i]).2.2.2.1.foldl putM m, xs, (xs.length : Int), w64 ((i : Int) + 1)) := fun self e2 i hi m => by
    have hlk := (h2 _ (List.getElem_mem hi)).2.2.1
    have := for_loopE (B := fun self' v => impl_keysOf.B2 k self' (fun z => impl_keysOf.Q1 k self e2 (rows, xs, ()) xs (xs.length : Int) (i : Int) (xs[i]).2.2.2.1 (List.length (xs[i]).2.2.2.1 : Int) z) (rows, xs, ()) xs (xs.length : Int) (i : Int) (xs[i]).2.2.2.1 (List.length (xs[i]).2.2.2.1 : Int) v) (xs[i]).2.2.2.1 (fun (m : List (Key × Bool)) (j : Int) => (m, j)) (fun _ m y => .inr (putM m y)) (fun m => self (m, xs, (xs.length : Int), w64 ((i : Int) + 1))) (fun _ _ => True) (by rw [maxLen_val]; omega)
      (fun j hj s self' _ => by
        show impl_keysOf.b2 _ _ _ _ _ _ _ _ _ = _
        unfold impl_keysOf.b2
        have hlt : (j : Int) < (List.length (xs[i]).2.2.2.1 : Int) := by omega
        simp only [hlt, decide_true, cond_true, Int.natCast_nonneg, if_true, Int.toNat_natCast, List.getElem?_eq_getElem hj, Option.bind_some]
        rfl)
      (fun _ _ _ _ _ _ => trivial) (fun s self' _ => by
        show impl_keysOf.b2 _ _ _ _ _ _ _ _ _ = _
        unfold impl_keysOf.b2
        simp only [Int.lt_irrefl, decide_false, cond_false]
        rfl) m trivial k (by omega)
    rw [forI_fold (g := putM)] at this
    exact this
  have second : ∀ m, impl_keysOf.r1 k (rows, xs, ()) (m, xs, (xs.length : Int), (0 : Int)) = some ((flatK xs).foldl putM m, ()) := fun m => by
    have := for_loop (B := fun self v => impl_keysOf.B1 k self (fun z => impl_keysOf.Q2 k (rows, xs, ()) z) (rows, xs, ()) v) xs (fun (m : List (Key × Bool)) (i : Int) => (m, xs, (xs.length : Int), i)) (fun _ m x => .inr (x.2.2.2.1.foldl putM m)) (fun m => (m, ())) (fun _ _ => True) (by rw [maxLen_val]; omega)
      (fun i hi m self _ => by
        show impl_keysOf.b1 _ _ _ _ _ = _
        unfold impl_keysOf.b1
        have hlt : (i : Int) < (xs.length : Int) := by omega
        simp only [hlt, decide_true, cond_true, Int.natCast_nonneg, if_true, Int.toNat_natCast, List.getElem?_eq_getElem hi, Option.bind_some]
        exact inner self _ i hi m)
      (fun _ _ _ _ _ _ => trivial) (fun s self _ => by
        show impl_keysOf.b1 _ _ _ _ _ = _
        unfold impl_keysOf.b1
        simp only [Int.lt_irrefl, decide_false, cond_false]
        rfl) m trivial k (by omega)
    rw [forI_fold (g := fun m (x : Tx) => x.2.2.2.1.foldl putM m)] at this
    refine Eq.trans this ?_
    have : ∀ (xs : List Tx) (m : List (Key × Bool)), xs.foldl (fun m (x : Tx) => x.2.2.2.1.foldl putM m) m = (flatK xs).foldl putM m := by
      intro xs
      induction xs with
      | nil => intro m; rfl
      | cons x xs ih => intro m; rw [List.foldl_cons, ih]; simp [flatK, List.foldl_append]
    rw [this]
  have := for_loopE (B := fun self v => impl_keysOf.B0 k self (fun z => impl_keysOf.Q0 k (rows, xs, ()) z) (rows, xs, ()) v) rows (fun (m : List (Key × Bool)) (i : Int) => (m, i)) (fun _ m r => .inr (putM m (r.1, r.2.1, ()))) (fun m => some ((flatK xs).foldl putM m, ())) (fun _ _ => True) (by rw [maxLen_val]; omega)
    (fun i hi m self _ => by
      show impl_keysOf.b0 _ _ _ _ = _
      unfold impl_keysOf.b0
      have hlt : (i : Int) < (rows.length : Int) := by omega
      simp only [hlt, decide_true, cond_true, Int.natCast_nonneg, if_true, Int.toNat_natCast, List.getElem?_eq_getElem hi, Option.bind_some]
      rfl)
    (fun _ _ _ _ _ _ => trivial) (fun s self _ => by
      show impl_keysOf.b0 _ _ _ _ = _
      unfold impl_keysOf.b0
      simp only [Int.lt_irrefl, decide_false, cond_false]
      exact second s) (seenM []) trivial k (by omega)
  rw [forI_fold (g := fun m (r : Row) => putM m (r.1, r.2.1, ()))] at this
  refine Eq.trans this ?_
  have e1 : rows.foldl (fun m (r : Row) => putM m (r.1, r.2.1, ())) (seenM []) = (rowKs rows).foldl putM (seenM []) := by unfold rowKs; rw [List.foldl_map]
  rw [e1, ← List.foldl_append]
  exact congrArg (fun m => some (m, ())) (puts_dd (allKs rows xs) [])

/-! The reference's count. -/
theorem forI_firsts {O : Type} (x : Key) (E : Bool → Option O) : ∀ (ys : List Key) (j : Nat) (b : Bool), forI (fun _ b y => if b then .inr (!decide (y = x)) else .inl (E false)) E j ys b = if b then E (!hasK ys x) else E false
  | [], _, b => by cases b <;> rfl
  | y :: ys, j, b => by
    cases b with
    | false => simp [forI]
    | true =>
      simp only [forI, if_true]
      rw [forI_firsts x E ys]
      have : hasK (y :: ys) x = (decide (y = x) || hasK ys x) := rfl
      rw [this]
      cases decide (y = x) <;> simp
theorem forI_new {O : Type} (all : List Key) (E : Int → O) : ∀ (ys pre : List Key) (n : Int), all = pre ++ ys → forI (fun i n x => .inr (if hasK (all.take i) x then n else n + 1)) E pre.length ys n = E (n + (newN pre ys : Int))
  | [], pre, n, _ => by simp [forI, newN]
  | y :: ys, pre, n, h => by
    simp only [forI]
    have ht : all.take pre.length = pre := by rw [h]; simp
    rw [ht]
    have := forI_new all E ys (pre ++ [y]) (if hasK pre y then n else n + 1) (by rw [h]; simp)
    rw [List.length_append] at this
    refine Eq.trans this ?_
    congr 1
    simp only [newN]
    cases hasK pre y <;> simp <;> omega

theorem specRoom_eq (rows : List Row) (xs : List Tx) (hr : rows.length ≤ 1048576) (hx : xs.length ≤ 1000) (h : ∀ x ∈ xs, List.length x.2.2.2.1 ≤ 1000) : spec_l10Room.sem (rows, xs, ((0 : Int), (0 : Int), ()), ()) = some ((roomF rows xs : Int), ()) := by
  refine lift_eq (k := 3000000) fun k hk => (spec_l10Room.raw_eq k _).trans ?_
  have hfl : (flatK xs).length ≤ 1000 * xs.length := by
    clear hx
    induction xs with
    | nil => simp [flatK]
    | cons x xs ih =>
      have h1 := h x (by simp)
      have h2 := ih fun y hy => h y (by simp [hy])
      have : flatK (x :: xs) = x.2.2.2.1 ++ flatK xs := by simp [flatK]
      rw [this, List.length_append, List.length_cons]
      omega
  -- the count
  have third : ∀ all : List Key, all.length ≤ 2100000 → spec_l10Room.r2 k (rows, xs, ((0 : Int), (0 : Int), ()), ()) (all, (0 : Int), (0 : Int)) = some ((newN [] all : Int), ()) := fun all hall => by
    have inner : ∀ (self : ((List Key) × Int × Int) → Option spec_l10Room.Out) (e4 : Int → Option spec_l10Room.Out) (i : Nat) (hi : i < all.length) (n : Int), spec_l10Room.r3 k self e4 (rows, xs, ((0 : Int), (0 : Int), ()), ()) all n (i : Int) (true, (0 : Int)) = if hasK (all.take i) all[i] then self (all, n, w64 ((i : Int) + 1)) else self (all, w64 (n + 1), w64 ((i : Int) + 1)) := fun self e4 i hi n => by
      have hti : (all.take i).length = i := by simp; omega
      have := for_loopE (B := fun self' v => spec_l10Room.B3 k self' (fun z => spec_l10Room.Q2 k self e4 (rows, xs, ((0 : Int), (0 : Int), ()), ()) all n (i : Int) z) (rows, xs, ((0 : Int), (0 : Int), ()), ()) all n (i : Int) v) (all.take i) (fun (b : Bool) (j : Int) => (b, j)) (fun _ b y => if b then .inr (!decide (y = all[i])) else .inl (if false then self (all, w64 (n + 1), w64 ((i : Int) + 1)) else self (all, n, w64 ((i : Int) + 1)))) (fun b => if b then self (all, w64 (n + 1), w64 ((i : Int) + 1)) else self (all, n, w64 ((i : Int) + 1))) (fun _ _ => True) (by rw [maxLen_val]; omega)
        (fun j hj b self' _ => by
          show spec_l10Room.b3 _ _ _ _ _ _ _ = _
          unfold spec_l10Room.b3
          rw [hti] at hj
          have hlt : (j : Int) < (i : Int) := by omega
          have hjl : j < all.length := by omega
          have c1 : (0 : Int) ≤ (j : Int) ∧ (j : Int) < (all.length : Int) := by omega
          have c2 : (0 : Int) ≤ (i : Int) ∧ (i : Int) < (all.length : Int) := by omega
          simp only [hlt, c1, c2, and_self, decide_true, cond_true, if_true, Int.toNat_natCast, List.getElem?_eq_getElem hjl, List.getElem?_eq_getElem hi, Option.bind_some, kq_eq, List.getElem_take]
          cases b <;> rfl)
        (fun _ _ _ _ _ _ => trivial) (fun b self' _ => by
          show spec_l10Room.b3 _ _ _ _ _ _ _ = _
          unfold spec_l10Room.b3
          simp only [hti, Int.lt_irrefl, decide_false, cond_false]
          cases b <;> rfl) true trivial k (by omega)
      have e := forI_firsts all[i] (fun b => if b then self (all, w64 (n + 1), w64 ((i : Int) + 1)) else self (all, n, w64 ((i : Int) + 1))) (all.take i) 0 true
      refine (Eq.trans this e).trans ?_
      cases hasK (all.take i) all[i] <;> rfl
    have := for_loop (B := fun self v => spec_l10Room.B2 k self (fun z => spec_l10Room.Q3 k (rows, xs, ((0 : Int), (0 : Int), ()), ()) z) (rows, xs, ((0 : Int), (0 : Int), ()), ()) v) all (fun (n : Int) (i : Int) => (all, n, i)) (fun i n x => .inr (if hasK (all.take i) x then n else n + 1)) (fun n => (n, ())) (fun i n => 0 ≤ n ∧ n ≤ (i : Int)) (by rw [maxLen_val]; omega)
      (fun i hi n self hI => by
        show spec_l10Room.b2 _ _ _ _ _ = _
        unfold spec_l10Room.b2
        have hlt : (i : Int) < (all.length : Int) := by omega
        simp only [hlt, decide_true, cond_true]
        rw [inner self _ i hi n, w64_in (n := n + 1) (by omega)]
        cases hasK (all.take i) all[i] <;> rfl)
      (fun i hi n n' hI hs => by
        injection hs with hs
        rw [← hs]
        split <;> omega) (fun s self _ => by
        show spec_l10Room.b2 _ _ _ _ _ = _
        unfold spec_l10Room.b2
        simp only [Int.lt_irrefl, decide_false, cond_false]
        rfl) 0 (by omega) k (by omega)
    have e := forI_new all (fun n => (n, ())) all [] 0 rfl
    refine (Eq.trans this (congrArg some e)).trans ?_
    rw [Int.zero_add]
  have second : spec_l10Room.r1 k (rows, xs, ((0 : Int), (0 : Int), ()), ()) (rowKs rows, (0 : Int)) = some ((newN [] (allKs rows xs) : Int), ()) := by
    have hrl : (rowKs rows).length = rows.length := by simp [rowKs]
    have := for_loopE (B := fun self v => spec_l10Room.B1 k self (fun z => spec_l10Room.Q1 k (rows, xs, ((0 : Int), (0 : Int), ()), ()) z) (rows, xs, ((0 : Int), (0 : Int), ()), ()) v) xs (fun (s : List Key) (i : Int) => (s, i)) (fun _ s x => .inr (s ++ x.2.2.2.1)) (fun s => spec_l10Room.r2 k (rows, xs, ((0 : Int), (0 : Int), ()), ()) (s, (0 : Int), (0 : Int))) (fun i s => s.length ≤ 1048576 + 1000 * i) (by rw [maxLen_val]; omega)
      (fun i hi s self hI => by
        show spec_l10Room.b1 _ _ _ _ = _
        unfold spec_l10Room.b1
        have hlt : (i : Int) < (xs.length : Int) := by omega
        have hlk := h _ (List.getElem_mem hi)
        have hc : s.length + List.length (xs[i]).2.2.2.1 ≤ CAP := cap_ok (by omega)
        simp only [hlt, decide_true, cond_true, Int.natCast_nonneg, if_true, Int.toNat_natCast, List.getElem?_eq_getElem hi, Option.bind_some, hc])
      (fun i hi s s' hI hs => by
        injection hs with hs
        have hlk := h _ (List.getElem_mem hi)
        rw [← hs, List.length_append]; omega) (fun s self _ => by
        show spec_l10Room.b1 _ _ _ _ = _
        unfold spec_l10Room.b1
        simp only [Int.lt_irrefl, decide_false, cond_false]
        rfl) (rowKs rows) (by omega) k (by omega)
    rw [forI_fold (g := fun s (x : Tx) => s ++ x.2.2.2.1)] at this
    refine Eq.trans this ?_
    have e : ∀ (xs : List Tx) (s : List Key), xs.foldl (fun s (x : Tx) => s ++ x.2.2.2.1) s = s ++ flatK xs := by
      intro xs
      induction xs with
      | nil => intro s; simp [flatK]
      | cons x xs ih => intro s; rw [List.foldl_cons, ih]; simp [flatK]
    rw [e]
    exact third _ (by rw [List.length_append, hrl]; omega)
  have := for_loopE (B := fun self v => spec_l10Room.B0 k self (fun z => spec_l10Room.Q0 k (rows, xs, ((0 : Int), (0 : Int), ()), ()) z) (rows, xs, ((0 : Int), (0 : Int), ()), ()) v) rows (fun (s : List Key) (i : Int) => (s, i)) (fun _ s r => .inr (s ++ [(r.1, r.2.1, ())])) (fun s => spec_l10Room.r1 k (rows, xs, ((0 : Int), (0 : Int), ()), ()) (s, (0 : Int))) (fun i s => s.length = i) (by rw [maxLen_val]; omega)
    (fun i hi s self hI => by
      show spec_l10Room.b0 _ _ _ _ = _
      unfold spec_l10Room.b0
      have hlt : (i : Int) < (rows.length : Int) := by omega
      have hc : s.length + [((rows[i]).1, (rows[i]).2.1, ())].length ≤ CAP := cap_ok (by simp only [List.length_cons, List.length_nil]; omega)
      simp only [hlt, decide_true, cond_true, Int.natCast_nonneg, if_true, Int.toNat_natCast, List.getElem?_eq_getElem hi, Option.bind_some]
      rw [if_pos hc])
    (fun i hi s s' hI hs => by injection hs with hs; rw [← hs]; simp [hI]) (fun s self _ => by
      show spec_l10Room.b0 _ _ _ _ = _
      unfold spec_l10Room.b0
      simp only [Int.lt_irrefl, decide_false, cond_false]
      rfl) [] rfl k (by omega)
  rw [forI_fold (g := fun s (r : Row) => s ++ [(r.1, r.2.1, ())])] at this
  have e : ∀ (rows : List Row) (s : List Key), rows.foldl (fun s (r : Row) => s ++ [(r.1, r.2.1, ())]) s = s ++ rowKs rows := by
    intro rows
    induction rows with
    | nil => intro s; simp [rowKs]
    | cons r rows ih => intro s; rw [List.foldl_cons, ih]; simp [rowKs]
  rw [e, List.nil_append, second] at this
  refine Eq.trans this ?_
  have := newN_dd (allKs rows xs) [] [] (fun _ => Iff.rfl)
  simp only [List.length_nil, Nat.zero_add] at this
  unfold roomF
  rw [this]
end OT
