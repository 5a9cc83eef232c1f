/- Records packed and read: the program's way and the reference's way give the same; conditions on the lengths alone. -/
import Derived.Test.YtnpccifddodjlaaXJ
set_option linter.unusedVariables false
set_option linter.unusedSimpArgs false
namespace OT
open Go

theorem implCopied_eq (s : List UInt8) (h : s.length ≤ 200000000000) : impl_copied.sem (s, ()) = some (s, ()) := by
  refine lift_eq (k := 0) fun k _ => (impl_copied.raw_eq k _).trans ?_
  show impl_copied.p _ = _
  unfold impl_copied.p
  have : ([] : List UInt8).length + s.length ≤ CAP := cap_ok (by simpa using h)
  rw [if_pos this, List.nil_append]
theorem specCopy_eq (s : List UInt8) (h : s.length ≤ 200000000000) : spec_l2Copy.sem (s, ()) = some (s, ()) := by
  refine lift_eq (k := 0) fun k _ => (spec_l2Copy.raw_eq k _).trans ?_
  show spec_l2Copy.p _ = _
  unfold spec_l2Copy.p
  have : ([] : List UInt8).length + s.length ≤ CAP := cap_ok (by simpa using h)
  rw [if_pos this, List.nil_append]

/-! Packed. -/
def flat1 (x : Run) : List UInt8 := UInt8.ofInt x.1 :: UInt8.ofInt (List.length x.2.1 : Int) :: x.2.1
def flatR (xs : List Run) : List UInt8 := xs.flatMap flat1
def head5 (r : Record) : List UInt8 := [(0 : UInt8), UInt8.ofInt r.1, UInt8.ofInt r.2.1, UInt8.ofInt r.2.2.1, UInt8.ofInt (List.length r.2.2.2.1 : Int)]
def sumP (s : Int) (l : List UInt8) : Int := l.foldl (fun s c => (s * 31 + (c.toNat : Int)) % 65521) s
def hdP (r : Record) : List UInt8 := (head5 r ++ flatR r.2.2.2.1).set 0 (UInt8.ofInt (w64 (((head5 r ++ flatR r.2.2.2.1).length : Int) + 2)))
def packF (r : Record) : List UInt8 := hdP r ++ [UInt8.ofInt ((sumP 1 (hdP r)) / 256), UInt8.ofInt (sumP 1 (hdP r))]
def smallR (r : Record) : Prop := List.length r.2.2.2.1 ≤ 64 ∧ ∀ x ∈ r.2.2.2.1, List.length x.2.1 ≤ 64

theorem small_of {r : Record} (h : recF r = 0) : smallR r := by
  have := recF_good h
  refine ⟨this.2.2.2.2.2.2.1, fun x hx => ?_⟩
  have h2 := this.2.2.2.2.2.2.2 x hx
  unfold bl at h2
  omega
theorem flatR_append (xs ys : List Run) : flatR (xs ++ ys) = flatR xs ++ flatR ys := List.flatMap_append
theorem flatR_cons (x : Run) (xs : List Run) : flatR (x :: xs) = flat1 x ++ flatR xs := List.flatMap_cons
theorem flatR_len {xs : List Run} (h : ∀ x ∈ xs, List.length x.2.1 ≤ 64) : (flatR xs).length ≤ 66 * xs.length := by
  induction xs with
  | nil => simp [flatR]
  | cons x xs ih =>
    have h1 := ih fun y hy => h y (by simp [hy])
    have h2 := h x (by simp)
    rw [flatR_cons]
    simp only [List.length_append, List.length_cons, flat1]
    omega
theorem hdP_len (r : Record) : (hdP r).length = 5 + (flatR r.2.2.2.1).length := by simp [hdP, head5]; omega
theorem packF_len (r : Record) : (packF r).length = 7 + (flatR r.2.2.2.1).length := by
  simp only [packF, List.length_append, hdP_len, List.length_cons, List.length_nil]; omega
theorem packF_small {r : Record} (h : smallR r) : (packF r).length ≤ 5000 := by
  rw [packF_len]
  have := flatR_len h.2
  have := h.1
  omega
theorem sumP_in : ∀ (l : List UInt8) (s : Int), 0 ≤ s ∧ s < 65521 → 0 ≤ sumP s l ∧ sumP s l < 65521
  | [], s, h => h
  | c :: l, s, h => sumP_in l ((s * 31 + (c.toNat : Int)) % 65521) ⟨Int.emod_nonneg _ (by omega), Int.emod_lt_of_pos _ (by omega)⟩
theorem byte_tmod {s : Int} (h : 0 ≤ s) : UInt8.ofInt (s.tmod 256) = UInt8.ofInt s := by
  rw [Int.tmod_eq_emod_of_nonneg h]
  apply UInt8.toBitVec_inj.1
  apply BitVec.eq_of_toNat_eq
  simp [UInt8.ofInt, BitVec.toNat_ofInt]

theorem forI_all {S O α : Type} {g : Nat → S → α → S} {fin : S → O} {f : Nat → S → α → Sum O S} (hf : ∀ i s x, f i s x = .inr (g i s x)) : ∀ (xs : List α) (i : Nat) (s : S), forI f fin i xs s = forI (fun i s x => .inr (g i s x)) fin i xs s
  | [], _, _ => rfl
  | x :: xs, i, s => by simp only [forI, hf]; exact forI_all hf xs _ _
theorem forI_fold {S O α : Type} {g : S → α → S} {fin : S → O} : ∀ (xs : List α) (i : Nat) (s : S), forI (fun _ s x => .inr (g s x)) fin i xs s = fin (xs.foldl g s)
  | [], _, _ => rfl
  | x :: xs, i, s => by simp only [forI, List.foldl_cons]; exact forI_fold xs _ _
theorem fold_flat : ∀ (xs : List Run) (s : List UInt8), xs.foldl (fun s x => s ++ flat1 x) s = s ++ flatR xs
  | [], s => by simp [flatR]
  | x :: xs, s => by rw [List.foldl_cons, fold_flat, flatR_cons, List.append_assoc]

theorem sum_step {s : Int} {c : UInt8} (h : 0 ≤ s ∧ s < 65521) : ((w64 ((w64 (s * (31 : Int))) + (w64 (c.toNat : Int)))).tmod (65521 : Int)) = (s * 31 + (c.toNat : Int)) % 65521 := by
  have hc := c.toNat_lt
  have e1 : w64 (s * 31) = s * 31 := w64_in (by omega)
  have e2 : w64 (c.toNat : Int) = (c.toNat : Int) := w64_in (by omega)
  have e3 : w64 (s * 31 + (c.toNat : Int)) = s * 31 + (c.toNat : Int) := w64_in (by omega)
  rw [e1, e2, e3, Int.tmod_eq_emod_of_nonneg (by omega)]

theorem specSum_eq (l : List UInt8) (h : l.length ≤ 100000) : spec_l4Sum.sem (l, ()) = some (sumP 1 l, ()) := by
  refine lift_eq (k := 100001) fun k hk => (spec_l4Sum.raw_eq k _).trans ?_
  have := for_loop (B := fun self v => spec_l4Sum.B0 0 self (fun z => spec_l4Sum.Q0 0 (l, ()) z) (l, ()) v) l (fun (s : Int) (i : Int) => (s, i)) (fun _ s c => .inr ((s * 31 + (c.toNat : Int)) % 65521)) (fun s => (s, ())) (fun _ s => 0 ≤ s ∧ s < 65521) (by rw [maxLen_val]; omega)
    (fun i hi s self hI => by
      show spec_l4Sum.b0 _ _ _ _ = _
      unfold spec_l4Sum.b0
      have hlt : (i : Int) < (l.length : Int) := by omega
      simp only [hlt, decide_true, cond_true, Int.natCast_nonneg, if_true, Int.toNat_natCast, List.getElem?_eq_getElem hi, Option.bind_some, sum_step hI])
    (fun i hi s s' hI hs => by injection hs with hs; omega) (fun s self _ => by
      show spec_l4Sum.b0 _ _ _ _ = _
      unfold spec_l4Sum.b0
      simp [spec_l4Sum.Q0, spec_l4Sum.q0]) 1 (by omega) k (by omega)
  rw [forI_fold] at this
  exact this

theorem specPack_eq (r : Record) (h : smallR r) : spec_l4Pack.sem (r, ()) = some (packF r, ()) := by
  obtain ⟨K, T, P, xs, ⟨⟩⟩ := r
  obtain ⟨h1, h2⟩ := h
  simp only at h1 h2
  refine lift_eq (k := 100) fun k hk => (spec_l4Pack.raw_eq k _).trans ?_
  have hlen : ∀ i, (flatR (xs.take i)).length ≤ 66 * 64 := fun i => by
    have := flatR_len (xs := xs.take i) (fun x hx => h2 x (List.mem_of_mem_take hx))
    have : (xs.take i).length ≤ xs.length := by simp; omega
    omega
  have := for_loop (B := fun self v => spec_l4Pack.B0 0 self (fun z => spec_l4Pack.Q0 0 ((K, T, P, xs, ()), ()) z) ((K, T, P, xs, ()), ()) v) xs (fun (s : List UInt8) (i : Int) => (s, i)) (fun _ s x => .inr (s ++ flat1 x)) (fun s => (let q := s.set 0 (UInt8.ofInt (w64 ((s.length : Int) + 2))); (q ++ [UInt8.ofInt ((sumP 1 q) / 256), UInt8.ofInt (sumP 1 q)], ())))
    (fun i s => s = head5 (K, T, P, xs, ()) ++ flatR (xs.take i)) (by rw [maxLen_val]; omega)
    (fun i hi s self hI => by
      show spec_l4Pack.b0 _ _ _ _ = _
      unfold spec_l4Pack.b0
      have hlt : (i : Int) < (xs.length : Int) := by omega
      have hs : s.length ≤ 5000 := by rw [hI]; have := hlen i; simp only [List.length_append, head5, List.length_cons, List.length_nil]; omega
      have hx := h2 xs[i] (List.getElem_mem hi)
      simp only [hlt, decide_true, cond_true, Int.natCast_nonneg, if_true, Int.toNat_natCast, List.getElem?_eq_getElem hi, Option.bind_some]
      generalize xs[i] = x at hx
      have c1 : s.length + [UInt8.ofInt x.1, UInt8.ofInt (List.length x.2.1 : Int)].length ≤ CAP := cap_ok (by simp only [List.length_cons, List.length_nil]; omega)
      have c2 : (s ++ [UInt8.ofInt x.1, UInt8.ofInt (List.length x.2.1 : Int)]).length + List.length x.2.1 ≤ CAP := cap_ok (by simp only [List.length_append, List.length_cons, List.length_nil]; omega)
      simp only [c1, c2, if_true, flat1, List.append_assoc, List.cons_append, List.nil_append])
    (fun i hi s s' hI hs => by
      injection hs with hs
      rw [← hs, hI, List.take_succ_eq_append_getElem hi, flatR_append, List.append_assoc]
      simp [flatR]) (fun s self hI => by
      show spec_l4Pack.b0 _ _ _ _ = _
      unfold spec_l4Pack.b0
      have hs : 5 ≤ s.length ∧ s.length ≤ 5000 := by rw [hI]; have := hlen xs.length; simp only [List.length_append, head5, List.length_cons, List.length_nil]; omega
      simp only [Int.lt_irrefl, decide_false, cond_false, spec_l4Pack.Q0, spec_l4Pack.q0]
      have c0 : (0 : Int) ≤ 0 ∧ (0 : Int) < (s.length : Int) := ⟨by omega, by omega⟩
      rw [if_pos c0, List.getElem?_eq_getElem (by omega : 0 < s.length)]
      simp only [Option.bind_some]
      generalize hq : s.set 0 (UInt8.ofInt (w64 ((s.length : Int) + 2))) = q
      have hql : q.length = s.length := by rw [← hq]; simp
      rw [specSum_eq q (by omega)]
      simp only [Option.bind_some]
      have hb := sumP_in q 1 (by omega)
      have c1 : q.length + [UInt8.ofInt (w64 ((sumP 1 q).tdiv 256)), UInt8.ofInt ((sumP 1 q).tmod 256)].length ≤ CAP := cap_ok (by simp only [List.length_cons, List.length_nil]; omega)
      rw [if_pos c1, byte_tmod hb.1, Int.tdiv_eq_ediv_of_nonneg hb.1, w64_in (by omega)]) (head5 (K, T, P, xs, ())) (by simp [flatR]) k (by omega)
  rw [forI_fold, fold_flat] at this
  exact this

theorem implPack_eq (r : Record) (h : smallR r) : impl_packed.sem (r, ()) = some (packF r, ()) := by
  obtain ⟨K, T, P, xs, ⟨⟩⟩ := r
  obtain ⟨h1, h2⟩ := h
  simp only at h1 h2
  refine lift_eq (k := 6000) fun k hk => (impl_packed.raw_eq k _).trans ?_
  have hlen : ∀ i, (flatR (xs.take i)).length ≤ 66 * 64 := fun i => by
    have := flatR_len (xs := xs.take i) (fun x hx => h2 x (List.mem_of_mem_take hx))
    have : (xs.take i).length ≤ xs.length := by simp; omega
    omega
  have sum2 : ∀ q : List UInt8, q.length ≤ 5000 → impl_packed.r1 k ((K, T, P, xs, ()), ()) q (q.length : Int) (1, 0) = some (q ++ [UInt8.ofInt ((sumP 1 q) / 256), UInt8.ofInt (sumP 1 q)], ()) := fun q hq => by
    have := for_loop (B := fun self v => impl_packed.B1 0 self (fun z => impl_packed.Q1 0 ((K, T, P, xs, ()), ()) q (q.length : Int) z) ((K, T, P, xs, ()), ()) q (q.length : Int) v) q (fun (s : Int) (i : Int) => (s, i)) (fun _ s c => .inr ((s * 31 + (c.toNat : Int)) % 65521)) (fun s => (q ++ [UInt8.ofInt (s / 256), UInt8.ofInt s], ())) (fun _ s => 0 ≤ s ∧ s < 65521) (by rw [maxLen_val]; omega)
      (fun i hi s self hI => by
        show impl_packed.b1 _ _ _ _ _ _ = _
        unfold impl_packed.b1
        have hlt : (i : Int) < (q.length : Int) := by omega
        have hlt2 : (0 : Int) ≤ (i : Int) ∧ (i : Int) < (q.length : Int) := by omega
        simp only [hlt, hlt2, and_self, decide_true, cond_true, Int.natCast_nonneg, if_true, Int.toNat_natCast, List.getElem?_eq_getElem hi, Option.bind_some, sum_step hI])
      (fun i hi s s' hI hs => by injection hs with hs; omega) (fun s self hI => by
        show impl_packed.b1 _ _ _ _ _ _ = _
        unfold impl_packed.b1
        simp only [Int.lt_irrefl, decide_false, cond_false, impl_packed.Q1, impl_packed.q1]
        have c1 : q.length + [UInt8.ofInt (s.fdiv (2 ^ 8)), UInt8.ofInt s].length ≤ CAP := cap_ok (by simp only [List.length_cons, List.length_nil]; omega)
        rw [if_pos c1, Int.fdiv_eq_ediv_of_nonneg s (by omega : (0 : Int) ≤ 2 ^ 8)]
        rfl) 1 (by omega) k (by omega)
    rw [forI_fold] at this
    exact this
  have := for_loop (B := fun self v => impl_packed.B0 k self (fun z => impl_packed.Q0 k ((K, T, P, xs, ()), ()) z) ((K, T, P, xs, ()), ()) v) xs (fun (s : List UInt8) (i : Int) => (s, i)) (fun _ s x => .inr (s ++ flat1 x)) (fun s => (let q := s.set 0 (UInt8.ofInt (w64 ((s.length : Int) + 2))); (q ++ [UInt8.ofInt ((sumP 1 q) / 256), UInt8.ofInt (sumP 1 q)], ())))
    (fun i s => s = head5 (K, T, P, xs, ()) ++ flatR (xs.take i)) (by rw [maxLen_val]; omega)
    (fun i hi s self hI => by
      show impl_packed.b0 _ _ _ _ = _
      unfold impl_packed.b0
      have hlt : (i : Int) < (xs.length : Int) := by omega
      have hs : s.length ≤ 5000 := by rw [hI]; have := hlen i; simp only [List.length_append, head5, List.length_cons, List.length_nil]; omega
      have hx := h2 xs[i] (List.getElem_mem hi)
      simp only [hlt, decide_true, cond_true, Int.natCast_nonneg, if_true, Int.toNat_natCast, List.getElem?_eq_getElem hi, Option.bind_some]
      generalize xs[i] = x at hx
      have c1 : s.length + [UInt8.ofInt x.1, UInt8.ofInt (List.length x.2.1 : Int)].length ≤ CAP := cap_ok (by simp only [List.length_cons, List.length_nil]; omega)
      have c2 : (s ++ [UInt8.ofInt x.1, UInt8.ofInt (List.length x.2.1 : Int)]).length + List.length x.2.1 ≤ CAP := cap_ok (by simp only [List.length_append, List.length_cons, List.length_nil]; omega)
      simp only [c1, c2, if_true, flat1, List.append_assoc, List.cons_append, List.nil_append])
    (fun i hi s s' hI hs => by
      injection hs with hs
      rw [← hs, hI, List.take_succ_eq_append_getElem hi, flatR_append, List.append_assoc]
      simp [flatR]) (fun s self hI => by
      show impl_packed.b0 _ _ _ _ = _
      unfold impl_packed.b0
      have hs : 5 ≤ s.length ∧ s.length ≤ 5000 := by rw [hI]; have := hlen xs.length; simp only [List.length_append, head5, List.length_cons, List.length_nil]; omega
      simp only [Int.lt_irrefl, decide_false, cond_false, impl_packed.Q0, impl_packed.q0]
      have c0 : (0 : Int) ≤ 0 ∧ (0 : Int) < (s.length : Int) := ⟨by omega, by omega⟩
      rw [if_pos c0, List.getElem?_eq_getElem (by omega : 0 < s.length)]
      simp only [Option.bind_some]
      generalize hq : s.set 0 (UInt8.ofInt (w64 ((s.length : Int) + 2))) = q
      have hql : q.length = s.length := by rw [← hq]; simp
      exact sum2 q (by omega)) (head5 (K, T, P, xs, ())) (by simp [flatR]) k (by omega)
  rw [forI_fold, fold_flat] at this
  exact this
end OT
