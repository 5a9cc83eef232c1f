/- Printed by px.py, a program of this claim: what the helpers of the laws compute. -/
import Derived.Test.YtnpccifddodjlaaG0
import Derived.Test.YtnpccifddodjlaaOUm
set_option linter.unusedVariables false
set_option linter.unusedSimpArgs false
namespace OT
open Go
theorem eqByteS_self (x : List UInt8) (h : zz (.slc u8) x ≤ 4611686018427387904) : laws_eqByteS.sem (x, x, ()) = some (true, ()) := by
  have hl : x.length ≤ 4611686018427387904 := Nat.le_trans (zz_len (e := u8) x) h
  refine lift_eq (k := x.length + 1) fun k hk => (laws_eqByteS.raw_eq k _).trans ?_
  unfold laws_eqByteS.raw laws_eqByteS.p
  simp only [decide_true, Bool.not_true, cond_false]
  have := all_loop (B := fun self v => laws_eqByteS.B0 k self (fun z => laws_eqByteS.Q0 k (x, x, ()) z) (x, x, ()) v) (xs := x) (ys := x) (fun _ _ => true) rfl (by rw [maxLen_val]; omega) (fun i hi hj self => by
      show laws_eqByteS.b0 _ _ _ _ = _
      unfold laws_eqByteS.b0
      have hlt : (i : Int) < (x.length : Int) := by omega
      simp only [hlt, decide_true, cond_true, Int.natCast_nonneg, if_true, Int.toNat_natCast, List.getElem?_eq_getElem hi, Option.bind_some, Bool.not_true, cond_false]) (fun self => by
      show laws_eqByteS.b0 _ _ _ _ = _
      unfold laws_eqByteS.b0
      simp [laws_eqByteS.Q0, laws_eqByteS.q0]) k (by omega)
  rw [show allB (fun _ _ => true) x x = true by simp [allB]] at this
  exact this
theorem eqByteSS_self (x : List (List UInt8)) (h : zz (.slc (.slc u8)) x ≤ 4611686018427387904) : laws_eqByteSS.sem (x, x, ()) = some (true, ()) := by
  have hl : x.length ≤ 4611686018427387904 := Nat.le_trans (zz_len (e := (.slc u8)) x) h
  refine lift_eq (k := x.length + 1) fun k hk => (laws_eqByteSS.raw_eq k _).trans ?_
  unfold laws_eqByteSS.raw laws_eqByteSS.p
  simp only [decide_true, Bool.not_true, cond_false]
  have := all_loop (B := fun self v => laws_eqByteSS.B0 k self (fun z => laws_eqByteSS.Q0 k (x, x, ()) z) (x, x, ()) v) (xs := x) (ys := x) (fun _ _ => true) rfl (by rw [maxLen_val]; omega) (fun i hi hj self => by
      show laws_eqByteSS.b0 _ _ _ _ = _
      unfold laws_eqByteSS.b0
      have hlt : (i : Int) < (x.length : Int) := by omega
      simp only [hlt, decide_true, cond_true, Int.natCast_nonneg, if_true, Int.toNat_natCast, List.getElem?_eq_getElem hi, Option.bind_some, Bool.not_true, cond_false, eqByteS_self x[i] (by have := zz_mem (e := (.slc u8)) (List.getElem_mem hi); omega)]) (fun self => by
      show laws_eqByteSS.b0 _ _ _ _ = _
      unfold laws_eqByteSS.b0
      simp [laws_eqByteSS.Q0, laws_eqByteSS.q0]) k (by omega)
  rw [show allB (fun _ _ => true) x x = true by simp [allB]] at this
  exact this
def KByteS (x : UInt8) (k : Int) (y : UInt8) (k' : Int) : Prop := y = (UInt8.ofInt (k)) ∧ k + 1 = k'
theorem mkByteS (x : List UInt8) (k : Int) (h0 : 0 ≤ k) (h1 : k + 32 * ((zz (.slc u8) x : Nat) : Int) ≤ BIG) : ∃ (k' : Int) (y : List UInt8), laws_markByteS.sem (x, k, ()) = some (k', y, ()) ∧ k ≤ k' ∧ k' ≤ k + 32 * ((zz (.slc u8) x : Nat) : Int) := by
  have hB : BIG = 4611686018427387904 := rfl
  have hl : List.length x ≤ zz (.slc u8) x := zz_len (e := u8) x
  have hs : sumW (fun x : UInt8 => 32 * (zz u8 x + 1)) x = 32 * zz (.slc u8) x := sumW_32 (zz u8) x
  obtain ⟨ys, k', g1, g2, g3, g4, g5⟩ := mark_loop (B := fun self v => laws_markByteS.B0 0 self (fun z => laws_markByteS.Q0 0 (x, k, ()) z) (x, k, ()) v) (xs := x) (by rw [maxLen_val]; omega) KByteS (fun x : UInt8 => 32 * (zz u8 x + 1)) (fun x hx k h0 h1 => by
      exact ⟨_, _, by omega, by omega, ⟨rfl, rfl⟩⟩) (fun i acc k self x y k' hi hx h0 h1 h2 h3 hE => by
      obtain ⟨rfl, rfl⟩ := hE
      show laws_markByteS.b0 _ _ _ _ = _
      unfold laws_markByteS.b0
      have hlt : (i : Int) < (acc.length : Int) := by omega
      simp (disch := omega) only [hlt, decide_true, cond_true, Int.natCast_nonneg, and_self, if_true, Int.toNat_natCast, hx, Option.bind_some, List.length_set, get_self_set, List.set_set, w64_in]) (fun acc k self => by
      show laws_markByteS.b0 _ _ _ _ = _
      unfold laws_markByteS.b0
      simp [laws_markByteS.Q0, laws_markByteS.q0]) k h0 (by rw [hs]; omega)
  refine ⟨k', ys, lift_eq (k := x.length + 1) fun f hf => (laws_markByteS.raw_eq f _).trans (g5 f (by omega)), g1, by rw [hs] at g2; omega⟩
def KByteSS (x : List UInt8) (k : Int) (y : List UInt8) (k' : Int) : Prop := ∃ (r1 : Int) (y1 : List UInt8), laws_markByteS.sem (x, k, ()) = some (r1, y1, ()) ∧ k ≤ r1 ∧ r1 ≤ k + 32 * ((zz (.slc u8) x : Nat) : Int) ∧ y = y1 ∧ r1 = k'
theorem mkByteSS (x : List (List UInt8)) (k : Int) (h0 : 0 ≤ k) (h1 : k + 32 * ((zz (.slc (.slc u8)) x : Nat) : Int) ≤ BIG) : ∃ (k' : Int) (y : List (List UInt8)), laws_markByteSS.sem (x, k, ()) = some (k', y, ()) ∧ k ≤ k' ∧ k' ≤ k + 32 * ((zz (.slc (.slc u8)) x : Nat) : Int) := by
  have hB : BIG = 4611686018427387904 := rfl
  have hl : List.length x ≤ zz (.slc (.slc u8)) x := zz_len (e := (.slc u8)) x
  have hs : sumW (fun x : List UInt8 => 32 * (zz (.slc u8) x + 1)) x = 32 * zz (.slc (.slc u8)) x := sumW_32 (zz (.slc u8)) x
  obtain ⟨ys, k', g1, g2, g3, g4, g5⟩ := mark_loop (B := fun self v => laws_markByteSS.B0 0 self (fun z => laws_markByteSS.Q0 0 (x, k, ()) z) (x, k, ()) v) (xs := x) (by rw [maxLen_val]; omega) KByteSS (fun x : List UInt8 => 32 * (zz (.slc u8) x + 1)) (fun x hx k h0 h1 => by
      obtain ⟨r1, y1, e1, g1, i1⟩ := mkByteS x (k) (by omega) (by omega)
      exact ⟨_, _, by omega, by omega, ⟨r1, y1, e1, g1, i1, rfl, rfl⟩⟩) (fun i acc k self x y k' hi hx h0 h1 h2 h3 hE => by
      obtain ⟨r1, y1, e1, g1, i1, rfl, rfl⟩ := hE
      show laws_markByteSS.b0 _ _ _ _ = _
      unfold laws_markByteSS.b0
      have hlt : (i : Int) < (acc.length : Int) := by omega
      simp (disch := omega) only [hlt, decide_true, cond_true, Int.natCast_nonneg, and_self, if_true, Int.toNat_natCast, hx, Option.bind_some, List.length_set, get_self_set, List.set_set, w64_in, e1]) (fun acc k self => by
      show laws_markByteSS.b0 _ _ _ _ = _
      unfold laws_markByteSS.b0
      simp [laws_markByteSS.Q0, laws_markByteSS.q0]) k h0 (by rw [hs]; omega)
  refine ⟨k', ys, lift_eq (k := x.length + 1) fun f hf => (laws_markByteSS.raw_eq f _).trans (g5 f (by omega)), g1, by rw [hs] at g2; omega⟩
def EByteS (x : UInt8) (k : Int) (y : UInt8) (k' : Int) : Prop := y = (UInt8.ofInt (k)) ∧ k + 1 = k'
theorem mhByteS (x : List UInt8) (k : Int) (h0 : 0 ≤ k) (h1 : k + 32 * ((zz (.slc u8) x : Nat) : Int) ≤ BIG) : ∃ (k' : Int) (y : List UInt8), laws_markByteS.sem (x, k, ()) = some (k', y, ()) ∧ laws_heldByteS.sem (y, k, ()) = some (k', ()) ∧ k ≤ k' ∧ k' ≤ k + 32 * ((zz (.slc u8) x : Nat) : Int) := by
  have hB : BIG = 4611686018427387904 := rfl
  have hl : List.length x ≤ zz (.slc u8) x := zz_len (e := u8) x
  have hs : sumW (fun x : UInt8 => 32 * (zz u8 x + 1)) x = 32 * zz (.slc u8) x := sumW_32 (zz u8) x
  obtain ⟨ys, k', g1, g2, g3, g4, g5⟩ := mark_loop (B := fun self v => laws_markByteS.B0 0 self (fun z => laws_markByteS.Q0 0 (x, k, ()) z) (x, k, ()) v) (xs := x) (by rw [maxLen_val]; omega) EByteS (fun x : UInt8 => 32 * (zz u8 x + 1)) (fun x hx k h0 h1 => by
      exact ⟨_, _, by omega, by omega, ⟨rfl, rfl⟩⟩) (fun i acc k self x y k' hi hx h0 h1 h2 h3 hE => by
      obtain ⟨rfl, rfl⟩ := hE
      show laws_markByteS.b0 _ _ _ _ = _
      unfold laws_markByteS.b0
      have hlt : (i : Int) < (acc.length : Int) := by omega
      simp (disch := omega) only [hlt, decide_true, cond_true, Int.natCast_nonneg, and_self, if_true, Int.toNat_natCast, hx, Option.bind_some, List.length_set, get_self_set, List.set_set, w64_in]) (fun acc k self => by
      show laws_markByteS.b0 _ _ _ _ = _
      unfold laws_markByteS.b0
      simp [laws_markByteS.Q0, laws_markByteS.q0]) k h0 (by rw [hs]; omega)
  refine ⟨k', ys, lift_eq (k := x.length + 1) fun f hf => (laws_markByteS.raw_eq f _).trans (g5 f (by omega)), ?_, g1, by rw [hs] at g2; omega⟩
  refine lift_eq (k := ys.length + 1) fun f hf => (laws_heldByteS.raw_eq f _).trans ?_
  exact held_loop (B := fun self v => laws_heldByteS.B0 0 self (fun z => laws_heldByteS.Q0 0 (ys, k, ()) z) (ys, k, ()) v) (by rw [maxLen_val]; omega) g4 (fun i k self x y k' hi hx h0 h1 h2 h3 hE => by
      obtain ⟨rfl, rfl⟩ := hE
      show laws_heldByteS.b0 _ _ _ _ = _
      unfold laws_heldByteS.b0
      have hlt : (i : Int) < (ys.length : Int) := by omega
      simp (disch := omega) only [hlt, decide_true, cond_true, Int.natCast_nonneg, and_self, if_true, Int.toNat_natCast, hx, Option.bind_some, w64_in, beq_self_eq_true, Bool.not_true, cond_false, decide_false]) (fun k self => by
      show laws_heldByteS.b0 _ _ _ _ = _
      unfold laws_heldByteS.b0
      simp [laws_heldByteS.Q0, laws_heldByteS.q0]) f (by omega)
def EByteSS (x : List UInt8) (k : Int) (y : List UInt8) (k' : Int) : Prop := ∃ (r1 : Int) (y1 : List UInt8), laws_markByteS.sem (x, k, ()) = some (r1, y1, ()) ∧ laws_heldByteS.sem (y1, k, ()) = some (r1, ()) ∧ k ≤ r1 ∧ r1 ≤ k + 32 * ((zz (.slc u8) x : Nat) : Int) ∧ y = y1 ∧ r1 = k'
theorem mhByteSS (x : List (List UInt8)) (k : Int) (h0 : 0 ≤ k) (h1 : k + 32 * ((zz (.slc (.slc u8)) x : Nat) : Int) ≤ BIG) : ∃ (k' : Int) (y : List (List UInt8)), laws_markByteSS.sem (x, k, ()) = some (k', y, ()) ∧ laws_heldByteSS.sem (y, k, ()) = some (k', ()) ∧ k ≤ k' ∧ k' ≤ k + 32 * ((zz (.slc (.slc u8)) x : Nat) : Int) := by
  have hB : BIG = 4611686018427387904 := rfl
  have hl : List.length x ≤ zz (.slc (.slc u8)) x := zz_len (e := (.slc u8)) x
  have hs : sumW (fun x : List UInt8 => 32 * (zz (.slc u8) x + 1)) x = 32 * zz (.slc (.slc u8)) x := sumW_32 (zz (.slc u8)) x
  obtain ⟨ys, k', g1, g2, g3, g4, g5⟩ := mark_loop (B := fun self v => laws_markByteSS.B0 0 self (fun z => laws_markByteSS.Q0 0 (x, k, ()) z) (x, k, ()) v) (xs := x) (by rw [maxLen_val]; omega) EByteSS (fun x : List UInt8 => 32 * (zz (.slc u8) x + 1)) (fun x hx k h0 h1 => by
      obtain ⟨r1, y1, e1, f1, g1, i1⟩ := mhByteS x (k) (by omega) (by omega)
      exact ⟨_, _, by omega, by omega, ⟨r1, y1, e1, f1, g1, i1, rfl, rfl⟩⟩) (fun i acc k self x y k' hi hx h0 h1 h2 h3 hE => by
      obtain ⟨r1, y1, e1, f1, g1, i1, rfl, rfl⟩ := hE
      show laws_markByteSS.b0 _ _ _ _ = _
      unfold laws_markByteSS.b0
      have hlt : (i : Int) < (acc.length : Int) := by omega
      simp (disch := omega) only [hlt, decide_true, cond_true, Int.natCast_nonneg, and_self, if_true, Int.toNat_natCast, hx, Option.bind_some, List.length_set, get_self_set, List.set_set, w64_in, e1]) (fun acc k self => by
      show laws_markByteSS.b0 _ _ _ _ = _
      unfold laws_markByteSS.b0
      simp [laws_markByteSS.Q0, laws_markByteSS.q0]) k h0 (by rw [hs]; omega)
  refine ⟨k', ys, lift_eq (k := x.length + 1) fun f hf => (laws_markByteSS.raw_eq f _).trans (g5 f (by omega)), ?_, g1, by rw [hs] at g2; omega⟩
  refine lift_eq (k := ys.length + 1) fun f hf => (laws_heldByteSS.raw_eq f _).trans ?_
  exact held_loop (B := fun self v => laws_heldByteSS.B0 0 self (fun z => laws_heldByteSS.Q0 0 (ys, k, ()) z) (ys, k, ()) v) (by rw [maxLen_val]; omega) g4 (fun i k self x y k' hi hx h0 h1 h2 h3 hE => by
      obtain ⟨r1, y1, e1, f1, g1, i1, rfl, rfl⟩ := hE
      show laws_heldByteSS.b0 _ _ _ _ = _
      unfold laws_heldByteSS.b0
      have hlt : (i : Int) < (ys.length : Int) := by omega
      have n1 : ¬ r1 < 0 := by omega
      simp (disch := omega) only [hlt, decide_true, cond_true, Int.natCast_nonneg, and_self, if_true, Int.toNat_natCast, hx, Option.bind_some, w64_in, beq_self_eq_true, Bool.not_true, cond_false, decide_false, f1, n1]) (fun k self => by
      show laws_heldByteSS.b0 _ _ _ _ = _
      unfold laws_heldByteSS.b0
      simp [laws_heldByteSS.Q0, laws_heldByteSS.q0]) f (by omega)
theorem szByteS_eq (x : List UInt8) (n : Int) (hx : okD (.slc u8) x) (h0 : 0 ≤ n) (h1 : n ≤ 1048576) : laws_szByteS.sem (x, n, ()) = some (lft n (zz (.slc u8) x), ()) := by
  obtain ⟨hl, hel⟩ := hx
  have hl' := hl
  rw [maxLen_val] at hl'
  have hl' : List.length x ≤ 9223372036854775807 := hl'
  have hw : w64 (n - (List.length x : Int)) = n - (List.length x : Int) := w64_in (by omega)
  have hz : zz (.slc u8) x = List.length x + 0 := by show List.length x + sumW _ _ = _; exact congrArg (List.length x + ·) (sumW_zero _ (fun _ => rfl) x)
  refine lift_eq (k := 0) fun k _ => (laws_szByteS.raw_eq k _).trans ?_
  show laws_szByteS.p _ = _
  unfold laws_szByteS.p
  simp only [hw, hz, Nat.add_zero]
  by_cases hc : (List.length x : Int) ≤ n
  · have e1 : lft n (List.length x) = n - (List.length x : Int) := if_pos hc
    have n1 : ¬ (n - (List.length x : Int) < 0) := by omega
    simp [e1, n1]
  · have e1 : lft n (List.length x) = -1 := if_neg hc
    have n1 : n - (List.length x : Int) < 0 := by omega
    simp [e1, n1]
theorem szRun_eq (x : Run) (n : Int) (hx : okD tRun x) (h0 : 0 ≤ n) (h1 : n ≤ 1048576) : laws_szRun.sem (x, n, ()) = some (lft n (zz tRun x), ()) := by
  have hz : zz tRun x = (0 + (zz (.slc u8) x.2.1 + 0)) := rfl
  refine lift_eq (k := 0) fun k _ => (laws_szRun.raw_eq k _).trans ?_
  show laws_szRun.p _ = _
  unfold laws_szRun.p
  simp only [szByteS_eq x.2.1 (n) hx.2.1 (by omega) (by omega), Option.bind_some]
  by_cases hc : ((zz (.slc u8) x.2.1 : Nat) : Int) ≤ n
  rotate_left
  · have e1 : lft (n) (zz (.slc u8) x.2.1) = -1 := if_neg hc
    have e2 : lft n (zz tRun x) = -1 := if_neg (by omega)
    rw [e1, e2]; rfl
  have e1 : lft (n) (zz (.slc u8) x.2.1) = n - ((zz (.slc u8) x.2.1 : Nat) : Int) := if_pos hc
  have n1 : ¬ (n - ((zz (.slc u8) x.2.1 : Nat) : Int) < 0) := by omega
  simp only [e1, n1, decide_false, cond_false]
  clear e1 n1
  have e2 : lft n (zz tRun x) = (n - ((zz (.slc u8) x.2.1 : Nat) : Int)) := by unfold lft; rw [if_pos (by omega)]; omega
  rw [e2]
theorem szRunS_eq (x : List Run) (n : Int) (hx : okD (.slc tRun) x) (h0 : 0 ≤ n) (h1 : n ≤ 1048576) : laws_szRunS.sem (x, n, ()) = some (lft n (zz (.slc tRun) x), ()) := by
  obtain ⟨hl, hel⟩ := hx
  have hl' := hl
  rw [maxLen_val] at hl'
  have hl' : List.length x ≤ 9223372036854775807 := hl'
  have hw : w64 (n - (List.length x : Int)) = n - (List.length x : Int) := w64_in (by omega)
  have hz : zz (.slc tRun) x = List.length x + sumW (zz tRun) x := rfl
  by_cases hc : n - (List.length x : Int) < 0
  · have e1 : lft n (zz (.slc tRun) x) = -1 := if_neg (by omega)
    rw [e1]
    refine lift_eq (k := 0) fun k _ => (laws_szRunS.raw_eq k _).trans ?_
    unfold laws_szRunS.raw laws_szRunS.p
    simp only [hw, hc, decide_true, cond_true]
    rfl
  · have e1 : lft n (zz (.slc tRun) x) = lft (n - (List.length x : Int)) (sumW (zz tRun) x) := by rw [hz, lft_add (by omega)]
    rw [e1]
    refine lift_eq (k := List.length x + 1) fun k hk => (laws_szRunS.raw_eq k _).trans ?_
    unfold laws_szRunS.raw laws_szRunS.p
    simp only [hw, hc, decide_false, cond_false]
    exact sz_loop (B := fun self v => laws_szRunS.B0 0 self (fun z => laws_szRunS.Q0 0 (x, n, ()) z) (x, n, ()) v) (xs := x) hl (zz tRun) (fun i hi m self hm0 hm1 => by
        show laws_szRunS.b0 _ _ _ _ = _
        unfold laws_szRunS.b0
        have hlt : (i : Int) < (List.length x : Int) := by omega
        simp only [hlt, decide_true, cond_true, Int.natCast_nonneg, if_true, Int.toNat_natCast, List.getElem?_eq_getElem hi, Option.bind_some, szRun_eq x[i] m (hel _ (List.getElem_mem hi)) hm0 hm1]
        by_cases hs : lft m (zz tRun x[i]) < 0 <;> simp [hs]) (fun m self => by
        show laws_szRunS.b0 _ _ _ _ = _
        unfold laws_szRunS.b0
        simp [laws_szRunS.Q0, laws_szRunS.q0]) _ (by omega) (by omega) k (by omega)
theorem szRecord_eq (x : Record) (n : Int) (hx : okD tRecord x) (h0 : 0 ≤ n) (h1 : n ≤ 1048576) : laws_szRecord.sem (x, n, ()) = some (lft n (zz tRecord x), ()) := by
  have hz : zz tRecord x = (0 + (0 + (0 + (zz (.slc tRun) x.2.2.2.1 + 0)))) := rfl
  refine lift_eq (k := 0) fun k _ => (laws_szRecord.raw_eq k _).trans ?_
  show laws_szRecord.p _ = _
  unfold laws_szRecord.p
  simp only [szRunS_eq x.2.2.2.1 (n) hx.2.2.2.1 (by omega) (by omega), Option.bind_some]
  by_cases hc : ((zz (.slc tRun) x.2.2.2.1 : Nat) : Int) ≤ n
  rotate_left
  · have e1 : lft (n) (zz (.slc tRun) x.2.2.2.1) = -1 := if_neg hc
    have e2 : lft n (zz tRecord x) = -1 := if_neg (by omega)
    rw [e1, e2]; rfl
  have e1 : lft (n) (zz (.slc tRun) x.2.2.2.1) = n - ((zz (.slc tRun) x.2.2.2.1 : Nat) : Int) := if_pos hc
  have n1 : ¬ (n - ((zz (.slc tRun) x.2.2.2.1 : Nat) : Int) < 0) := by omega
  simp only [e1, n1, decide_false, cond_false]
  clear e1 n1
  have e2 : lft n (zz tRecord x) = (n - ((zz (.slc tRun) x.2.2.2.1 : Nat) : Int)) := by unfold lft; rw [if_pos (by omega)]; omega
  rw [e2]
theorem toByteS_eq (x : List UInt8) (h : zz (.slc u8) x ≤ 1048576) : laws_toByteS.sem (x, ()) = some (x, ()) := by
  have hl : x.length ≤ 1048576 := Nat.le_trans (zz_len (e := u8) x) h
  refine lift_eq (k := x.length + 1) fun k hk => (laws_toByteS.raw_eq k _).trans ?_
  unfold laws_toByteS.raw laws_toByteS.p
  have hc : 0 ≤ (x.length : Int) ∧ (x.length : Int) ≤ (x.length : Int) ∧ (x.length : Int) ≤ (CAP : Int) := by simp only [CAP]; omega
  simp only [hc, and_self, if_true, Int.toNat_natCast]
  exact copy_loop (B := fun self v => laws_toByteS.B0 k self (fun z => laws_toByteS.Q0 k (x, ()) z) (x, ()) v) (xs := x) (by rw [maxLen_val]; omega) (fun i hi acc self ha => by
    show laws_toByteS.b0 _ _ _ _ = _
    unfold laws_toByteS.b0
    have hlt : (i : Int) < (x.length : Int) := by omega
    have hlt2 : (i : Int) < (acc.length : Int) := by omega
    simp only [hlt, hlt2, decide_true, cond_true, Int.natCast_nonneg, and_self, if_true, Int.toNat_natCast, List.getElem?_eq_getElem hi, List.getElem?_eq_getElem (show i < acc.length by omega), Option.bind_some]) (fun acc self => by
    show laws_toByteS.b0 _ _ _ _ = _
    unfold laws_toByteS.b0
    simp [laws_toByteS.Q0, laws_toByteS.q0]) _ k (by omega)
theorem toRun_eq (x : Run) (h : zz tRun x ≤ 1048576) : laws_toRun.sem (x, ()) = some (x, ()) := by
  have hz : zz tRun x = (0 + (zz (.slc u8) x.2.1 + 0)) := rfl
  refine lift_eq (k := 0) fun k _ => (laws_toRun.raw_eq k _).trans ?_
  show laws_toRun.p _ = _
  unfold laws_toRun.p
  simp only [toByteS_eq x.2.1 (by omega), Option.bind_some]
theorem toRunS_eq (x : List Run) (h : zz (.slc tRun) x ≤ 1048576) : laws_toRunS.sem (x, ()) = some (x, ()) := by
  have hl : x.length ≤ 1048576 := Nat.le_trans (zz_len (e := tRun) x) h
  refine lift_eq (k := x.length + 1) fun k hk => (laws_toRunS.raw_eq k _).trans ?_
  unfold laws_toRunS.raw laws_toRunS.p
  have hc : 0 ≤ (x.length : Int) ∧ (x.length : Int) ≤ (x.length : Int) ∧ (x.length : Int) ≤ (CAP : Int) := by simp only [CAP]; omega
  simp only [hc, and_self, if_true, Int.toNat_natCast]
  exact copy_loop (B := fun self v => laws_toRunS.B0 k self (fun z => laws_toRunS.Q0 k (x, ()) z) (x, ()) v) (xs := x) (by rw [maxLen_val]; omega) (fun i hi acc self ha => by
    show laws_toRunS.b0 _ _ _ _ = _
    unfold laws_toRunS.b0
    have hlt : (i : Int) < (x.length : Int) := by omega
    have hlt2 : (i : Int) < (acc.length : Int) := by omega
    simp only [hlt, hlt2, decide_true, cond_true, Int.natCast_nonneg, and_self, if_true, Int.toNat_natCast, List.getElem?_eq_getElem hi, List.getElem?_eq_getElem (show i < acc.length by omega), Option.bind_some, toRun_eq x[i] (by have := zz_mem (e := tRun) (List.getElem_mem hi); omega)]) (fun acc self => by
    show laws_toRunS.b0 _ _ _ _ = _
    unfold laws_toRunS.b0
    simp [laws_toRunS.Q0, laws_toRunS.q0]) _ k (by omega)
theorem toRecord_eq (x : Record) (h : zz tRecord x ≤ 1048576) : laws_toRecord.sem (x, ()) = some (x, ()) := by
  have hz : zz tRecord x = (0 + (0 + (0 + (zz (.slc tRun) x.2.2.2.1 + 0)))) := rfl
  refine lift_eq (k := 0) fun k _ => (laws_toRecord.raw_eq k _).trans ?_
  show laws_toRecord.p _ = _
  unfold laws_toRecord.p
  simp only [toRunS_eq x.2.2.2.1 (by omega), Option.bind_some]
theorem eqRun_self (x : Run) (h : zz tRun x ≤ 4611686018427387904) : laws_eqRun.sem (x, x, ()) = some (true, ()) := by
  have hz : zz tRun x = (0 + (zz (.slc u8) x.2.1 + 0)) := rfl
  refine lift_eq (k := 0) fun k _ => (laws_eqRun.raw_eq k _).trans ?_
  show laws_eqRun.p _ = _
  unfold laws_eqRun.p
  have q0 := eqByteS_self x.2.1 (by omega)
  simp [q0]
theorem eqRunS_self (x : List Run) (h : zz (.slc tRun) x ≤ 4611686018427387904) : laws_eqRunS.sem (x, x, ()) = some (true, ()) := by
  have hl : x.length ≤ 4611686018427387904 := Nat.le_trans (zz_len (e := tRun) x) h
  refine lift_eq (k := x.length + 1) fun k hk => (laws_eqRunS.raw_eq k _).trans ?_
  unfold laws_eqRunS.raw laws_eqRunS.p
  simp only [decide_true, Bool.not_true, cond_false]
  have := all_loop (B := fun self v => laws_eqRunS.B0 k self (fun z => laws_eqRunS.Q0 k (x, x, ()) z) (x, x, ()) v) (xs := x) (ys := x) (fun _ _ => true) rfl (by rw [maxLen_val]; omega) (fun i hi hj self => by
      show laws_eqRunS.b0 _ _ _ _ = _
      unfold laws_eqRunS.b0
      have hlt : (i : Int) < (x.length : Int) := by omega
      simp only [hlt, decide_true, cond_true, Int.natCast_nonneg, if_true, Int.toNat_natCast, List.getElem?_eq_getElem hi, Option.bind_some, Bool.not_true, cond_false, eqRun_self x[i] (by have := zz_mem (e := tRun) (List.getElem_mem hi); omega)]) (fun self => by
      show laws_eqRunS.b0 _ _ _ _ = _
      unfold laws_eqRunS.b0
      simp [laws_eqRunS.Q0, laws_eqRunS.q0]) k (by omega)
  rw [show allB (fun _ _ => true) x x = true by simp [allB]] at this
  exact this
theorem eqRecord_self (x : Record) (h : zz tRecord x ≤ 4611686018427387904) : laws_eqRecord.sem (x, x, ()) = some (true, ()) := by
  have hz : zz tRecord x = (0 + (0 + (0 + (zz (.slc tRun) x.2.2.2.1 + 0)))) := rfl
  refine lift_eq (k := 0) fun k _ => (laws_eqRecord.raw_eq k _).trans ?_
  show laws_eqRecord.p _ = _
  unfold laws_eqRecord.p
  have q0 := eqRunS_self x.2.2.2.1 (by omega)
  simp [q0]
def KRunS (x : Run) (k : Int) (y : Run) (k' : Int) : Prop := ∃ (r1 : Int) (y1 : List UInt8), laws_markByteS.sem (x.2.1, k + 1, ()) = some (r1, y1, ()) ∧ k + 1 ≤ r1 ∧ r1 ≤ k + 1 + 32 * ((zz (.slc u8) x.2.1 : Nat) : Int) ∧ y = ((k), y1, x.2.2) ∧ r1 = k'
theorem mkRunS (x : List Run) (k : Int) (h0 : 0 ≤ k) (h1 : k + 32 * ((zz (.slc tRun) x : Nat) : Int) ≤ BIG) : ∃ (k' : Int) (y : List Run), laws_markRunS.sem (x, k, ()) = some (k', y, ()) ∧ k ≤ k' ∧ k' ≤ k + 32 * ((zz (.slc tRun) x : Nat) : Int) := by
  have hB : BIG = 4611686018427387904 := rfl
  have hl : List.length x ≤ zz (.slc tRun) x := zz_len (e := tRun) x
  have hs : sumW (fun x : Run => 32 * (zz tRun x + 1)) x = 32 * zz (.slc tRun) x := sumW_32 (zz tRun) x
  obtain ⟨ys, k', g1, g2, g3, g4, g5⟩ := mark_loop (B := fun self v => laws_markRunS.B0 0 self (fun z => laws_markRunS.Q0 0 (x, k, ()) z) (x, k, ()) v) (xs := x) (by rw [maxLen_val]; omega) KRunS (fun x : Run => 32 * (zz tRun x + 1)) (fun x hx k h0 h1 => by
      have hz : zz tRun x = (0 + (zz (.slc u8) x.2.1 + 0)) := rfl
      obtain ⟨r1, y1, e1, g1, i1⟩ := mkByteS x.2.1 (k + 1) (by omega) (by omega)
      exact ⟨_, _, by omega, by omega, ⟨r1, y1, e1, g1, i1, rfl, rfl⟩⟩) (fun i acc k self x y k' hi hx h0 h1 h2 h3 hE => by
      have hz : zz tRun x = (0 + (zz (.slc u8) x.2.1 + 0)) := rfl
      obtain ⟨r1, y1, e1, g1, i1, rfl, rfl⟩ := hE
      show laws_markRunS.b0 _ _ _ _ = _
      unfold laws_markRunS.b0
      have hlt : (i : Int) < (acc.length : Int) := by omega
      simp (disch := omega) only [hlt, decide_true, cond_true, Int.natCast_nonneg, and_self, if_true, Int.toNat_natCast, hx, Option.bind_some, List.length_set, get_self_set, List.set_set, w64_in, e1]) (fun acc k self => by
      show laws_markRunS.b0 _ _ _ _ = _
      unfold laws_markRunS.b0
      simp [laws_markRunS.Q0, laws_markRunS.q0]) k h0 (by rw [hs]; omega)
  refine ⟨k', ys, lift_eq (k := x.length + 1) fun f hf => (laws_markRunS.raw_eq f _).trans (g5 f (by omega)), g1, by rw [hs] at g2; omega⟩
theorem szRecordS_eq (x : List Record) (n : Int) (hx : okD (.slc tRecord) x) (h0 : 0 ≤ n) (h1 : n ≤ 1048576) : laws_szRecordS.sem (x, n, ()) = some (lft n (zz (.slc tRecord) x), ()) := by
  obtain ⟨hl, hel⟩ := hx
  have hl' := hl
  rw [maxLen_val] at hl'
  have hl' : List.length x ≤ 9223372036854775807 := hl'
  have hw : w64 (n - (List.length x : Int)) = n - (List.length x : Int) := w64_in (by omega)
  have hz : zz (.slc tRecord) x = List.length x + sumW (zz tRecord) x := rfl
  by_cases hc : n - (List.length x : Int) < 0
  · have e1 : lft n (zz (.slc tRecord) x) = -1 := if_neg (by omega)
    rw [e1]
    refine lift_eq (k := 0) fun k _ => (laws_szRecordS.raw_eq k _).trans ?_
    unfold laws_szRecordS.raw laws_szRecordS.p
    simp only [hw, hc, decide_true, cond_true]
    rfl
  · have e1 : lft n (zz (.slc tRecord) x) = lft (n - (List.length x : Int)) (sumW (zz tRecord) x) := by rw [hz, lft_add (by omega)]
    rw [e1]
    refine lift_eq (k := List.length x + 1) fun k hk => (laws_szRecordS.raw_eq k _).trans ?_
    unfold laws_szRecordS.raw laws_szRecordS.p
    simp only [hw, hc, decide_false, cond_false]
    exact sz_loop (B := fun self v => laws_szRecordS.B0 0 self (fun z => laws_szRecordS.Q0 0 (x, n, ()) z) (x, n, ()) v) (xs := x) hl (zz tRecord) (fun i hi m self hm0 hm1 => by
        show laws_szRecordS.b0 _ _ _ _ = _
        unfold laws_szRecordS.b0
        have hlt : (i : Int) < (List.length x : Int) := by omega
        simp only [hlt, decide_true, cond_true, Int.natCast_nonneg, if_true, Int.toNat_natCast, List.getElem?_eq_getElem hi, Option.bind_some, szRecord_eq x[i] m (hel _ (List.getElem_mem hi)) hm0 hm1]
        by_cases hs : lft m (zz tRecord x[i]) < 0 <;> simp [hs]) (fun m self => by
        show laws_szRecordS.b0 _ _ _ _ = _
        unfold laws_szRecordS.b0
        simp [laws_szRecordS.Q0, laws_szRecordS.q0]) _ (by omega) (by omega) k (by omega)
theorem toRecordS_eq (x : List Record) (h : zz (.slc tRecord) x ≤ 1048576) : laws_toRecordS.sem (x, ()) = some (x, ()) := by
  have hl : x.length ≤ 1048576 := Nat.le_trans (zz_len (e := tRecord) x) h
  refine lift_eq (k := x.length + 1) fun k hk => (laws_toRecordS.raw_eq k _).trans ?_
  unfold laws_toRecordS.raw laws_toRecordS.p
  have hc : 0 ≤ (x.length : Int) ∧ (x.length : Int) ≤ (x.length : Int) ∧ (x.length : Int) ≤ (CAP : Int) := by simp only [CAP]; omega
  simp only [hc, and_self, if_true, Int.toNat_natCast]
  exact copy_loop (B := fun self v => laws_toRecordS.B0 k self (fun z => laws_toRecordS.Q0 k (x, ()) z) (x, ()) v) (xs := x) (by rw [maxLen_val]; omega) (fun i hi acc self ha => by
    show laws_toRecordS.b0 _ _ _ _ = _
    unfold laws_toRecordS.b0
    have hlt : (i : Int) < (x.length : Int) := by omega
    have hlt2 : (i : Int) < (acc.length : Int) := by omega
    simp only [hlt, hlt2, decide_true, cond_true, Int.natCast_nonneg, and_self, if_true, Int.toNat_natCast, List.getElem?_eq_getElem hi, List.getElem?_eq_getElem (show i < acc.length by omega), Option.bind_some, toRecord_eq x[i] (by have := zz_mem (e := tRecord) (List.getElem_mem hi); omega)]) (fun acc self => by
    show laws_toRecordS.b0 _ _ _ _ = _
    unfold laws_toRecordS.b0
    simp [laws_toRecordS.Q0, laws_toRecordS.q0]) _ k (by omega)
theorem eqEdit_self (x : Run) (h : zz tRun x ≤ 4611686018427387904) : laws_eqEdit.sem (x, x, ()) = some (true, ()) := by
  have hz : zz tRun x = (0 + (zz (.slc u8) x.2.1 + 0)) := rfl
  refine lift_eq (k := 0) fun k _ => (laws_eqEdit.raw_eq k _).trans ?_
  show laws_eqEdit.p _ = _
  unfold laws_eqEdit.p
  have q0 := eqByteS_self x.2.1 (by omega)
  simp [q0]
theorem eqEditS_self (x : List Run) (h : zz (.slc tRun) x ≤ 4611686018427387904) : laws_eqEditS.sem (x, x, ()) = some (true, ()) := by
  have hl : x.length ≤ 4611686018427387904 := Nat.le_trans (zz_len (e := tRun) x) h
  refine lift_eq (k := x.length + 1) fun k hk => (laws_eqEditS.raw_eq k _).trans ?_
  unfold laws_eqEditS.raw laws_eqEditS.p
  simp only [decide_true, Bool.not_true, cond_false]
  have := all_loop (B := fun self v => laws_eqEditS.B0 k self (fun z => laws_eqEditS.Q0 k (x, x, ()) z) (x, x, ()) v) (xs := x) (ys := x) (fun _ _ => true) rfl (by rw [maxLen_val]; omega) (fun i hi hj self => by
      show laws_eqEditS.b0 _ _ _ _ = _
      unfold laws_eqEditS.b0
      have hlt : (i : Int) < (x.length : Int) := by omega
      simp only [hlt, decide_true, cond_true, Int.natCast_nonneg, if_true, Int.toNat_natCast, List.getElem?_eq_getElem hi, Option.bind_some, Bool.not_true, cond_false, eqEdit_self x[i] (by have := zz_mem (e := tRun) (List.getElem_mem hi); omega)]) (fun self => by
      show laws_eqEditS.b0 _ _ _ _ = _
      unfold laws_eqEditS.b0
      simp [laws_eqEditS.Q0, laws_eqEditS.q0]) k (by omega)
  rw [show allB (fun _ _ => true) x x = true by simp [allB]] at this
  exact this
theorem eqEditsResult_self (x : EditsResult) (h : zz tEditsResult x ≤ 4611686018427387904) : laws_eqEditsResult.sem (x, x, ()) = some (true, ()) := by
  have hz : zz tEditsResult x = (0 + (zz (.slc tRun) x.2.1 + (zz (.slc (.slc u8)) x.2.2.1 + 0))) := rfl
  refine lift_eq (k := 0) fun k _ => (laws_eqEditsResult.raw_eq k _).trans ?_
  show laws_eqEditsResult.p _ = _
  unfold laws_eqEditsResult.p
  have q0 := eqEditS_self x.2.1 (by omega)
  have q1 := eqByteSS_self x.2.2.1 (by omega)
  simp [q0, q1]
theorem eqRecordS_self (x : List Record) (h : zz (.slc tRecord) x ≤ 4611686018427387904) : laws_eqRecordS.sem (x, x, ()) = some (true, ()) := by
  have hl : x.length ≤ 4611686018427387904 := Nat.le_trans (zz_len (e := tRecord) x) h
  refine lift_eq (k := x.length + 1) fun k hk => (laws_eqRecordS.raw_eq k _).trans ?_
  unfold laws_eqRecordS.raw laws_eqRecordS.p
  simp only [decide_true, Bool.not_true, cond_false]
  have := all_loop (B := fun self v => laws_eqRecordS.B0 k self (fun z => laws_eqRecordS.Q0 k (x, x, ()) z) (x, x, ()) v) (xs := x) (ys := x) (fun _ _ => true) rfl (by rw [maxLen_val]; omega) (fun i hi hj self => by
      show laws_eqRecordS.b0 _ _ _ _ = _
      unfold laws_eqRecordS.b0
      have hlt : (i : Int) < (x.length : Int) := by omega
      simp only [hlt, decide_true, cond_true, Int.natCast_nonneg, if_true, Int.toNat_natCast, List.getElem?_eq_getElem hi, Option.bind_some, Bool.not_true, cond_false, eqRecord_self x[i] (by have := zz_mem (e := tRecord) (List.getElem_mem hi); omega)]) (fun self => by
      show laws_eqRecordS.b0 _ _ _ _ = _
      unfold laws_eqRecordS.b0
      simp [laws_eqRecordS.Q0, laws_eqRecordS.q0]) k (by omega)
  rw [show allB (fun _ _ => true) x x = true by simp [allB]] at this
  exact this
def KRecordS (x : Record) (k : Int) (y : Record) (k' : Int) : Prop := ∃ (r1 : Int) (y1 : List Run), laws_markRunS.sem (x.2.2.2.1, k + 1 + 1 + 1, ()) = some (r1, y1, ()) ∧ k + 1 + 1 + 1 ≤ r1 ∧ r1 ≤ k + 1 + 1 + 1 + 32 * ((zz (.slc tRun) x.2.2.2.1 : Nat) : Int) ∧ y = ((k), (k + 1), (k + 1 + 1), y1, x.2.2.2.2) ∧ r1 = k'
theorem mkRecordS (x : List Record) (k : Int) (h0 : 0 ≤ k) (h1 : k + 32 * ((zz (.slc tRecord) x : Nat) : Int) ≤ BIG) : ∃ (k' : Int) (y : List Record), laws_markRecordS.sem (x, k, ()) = some (k', y, ()) ∧ k ≤ k' ∧ k' ≤ k + 32 * ((zz (.slc tRecord) x : Nat) : Int) := by
  have hB : BIG = 4611686018427387904 := rfl
  have hl : List.length x ≤ zz (.slc tRecord) x := zz_len (e := tRecord) x
  have hs : sumW (fun x : Record => 32 * (zz tRecord x + 1)) x = 32 * zz (.slc tRecord) x := sumW_32 (zz tRecord) x
  obtain ⟨ys, k', g1, g2, g3, g4, g5⟩ := mark_loop (B := fun self v => laws_markRecordS.B0 0 self (fun z => laws_markRecordS.Q0 0 (x, k, ()) z) (x, k, ()) v) (xs := x) (by rw [maxLen_val]; omega) KRecordS (fun x : Record => 32 * (zz tRecord x + 1)) (fun x hx k h0 h1 => by
      have hz : zz tRecord x = (0 + (0 + (0 + (zz (.slc tRun) x.2.2.2.1 + 0)))) := rfl
      obtain ⟨r1, y1, e1, g1, i1⟩ := mkRunS x.2.2.2.1 (k + 1 + 1 + 1) (by omega) (by omega)
      exact ⟨_, _, by omega, by omega, ⟨r1, y1, e1, g1, i1, rfl, rfl⟩⟩) (fun i acc k self x y k' hi hx h0 h1 h2 h3 hE => by
      have hz : zz tRecord x = (0 + (0 + (0 + (zz (.slc tRun) x.2.2.2.1 + 0)))) := rfl
      obtain ⟨r1, y1, e1, g1, i1, rfl, rfl⟩ := hE
      show laws_markRecordS.b0 _ _ _ _ = _
      unfold laws_markRecordS.b0
      have hlt : (i : Int) < (acc.length : Int) := by omega
      simp (disch := omega) only [hlt, decide_true, cond_true, Int.natCast_nonneg, and_self, if_true, Int.toNat_natCast, hx, Option.bind_some, List.length_set, get_self_set, List.set_set, w64_in, e1]) (fun acc k self => by
      show laws_markRecordS.b0 _ _ _ _ = _
      unfold laws_markRecordS.b0
      simp [laws_markRecordS.Q0, laws_markRecordS.q0]) k h0 (by rw [hs]; omega)
  refine ⟨k', ys, lift_eq (k := x.length + 1) fun f hf => (laws_markRecordS.raw_eq f _).trans (g5 f (by omega)), g1, by rw [hs] at g2; omega⟩
def KEditS (x : Run) (k : Int) (y : Run) (k' : Int) : Prop := ∃ (r1 : Int) (y1 : List UInt8), laws_markByteS.sem (x.2.1, k + 1, ()) = some (r1, y1, ()) ∧ k + 1 ≤ r1 ∧ r1 ≤ k + 1 + 32 * ((zz (.slc u8) x.2.1 : Nat) : Int) ∧ y = ((k), y1, x.2.2) ∧ r1 = k'
theorem mkEditS (x : List Run) (k : Int) (h0 : 0 ≤ k) (h1 : k + 32 * ((zz (.slc tRun) x : Nat) : Int) ≤ BIG) : ∃ (k' : Int) (y : List Run), laws_markEditS.sem (x, k, ()) = some (k', y, ()) ∧ k ≤ k' ∧ k' ≤ k + 32 * ((zz (.slc tRun) x : Nat) : Int) := by
  have hB : BIG = 4611686018427387904 := rfl
  have hl : List.length x ≤ zz (.slc tRun) x := zz_len (e := tRun) x
  have hs : sumW (fun x : Run => 32 * (zz tRun x + 1)) x = 32 * zz (.slc tRun) x := sumW_32 (zz tRun) x
  obtain ⟨ys, k', g1, g2, g3, g4, g5⟩ := mark_loop (B := fun self v => laws_markEditS.B0 0 self (fun z => laws_markEditS.Q0 0 (x, k, ()) z) (x, k, ()) v) (xs := x) (by rw [maxLen_val]; omega) KEditS (fun x : Run => 32 * (zz tRun x + 1)) (fun x hx k h0 h1 => by
      have hz : zz tRun x = (0 + (zz (.slc u8) x.2.1 + 0)) := rfl
      obtain ⟨r1, y1, e1, g1, i1⟩ := mkByteS x.2.1 (k + 1) (by omega) (by omega)
      exact ⟨_, _, by omega, by omega, ⟨r1, y1, e1, g1, i1, rfl, rfl⟩⟩) (fun i acc k self x y k' hi hx h0 h1 h2 h3 hE => by
      have hz : zz tRun x = (0 + (zz (.slc u8) x.2.1 + 0)) := rfl
      obtain ⟨r1, y1, e1, g1, i1, rfl, rfl⟩ := hE
      show laws_markEditS.b0 _ _ _ _ = _
      unfold laws_markEditS.b0
      have hlt : (i : Int) < (acc.length : Int) := by omega
      simp (disch := omega) only [hlt, decide_true, cond_true, Int.natCast_nonneg, and_self, if_true, Int.toNat_natCast, hx, Option.bind_some, List.length_set, get_self_set, List.set_set, w64_in, e1]) (fun acc k self => by
      show laws_markEditS.b0 _ _ _ _ = _
      unfold laws_markEditS.b0
      simp [laws_markEditS.Q0, laws_markEditS.q0]) k h0 (by rw [hs]; omega)
  refine ⟨k', ys, lift_eq (k := x.length + 1) fun f hf => (laws_markEditS.raw_eq f _).trans (g5 f (by omega)), g1, by rw [hs] at g2; omega⟩
theorem mkEditsResult (x : EditsResult) (k : Int) (h0 : 0 ≤ k) (h1 : k + 32 * ((zz tEditsResult x : Nat) : Int) ≤ BIG) : ∃ (k' : Int) (y : EditsResult), laws_markEditsResult.sem (x, k, ()) = some (k', y, ()) ∧ k ≤ k' ∧ k' ≤ k + 32 * ((zz tEditsResult x : Nat) : Int) := by
  have hB : BIG = 4611686018427387904 := rfl
  have hz : zz tEditsResult x = (0 + (zz (.slc tRun) x.2.1 + (zz (.slc (.slc u8)) x.2.2.1 + 0))) := rfl
  obtain ⟨k1, y1, e1, g1, i1⟩ := mkEditS x.2.1 k (by omega) (by omega)
  have n1 : ¬ k1 < 0 := by omega
  obtain ⟨k2, y2, e2, g2, i2⟩ := mkByteSS x.2.2.1 k1 (by omega) (by omega)
  have n2 : ¬ k2 < 0 := by omega
  refine ⟨k2, (x.1, y1, y2, x.2.2.2), lift_eq (k := 0) fun f _ => (laws_markEditsResult.raw_eq f _).trans ?_, by omega, by omega⟩
  · show laws_markEditsResult.p _ = _
    unfold laws_markEditsResult.p
    simp only [e1, e2, Option.bind_some]
def EEditS (x : Run) (k : Int) (y : Run) (k' : Int) : Prop := ∃ (r1 : Int) (y1 : List UInt8), laws_markByteS.sem (x.2.1, k + 1, ()) = some (r1, y1, ()) ∧ laws_heldByteS.sem (y1, k + 1, ()) = some (r1, ()) ∧ k + 1 ≤ r1 ∧ r1 ≤ k + 1 + 32 * ((zz (.slc u8) x.2.1 : Nat) : Int) ∧ y = ((k), y1, x.2.2) ∧ r1 = k'
theorem mhEditS (x : List Run) (k : Int) (h0 : 0 ≤ k) (h1 : k + 32 * ((zz (.slc tRun) x : Nat) : Int) ≤ BIG) : ∃ (k' : Int) (y : List Run), laws_markEditS.sem (x, k, ()) = some (k', y, ()) ∧ laws_heldEditS.sem (y, k, ()) = some (k', ()) ∧ k ≤ k' ∧ k' ≤ k + 32 * ((zz (.slc tRun) x : Nat) : Int) := by
  have hB : BIG = 4611686018427387904 := rfl
  have hl : List.length x ≤ zz (.slc tRun) x := zz_len (e := tRun) x
  have hs : sumW (fun x : Run => 32 * (zz tRun x + 1)) x = 32 * zz (.slc tRun) x := sumW_32 (zz tRun) x
  obtain ⟨ys, k', g1, g2, g3, g4, g5⟩ := mark_loop (B := fun self v => laws_markEditS.B0 0 self (fun z => laws_markEditS.Q0 0 (x, k, ()) z) (x, k, ()) v) (xs := x) (by rw [maxLen_val]; omega) EEditS (fun x : Run => 32 * (zz tRun x + 1)) (fun x hx k h0 h1 => by
      have hz : zz tRun x = (0 + (zz (.slc u8) x.2.1 + 0)) := rfl
      obtain ⟨r1, y1, e1, f1, g1, i1⟩ := mhByteS x.2.1 (k + 1) (by omega) (by omega)
      exact ⟨_, _, by omega, by omega, ⟨r1, y1, e1, f1, g1, i1, rfl, rfl⟩⟩) (fun i acc k self x y k' hi hx h0 h1 h2 h3 hE => by
      have hz : zz tRun x = (0 + (zz (.slc u8) x.2.1 + 0)) := rfl
      obtain ⟨r1, y1, e1, f1, g1, i1, rfl, rfl⟩ := hE
      show laws_markEditS.b0 _ _ _ _ = _
      unfold laws_markEditS.b0
      have hlt : (i : Int) < (acc.length : Int) := by omega
      simp (disch := omega) only [hlt, decide_true, cond_true, Int.natCast_nonneg, and_self, if_true, Int.toNat_natCast, hx, Option.bind_some, List.length_set, get_self_set, List.set_set, w64_in, e1]) (fun acc k self => by
      show laws_markEditS.b0 _ _ _ _ = _
      unfold laws_markEditS.b0
      simp [laws_markEditS.Q0, laws_markEditS.q0]) k h0 (by rw [hs]; omega)
  refine ⟨k', ys, lift_eq (k := x.length + 1) fun f hf => (laws_markEditS.raw_eq f _).trans (g5 f (by omega)), ?_, g1, by rw [hs] at g2; omega⟩
  refine lift_eq (k := ys.length + 1) fun f hf => (laws_heldEditS.raw_eq f _).trans ?_
  exact held_loop (B := fun self v => laws_heldEditS.B0 0 self (fun z => laws_heldEditS.Q0 0 (ys, k, ()) z) (ys, k, ()) v) (by rw [maxLen_val]; omega) g4 (fun i k self x y k' hi hx h0 h1 h2 h3 hE => by
      have hz : zz tRun x = (0 + (zz (.slc u8) x.2.1 + 0)) := rfl
      obtain ⟨r1, y1, e1, f1, g1, i1, rfl, rfl⟩ := hE
      show laws_heldEditS.b0 _ _ _ _ = _
      unfold laws_heldEditS.b0
      have hlt : (i : Int) < (ys.length : Int) := by omega
      have n1 : ¬ r1 < 0 := by omega
      simp (disch := omega) only [hlt, decide_true, cond_true, Int.natCast_nonneg, and_self, if_true, Int.toNat_natCast, hx, Option.bind_some, w64_in, beq_self_eq_true, Bool.not_true, cond_false, decide_false, f1, n1]) (fun k self => by
      show laws_heldEditS.b0 _ _ _ _ = _
      unfold laws_heldEditS.b0
      simp [laws_heldEditS.Q0, laws_heldEditS.q0]) f (by omega)
theorem mhEditsResult (x : EditsResult) (k : Int) (h0 : 0 ≤ k) (h1 : k + 32 * ((zz tEditsResult x : Nat) : Int) ≤ BIG) : ∃ (k' : Int) (y : EditsResult), laws_markEditsResult.sem (x, k, ()) = some (k', y, ()) ∧ laws_heldEditsResult.sem (y, k, ()) = some (k', ()) ∧ k ≤ k' ∧ k' ≤ k + 32 * ((zz tEditsResult x : Nat) : Int) := by
  have hB : BIG = 4611686018427387904 := rfl
  have hz : zz tEditsResult x = (0 + (zz (.slc tRun) x.2.1 + (zz (.slc (.slc u8)) x.2.2.1 + 0))) := rfl
  obtain ⟨k1, y1, e1, f1, g1, i1⟩ := mhEditS x.2.1 k (by omega) (by omega)
  have n1 : ¬ k1 < 0 := by omega
  obtain ⟨k2, y2, e2, f2, g2, i2⟩ := mhByteSS x.2.2.1 k1 (by omega) (by omega)
  have n2 : ¬ k2 < 0 := by omega
  refine ⟨k2, (x.1, y1, y2, x.2.2.2), lift_eq (k := 0) fun f _ => (laws_markEditsResult.raw_eq f _).trans ?_, lift_eq (k := 0) fun f _ => (laws_heldEditsResult.raw_eq f _).trans ?_, by omega, by omega⟩
  · show laws_markEditsResult.p _ = _
    unfold laws_markEditsResult.p
    simp only [e1, e2, Option.bind_some]
  · show laws_heldEditsResult.p _ = _
    unfold laws_heldEditsResult.p
    simp only [f1, f2, n1, n2, Option.bind_some, decide_false, cond_false]
end OT
