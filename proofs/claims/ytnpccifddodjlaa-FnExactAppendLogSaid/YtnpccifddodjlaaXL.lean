/- Records read: the program's way and the reference's way give the same; conditions on the lengths alone. -/
import Derived.Test.YtnpccifddodjlaaXK
set_option linter.unusedVariables false
set_option linter.unusedSimpArgs false
namespace OT
open Go

def at8 (D : List UInt8) (i : Nat) : Nat := (D.getD i 0).toNat
theorem at8_lt (D : List UInt8) (i : Nat) : at8 D i < 256 := UInt8.toNat_lt _
theorem at8_get {D : List UInt8} {i : Nat} (h : i < D.length) : D[i]? = some D[i] ∧ (D[i]).toNat = at8 D i := ⟨List.getElem?_eq_getElem h, by simp [at8, h]⟩
def piece (D : List UInt8) (at' n : Nat) : Run := ((at8 D at' : Int), (D.take (at' + 2 + n)).drop (at' + 2), ())

/-- The runs from a place on, as the program reads them. -/
def pI (D : List UInt8) (e : Nat) : Nat → Nat → List Run → Option (List Run × Nat)
  | 0, a, rs => some (rs, a)
  | c + 1, a, rs => if e < a + 2 then none else if e < a + 2 + at8 D (a + 1) then none else pI D e c (a + 2 + at8 D (a + 1)) (rs ++ [piece D a (at8 D (a + 1))])
/-- The runs from a place on, as the reference reads them. -/
def pS (D : List UInt8) : Nat → Nat → List Run → List Run
  | 0, _, rs => rs
  | c + 1, a, rs => if a + 2 ≤ D.length then (if D.length < a + 2 + at8 D (a + 1) then rs else pS D c (a + 2 + at8 D (a + 1)) (rs ++ [piece D a (at8 D (a + 1))])) else rs

theorem pI_pS {D : List UInt8} {e : Nat} (he : e ≤ D.length) : ∀ (c a : Nat) (rs rs' : List Run) (a' : Nat), pI D e c a rs = some (rs', a') → pS D c a rs = rs'
  | 0, a, rs, rs', a', h => by injection h with h; injection h
  | c + 1, a, rs, rs', a', h => by
    simp only [pI] at h
    split at h
    · cases h
    · split at h
      · cases h
      · simp only [pS]
        rw [if_pos (by omega), if_neg (by omega)]
        exact pI_pS he c _ _ _ _ h

theorem pI_pack {e : Nat} : ∀ (ys : List Run) (pre suf : List UInt8) (rs : List Run), (∀ y ∈ ys, 0 ≤ y.1 ∧ y.1 ≤ 63 ∧ 1 ≤ bl y ∧ bl y ≤ 64) → pre.length + (flatR ys).length ≤ e →
    pI (pre ++ flatR ys ++ suf) e ys.length pre.length rs = some (rs ++ ys, pre.length + (flatR ys).length)
  | [], pre, suf, rs, _, _ => by simp [pI, flatR]
  | y :: ys, pre, suf, rs, h, he => by
    obtain ⟨b1, b2, b3, b4⟩ := h y (by simp)
    unfold bl at b3 b4
    have hD : pre ++ flatR (y :: ys) ++ suf = (pre ++ flat1 y) ++ flatR ys ++ suf := by rw [flatR_cons]; simp only [List.append_assoc]
    have hf1 : (flat1 y).length = 2 + List.length y.2.1 := by simp only [flat1, List.length_cons]; omega
    have hfl : (flatR (y :: ys)).length = 2 + List.length y.2.1 + (flatR ys).length := by rw [flatR_cons, List.length_append, hf1]
    have h8 : ∀ n : Int, 0 ≤ n → n ≤ 64 → ((UInt8.ofInt n).toNat : Int) = n := fun n h1 h2 => by
      simp [UInt8.ofInt, BitVec.toNat_ofInt]; omega
    have g0 : (at8 (pre ++ flatR (y :: ys) ++ suf) pre.length : Int) = y.1 := by
      unfold at8
      rw [flatR_cons]
      simp only [flat1, List.append_assoc, List.getD_eq_getElem?_getD]
      rw [List.getElem?_append_right (Nat.le_refl _)]
      simpa using h8 y.1 b1 (by omega)
    have g1 : at8 (pre ++ flatR (y :: ys) ++ suf) (pre.length + 1) = List.length y.2.1 := by
      unfold at8
      rw [flatR_cons]
      simp only [flat1, List.append_assoc, List.getD_eq_getElem?_getD]
      rw [List.getElem?_append_right (by omega)]
      have := h8 (List.length y.2.1 : Int) (by omega) b4
      simp only [Nat.add_sub_cancel_left, List.cons_append, List.getElem?_cons_succ, List.getElem?_cons_zero, Option.getD_some]
      omega
    have g2 : piece (pre ++ flatR (y :: ys) ++ suf) pre.length (List.length y.2.1) = y := by
      obtain ⟨yi, yb, ⟨⟩⟩ := y
      unfold piece
      have g0 : (at8 (pre ++ flatR ((yi, yb, ()) :: ys) ++ suf) pre.length : Int) = yi := g0
      rw [g0]
      have : ((pre ++ flatR ((yi, yb, ()) :: ys) ++ suf).take (pre.length + 2 + yb.length)).drop (pre.length + 2) = yb := by
        rw [flatR_cons]
        simp only [flat1, List.append_assoc, List.cons_append]
        rw [List.take_append, List.drop_append]
        have e1 : List.take (pre.length + 2 + yb.length) pre = pre := List.take_of_length_le (by omega)
        have e2 : pre.length + 2 + yb.length - pre.length = yb.length + 1 + 1 := by omega
        rw [e1, e2]
        have e3 : List.drop (pre.length + 2) pre = [] := List.drop_of_length_le (by omega)
        have e4 : pre.length + 2 - pre.length = 1 + 1 := by omega
        rw [e3, e4]
        simp
      show (yi, ((pre ++ flatR ((yi, yb, ()) :: ys) ++ suf).take (pre.length + 2 + yb.length)).drop (pre.length + 2), ()) = (yi, yb, ())
      rw [this]
    simp only [List.length_cons, pI]
    rw [if_neg (by omega), g1, if_neg (by omega), g2, hD]
    have hl : (pre ++ flat1 y).length = pre.length + 2 + List.length y.2.1 := by rw [List.length_append, hf1]; omega
    have := pI_pack (e := e) ys (pre ++ flat1 y) suf (rs ++ [y]) (fun z hz => h z (by simp [hz])) (by rw [hl]; omega)
    rw [hl] at this
    rw [this, hfl]
    simp only [List.append_assoc, List.cons_append, List.nil_append]
    congr 2
    omega

/-- The record at the beginning of bytes, and how many bytes it has. -/
def readF (d : List UInt8) : Option (Record × Nat) :=
  if d.length < 7 ∨ at8 d 0 < 7 ∨ d.length < at8 d 0 then none else
  match pI (d.take (at8 d 0)) (at8 d 0 - 2) (at8 d 4) 5 [] with
  | none => none
  | some (rs, a) => if a = at8 d 0 - 2 ∧ recF ((at8 d 1 : Int), (at8 d 2 : Int), (at8 d 3 : Int), rs, ()) = 0 ∧ packF ((at8 d 1 : Int), (at8 d 2 : Int), (at8 d 3 : Int), rs, ()) = d.take (at8 d 0) then
      some (((at8 d 1 : Int), (at8 d 2 : Int), (at8 d 3 : Int), rs, ()), at8 d 0) else none

theorem at8_take {d : List UInt8} {n i : Nat} (h : i < n) (hn : n ≤ d.length) : at8 (d.take n) i = at8 d i := by
  unfold at8
  simp only [List.getD_eq_getElem?_getD]
  rw [List.getElem?_take, if_pos h]

/-- What is packed is read again. -/
theorem pS_pI {D : List UInt8} (hl : 7 ≤ D.length) {rs : List Run} (hrs : pS D (at8 D 4) 5 [] = rs) {k t p : Int} (hr : recF (k, t, p, rs, ()) = 0) (hp : packF (k, t, p, rs, ()) = D) : pI D (D.length - 2) (at8 D 4) 5 [] = some (rs, D.length - 2) := by
  have hg := recF_good hr
  have h1 := hg.2.2.2.2.2.2.1
  have h2 := hg.2.2.2.2.2.2.2
  simp only at h1 h2
  have hlen := packF_len (k, t, p, rs, ())
  rw [hp] at hlen
  simp only at hlen
  have hshape : ∃ (pre suf : List UInt8), pre.length = 5 ∧ D = pre ++ flatR rs ++ suf ∧ pre[4]? = some (UInt8.ofInt (List.length rs : Int)) := by
    refine ⟨(head5 (k, t, p, rs, ())).set 0 (UInt8.ofInt (w64 (((head5 (k, t, p, rs, ()) ++ flatR rs).length : Int) + 2))), [UInt8.ofInt ((sumP 1 (hdP (k, t, p, rs, ()))) / 256), UInt8.ofInt (sumP 1 (hdP (k, t, p, rs, ())))], by simp [head5], ?_, by simp [head5]⟩
    rw [← hp]
    rfl
  obtain ⟨pre, suf, s1, s2, s3⟩ := hshape
  have h4 : at8 D 4 = List.length rs := by
    unfold at8
    rw [s2]
    simp only [List.getD_eq_getElem?_getD, List.append_assoc]
    rw [List.getElem?_append_left (by omega), s3]
    simp [UInt8.ofInt, BitVec.toNat_ofInt]
    omega
  rw [h4]
  have := pI_pack (e := D.length - 2) rs pre suf [] h2 (by omega)
  rw [← s2, s1] at this
  rw [this]
  simp only [List.nil_append]
  congr 2
  omega

theorem w64_nat {n : Nat} (h : n ≤ 4000000000) : w64 (n : Int) = (n : Int) := w64_in (by omega)
theorem equal_eq (a b : List UInt8) (h : a.length ≤ 100000) : slices_Equal_byte.sem (a, b, ()) = some (decide (a = b), ()) := by
  refine lift_eq (k := 100001) fun k hk => (slices_Equal_byte.raw_eq k _).trans ?_
  unfold slices_Equal_byte.raw slices_Equal_byte.p
  by_cases hl : a.length = b.length
  rotate_left
  · have h1 : ¬ ((a.length : Int) = (b.length : Int)) := by omega
    have h2 : ¬ a = b := fun e => hl (by rw [e])
    simp only [h1, h2, decide_false, Bool.not_false, cond_true]
    rfl
  have hl' : (a.length : Int) = (b.length : Int) := by omega
  simp only [hl', decide_true, Bool.not_true, cond_false]
  have key : ∀ (m i : Nat), a.length - i = m → i ≤ a.length → ∀ j, m < j → rawIter (fun self v => slices_Equal_byte.B0 k self (fun z => slices_Equal_byte.Q0 k (a, b, ()) z) (a, b, ()) v) j (i : Int) = some (decide (a.drop i = b.drop i), ()) := by
    intro m
    induction m with
    | zero =>
      intro i hm hi j hj
      have : i = a.length := by omega
      subst this
      cases j with
      | zero => omega
      | succ j =>
        show slices_Equal_byte.b0 _ _ _ _ = _
        unfold slices_Equal_byte.b0
        simp only [Int.lt_irrefl, decide_false, cond_false, slices_Equal_byte.Q0, slices_Equal_byte.q0]
        rw [List.drop_length, hl, List.drop_length]
        simp
    | succ m ih =>
      intro i hm hi j hj
      have hlt : i < a.length := by omega
      cases j with
      | zero => omega
      | succ j =>
        show slices_Equal_byte.b0 _ _ _ _ = _
        unfold slices_Equal_byte.b0
        have hlti : (i : Int) < (a.length : Int) := by omega
        have hlb : i < b.length := by omega
        have hw : w64 ((i : Int) + 1) = ((i + 1 : Nat) : Int) := by rw [w64_in (by omega)]; omega
        simp only [hlti, decide_true, cond_true, Int.natCast_nonneg, if_true, Int.toNat_natCast, List.getElem?_eq_getElem hlt, List.getElem?_eq_getElem hlb, Option.bind_some, hw]
        rw [List.drop_eq_getElem_cons hlt, List.drop_eq_getElem_cons hlb]
        by_cases he : a[i] = b[i]
        · simp only [he, decide_true, Bool.not_true, cond_false, List.cons.injEq, true_and]
          exact ih (i + 1) (by omega) (by omega) j (by omega)
        · have : ¬ (((a[i]).toNat : Int) = ((b[i]).toNat : Int)) := fun e => he (UInt8.toNat_inj.1 (by omega))
          have h2 : ¬ (a[i] :: a.drop (i + 1) = b[i] :: b.drop (i + 1)) := fun e => he (by injection e)
          simp only [this, h2, decide_false, Bool.not_false, cond_true]
  have := key a.length 0 (by omega) (by omega) k (by omega)
  simp only [List.drop_zero] at this
  exact this

def zeroR : Record := ((0 : Int), (0 : Int), (0 : Int), ([] : List Run), ())

/-- The program's loop. -/
theorem impl_parse {D : List UInt8} (hD : 7 ≤ D.length) (hD2 : D.length ≤ 255) {a1 : impl_read.Arg} {e0 : (Record × Int) → Option impl_read.Out} {K T P N : Int} (hN : 0 ≤ N ∧ N ≤ 255) {k : Nat} :
    ∀ (c a i : Nat) (rs : List Run), (i : Int) + c = N → a ≤ D.length - 2 → rs.length ≤ i → ∀ j, c < j →
      rawIter (fun self v => impl_read.B0 k self e0 a1 D ((D.length - 2 : Nat) : Int) N v) j ((K, T, P, rs, ()), (a : Int), (i : Int)) = match pI D (D.length - 2) c a rs with
        | none => some (zeroR, (0 : Int), ())
        | some (rs', a') => e0 ((K, T, P, rs', ()), (a' : Int)) := by
  intro c
  induction c with
  | zero =>
    intro a i rs hi ha hrs j hj
    cases j with
    | zero => omega
    | succ j =>
      show impl_read.b0 _ _ a1 _ _ _ _ = _
      unfold impl_read.b0
      have : ¬ (i : Int) < N := by omega
      simp only [this, decide_false, cond_false, pI]
  | succ c ih =>
    intro a i rs hi ha hrs j hj
    cases j with
    | zero => omega
    | succ j =>
      show impl_read.b0 _ _ a1 _ _ _ _ = _
      unfold impl_read.b0
      have h1 : (i : Int) < N := by omega
      have e1 : w64 ((a : Int) + 2) = ((a + 2 : Nat) : Int) := by rw [w64_in (by omega)]; omega
      have e2 : w64 ((a : Int) + 1) = ((a + 1 : Nat) : Int) := by rw [w64_in (by omega)]; omega
      have e3 : w64 ((i : Int) + 1) = ((i + 1 : Nat) : Int) := by rw [w64_in (by omega)]; omega
      simp only [h1, decide_true, cond_true, e1, e2, e3, pI]
      by_cases h2 : D.length - 2 < a + 2
      · have : ((D.length - 2 : Nat) : Int) < ((a + 2 : Nat) : Int) := by omega
        simp only [this, decide_true, cond_true, if_pos h2]
        rfl
      have h2' : ¬ ((D.length - 2 : Nat) : Int) < ((a + 2 : Nat) : Int) := by omega
      obtain ⟨g1, g2⟩ := at8_get (show a + 1 < D.length by omega)
      obtain ⟨g3, g4⟩ := at8_get (show a < D.length by omega)
      have hb := at8_lt D (a + 1)
      have hb2 := at8_lt D a
      simp only [h2', decide_false, cond_false, if_neg h2, Int.natCast_nonneg, if_true, Int.toNat_natCast, g1, g3, Option.bind_some, g2, g4, w64_nat (show at8 D (a + 1) ≤ 4000000000 by omega), w64_nat (show at8 D a ≤ 4000000000 by omega)]
      have e4 : w64 (((a + 2 : Nat) : Int) + (at8 D (a + 1) : Int)) = ((a + 2 + at8 D (a + 1) : Nat) : Int) := by rw [w64_in (by omega)]; omega
      have e5 : w64 ((2 : Int) + (at8 D (a + 1) : Int)) = ((2 + at8 D (a + 1) : Nat) : Int) := by rw [w64_in (by omega)]; omega
      have e6 : w64 ((a : Int) + ((2 + at8 D (a + 1) : Nat) : Int)) = ((a + 2 + at8 D (a + 1) : Nat) : Int) := by rw [w64_in (by omega)]; omega
      simp only [e4, e5, e6]
      by_cases h3 : D.length - 2 < a + 2 + at8 D (a + 1)
      · have : ((D.length - 2 : Nat) : Int) < ((a + 2 + at8 D (a + 1) : Nat) : Int) := by omega
        simp only [this, decide_true, cond_true, if_pos h3]
        rfl
      have h3' : ¬ ((D.length - 2 : Nat) : Int) < ((a + 2 + at8 D (a + 1) : Nat) : Int) := by omega
      have h4 : ((a + 2 : Nat) : Int) ≤ ((a + 2 + at8 D (a + 1) : Nat) : Int) ∧ ((a + 2 + at8 D (a + 1) : Nat) : Int) ≤ (D.length : Int) := by omega
      simp only [h3', decide_false, cond_false, if_neg h3, h4, and_self, if_true, Int.toNat_natCast]
      rw [implCopied_eq _ (by simp only [List.length_drop, List.length_take]; omega)]
      have hc : rs.length + [(((at8 D a : Nat) : Int), ((D.take (a + 2 + at8 D (a + 1))).drop (a + 2)), ())].length ≤ CAP := cap_ok (by simp only [List.length_cons, List.length_nil]; omega)
      simp only [Option.bind_some, hc, if_true]
      exact ih (a + 2 + at8 D (a + 1)) (i + 1) _ (by omega) (by omega) (by simp; omega) j (by omega)

/-- The reference's loop. -/
theorem spec_parse {D : List UInt8} (hD : 7 ≤ D.length) (hD2 : D.length ≤ 255) {e0 : Record → Option spec_l4Read.Out} {K T P : Int} {k : Nat} :
    ∀ (c a i : Nat) (rs : List Run), i + c = at8 D 4 → a ≤ 600 → rs.length ≤ i → ∀ j, c < j →
      rawIter (fun self v => spec_l4Read.B0 k self e0 (D, ()) v) j ((K, T, P, rs, ()), (a : Int), (i : Int)) = e0 (K, T, P, pS D c a rs, ()) := by
  intro c
  induction c with
  | zero =>
    intro a i rs hi ha hrs j hj
    cases j with
    | zero => omega
    | succ j =>
      show spec_l4Read.b0 _ _ (D, ()) _ = _
      unfold spec_l4Read.b0
      obtain ⟨g1, g2⟩ := at8_get (show 4 < D.length by omega)
      have hb := at8_lt D 4
      simp only [g1, Option.bind_some, g2, w64_nat (show at8 D 4 ≤ 4000000000 by omega)]
      have : ¬ (i : Int) < (at8 D 4 : Int) := by omega
      simp only [this, decide_false, cond_false, pS]
  | succ c ih =>
    intro a i rs hi ha hrs j hj
    cases j with
    | zero => omega
    | succ j =>
      show spec_l4Read.b0 _ _ (D, ()) _ = _
      unfold spec_l4Read.b0
      obtain ⟨g1, g2⟩ := at8_get (show 4 < D.length by omega)
      have hb4 := at8_lt D 4
      have h1 : (i : Int) < (at8 D 4 : Int) := by omega
      have e1 : w64 ((a : Int) + 2) = ((a + 2 : Nat) : Int) := by rw [w64_in (by omega)]; omega
      have e2 : w64 ((a : Int) + 1) = ((a + 1 : Nat) : Int) := by rw [w64_in (by omega)]; omega
      have e3 : w64 ((i : Int) + 1) = ((i + 1 : Nat) : Int) := by rw [w64_in (by omega)]; omega
      simp only [g1, Option.bind_some, g2, w64_nat (show at8 D 4 ≤ 4000000000 by omega), h1, decide_true, cond_true, e1, e2, e3, pS]
      by_cases h2 : a + 2 ≤ D.length
      rotate_left
      · have : ¬ ((a + 2 : Nat) : Int) ≤ (D.length : Int) := by omega
        simp only [this, decide_false, cond_false, if_neg h2]
      have h2' : ((a + 2 : Nat) : Int) ≤ (D.length : Int) := by omega
      obtain ⟨g5, g6⟩ := at8_get (show a + 1 < D.length by omega)
      obtain ⟨g3, g4⟩ := at8_get (show a < D.length by omega)
      have hb := at8_lt D (a + 1)
      have hb2 := at8_lt D a
      simp only [h2', decide_true, cond_true, if_pos h2, Int.natCast_nonneg, if_true, Int.toNat_natCast, g5, g3, Option.bind_some, g6, g4, w64_nat (show at8 D (a + 1) ≤ 4000000000 by omega), w64_nat (show at8 D a ≤ 4000000000 by omega)]
      have e4 : w64 (((a + 2 : Nat) : Int) + (at8 D (a + 1) : Int)) = ((a + 2 + at8 D (a + 1) : Nat) : Int) := by rw [w64_in (by omega)]; omega
      simp only [e4]
      by_cases h3 : D.length < a + 2 + at8 D (a + 1)
      · have : (D.length : Int) < ((a + 2 + at8 D (a + 1) : Nat) : Int) := by omega
        simp only [this, decide_true, cond_true, if_pos h3]
      have h3' : ¬ (D.length : Int) < ((a + 2 + at8 D (a + 1) : Nat) : Int) := by omega
      have h4 : ((a + 2 : Nat) : Int) ≤ ((a + 2 + at8 D (a + 1) : Nat) : Int) ∧ ((a + 2 + at8 D (a + 1) : Nat) : Int) ≤ (D.length : Int) := by omega
      simp only [h3', decide_false, cond_false, if_neg h3, h4, and_self, if_true, Int.toNat_natCast]
      rw [specCopy_eq _ (by simp only [List.length_drop, List.length_take]; omega)]
      have hc : rs.length + [(((at8 D a : Nat) : Int), ((D.take (a + 2 + at8 D (a + 1))).drop (a + 2)), ())].length ≤ CAP := cap_ok (by simp only [List.length_cons, List.length_nil]; omega)
      simp only [Option.bind_some, hc, if_true]
      exact ih (a + 2 + at8 D (a + 1)) (i + 1) _ (by omega) (by omega) (by simp; omega) j (by omega)

theorem implRead_eq (d : List UInt8) (hd : d.length ≤ 2000000000) : impl_read.sem (d, ()) = some (match readF d with | none => (zeroR, (0 : Int), ()) | some (r, n) => (r, (n : Int), ())) := by
  refine lift_eq (k := 300) fun k hk => (impl_read.raw_eq k _).trans ?_
  unfold impl_read.raw impl_read.p readF
  by_cases h7 : d.length < 7
  · have : (d.length : Int) < 7 := by omega
    simp only [this, decide_true, cond_true, h7, true_or, if_true]
    rfl
  have h7' : ¬ (d.length : Int) < 7 := by omega
  obtain ⟨g1, g2⟩ := at8_get (show 0 < d.length by omega)
  have hb := at8_lt d 0
  simp only [h7', decide_false, cond_false, h7, false_or, g1, Option.bind_some, g2, w64_nat (show at8 d 0 ≤ 4000000000 by omega)]
  by_cases hl : d.length < at8 d 0
  · have : (d.length : Int) < (at8 d 0 : Int) := by omega
    simp only [this, decide_true, cond_true, hl, or_true, if_true]
    rfl
  have hl' : ¬ (d.length : Int) < (at8 d 0 : Int) := by omega
  by_cases hm : at8 d 0 < 7
  · have : (at8 d 0 : Int) < 7 := by omega
    simp only [hl', decide_false, cond_false, this, decide_true, cond_true, hm, true_or, if_true]
    rfl
  have hm' : ¬ (at8 d 0 : Int) < 7 := by omega
  have hin : 0 ≤ (at8 d 0 : Int) ∧ (at8 d 0 : Int) ≤ (d.length : Int) := by omega
  simp only [hl', hm', decide_false, cond_false, hl, hm, or_self, if_false, hin, and_self, if_true, Int.toNat_natCast, List.drop_zero]
  generalize hDD : d.take (at8 d 0) = D
  have hDl : D.length = at8 d 0 := by rw [← hDD]; simp; omega
  have ga : ∀ i, i < at8 d 0 → at8 D i = at8 d i := fun i hi => by rw [← hDD]; exact at8_take hi (by omega)
  obtain ⟨q1, q2⟩ := at8_get (show 1 < D.length by omega)
  obtain ⟨q3, q4⟩ := at8_get (show 2 < D.length by omega)
  obtain ⟨q5, q6⟩ := at8_get (show 3 < D.length by omega)
  obtain ⟨q7, q8⟩ := at8_get (show 4 < D.length by omega)
  have b1 := at8_lt d 1
  have b2 := at8_lt d 2
  have b3 := at8_lt d 3
  have b4 := at8_lt d 4
  have ew : w64 ((D.length : Int) - 2) = ((D.length - 2 : Nat) : Int) := by rw [w64_in (by omega)]; omega
  simp only [q1, q3, q5, q7, Option.bind_some, q2, q4, q6, q8, ga 1 (by omega), ga 2 (by omega), ga 3 (by omega), ga 4 (by omega), ew, w64_nat (show at8 d 1 ≤ 4000000000 by omega), w64_nat (show at8 d 2 ≤ 4000000000 by omega), w64_nat (show at8 d 3 ≤ 4000000000 by omega), w64_nat (show at8 d 4 ≤ 4000000000 by omega)]
  have hp := impl_parse (D := D) (by omega) (by omega) (a1 := (d, ())) (e0 := fun z => impl_read.Q0 k (d, ()) D ((D.length - 2 : Nat) : Int) (at8 d 4 : Int) z) (K := (at8 d 1 : Int)) (T := (at8 d 2 : Int)) (P := (at8 d 3 : Int)) (N := (at8 d 4 : Int)) (by omega) (k := k) (at8 d 4) 5 0 [] (by omega) (by omega) (Nat.le_refl _) k (by omega)
  refine Eq.trans hp ?_
  rw [← hDl]
  cases hpi : pI D (D.length - 2) (at8 d 4) 5 [] with
  | none => rfl
  | some q =>
    obtain ⟨rs, a⟩ := q
    simp only [impl_read.Q0, impl_read.q0]
    by_cases ha : a = D.length - 2
    rotate_left
    · have : ¬ ((a : Int) = ((D.length - 2 : Nat) : Int)) := by omega
      simp only [this, decide_false, Bool.not_false, cond_true, ha, false_and, if_false]
      rfl
    subst ha
    simp only [decide_true, Bool.not_true, cond_false, implRec_eq, Option.bind_some, true_and]
    by_cases hr : recF ((at8 d 1 : Int), (at8 d 2 : Int), (at8 d 3 : Int), rs, ()) = 0
    rotate_left
    · simp only [hr, decide_false, Bool.not_false, cond_true, false_and, if_false]
      rfl
    have hs := small_of hr
    have hpl := packF_small hs
    simp only [hr, decide_true, Bool.not_true, cond_false, implPack_eq _ hs, Option.bind_some, true_and]
    rw [equal_eq _ _ (by omega)]
    by_cases he : packF ((at8 d 1 : Int), (at8 d 2 : Int), (at8 d 3 : Int), rs, ()) = D
    · simp only [he, decide_true, Option.bind_some, Bool.not_true, cond_false, if_true]
      rfl
    · simp only [he, decide_false, Option.bind_some, Bool.not_false, cond_true, if_false]
      rfl

theorem specRead_eq (d : List UInt8) (hd : d.length ≤ 2000000000) : spec_ReadRecord.sem (d, ()) = some (match readF d with | none => (((5 : Int), (0 : Int), zeroR, ()), ()) | some (r, n) => (((0 : Int), (n : Int), r, ()), ())) := by
  refine lift_eq (k := 300) fun k hk => (spec_ReadRecord.raw_eq k _).trans ?_
  show spec_ReadRecord.p _ = _
  unfold spec_ReadRecord.p readF
  by_cases h7 : d.length < 7
  · have : (d.length : Int) < 7 := by omega
    simp only [this, decide_true, cond_true, h7, true_or, if_true]
    rfl
  have h7' : ¬ (d.length : Int) < 7 := by omega
  obtain ⟨g1, g2⟩ := at8_get (show 0 < d.length by omega)
  have hb := at8_lt d 0
  simp only [h7', decide_false, cond_false, h7, false_or, g1, Option.bind_some, g2, w64_nat (show at8 d 0 ≤ 4000000000 by omega)]
  by_cases hm : at8 d 0 < 7
  · have : (at8 d 0 : Int) < 7 := by omega
    simp only [this, decide_true, cond_true, hm, true_or, if_true]
    rfl
  have hm' : ¬ (at8 d 0 : Int) < 7 := by omega
  by_cases hl : d.length < at8 d 0
  · have : (d.length : Int) < (at8 d 0 : Int) := by omega
    simp only [hm', decide_false, cond_false, this, decide_true, cond_true, hl, or_true, if_true]
    rfl
  have hl' : ¬ (d.length : Int) < (at8 d 0 : Int) := by omega
  have hin : 0 ≤ (at8 d 0 : Int) ∧ (at8 d 0 : Int) ≤ (d.length : Int) := by omega
  simp only [hl', hm', decide_false, cond_false, hl, hm, or_self, if_false, hin, and_self, if_true, Int.toNat_natCast, List.drop_zero]
  generalize hDD : d.take (at8 d 0) = D
  have hDl : D.length = at8 d 0 := by rw [← hDD]; simp; omega
  have ga : ∀ i, i < at8 d 0 → at8 D i = at8 d i := fun i hi => by rw [← hDD]; exact at8_take hi (by omega)
  have hread : spec_l4Read.sem (D, ()) = some (((at8 d 1 : Int), (at8 d 2 : Int), (at8 d 3 : Int), pS D (at8 d 4) 5 [], ()), ()) := by
    refine lift_eq (k := 300) fun k hk => (spec_l4Read.raw_eq k _).trans ?_
    unfold spec_l4Read.raw spec_l4Read.p
    obtain ⟨q1, q2⟩ := at8_get (show 1 < D.length by omega)
    obtain ⟨q3, q4⟩ := at8_get (show 2 < D.length by omega)
    obtain ⟨q5, q6⟩ := at8_get (show 3 < D.length by omega)
    have b1 := at8_lt d 1
    have b2 := at8_lt d 2
    have b3 := at8_lt d 3
    have b4 := at8_lt d 4
    simp only [q1, q3, q5, Option.bind_some, q2, q4, q6, ga 1 (by omega), ga 2 (by omega), ga 3 (by omega), w64_nat (show at8 d 1 ≤ 4000000000 by omega), w64_nat (show at8 d 2 ≤ 4000000000 by omega), w64_nat (show at8 d 3 ≤ 4000000000 by omega)]
    have hp := spec_parse (D := D) (by omega) (by omega) (e0 := fun z => spec_l4Read.Q0 k (D, ()) z) (K := (at8 d 1 : Int)) (T := (at8 d 2 : Int)) (P := (at8 d 3 : Int)) (k := k) (at8 D 4) 5 0 [] (by omega) (by omega) (Nat.le_refl _) k (by rw [ga 4 (by omega)]; omega)
    refine Eq.trans hp ?_
    rw [ga 4 (by omega)]
    rfl
  rw [hread]
  simp only [Option.bind_some, specRec_eq]
  rw [← hDl]
  generalize hrs : pS D (at8 d 4) 5 [] = rs
  by_cases hr : recF ((at8 d 1 : Int), (at8 d 2 : Int), (at8 d 3 : Int), rs, ()) = 0
  · have hs := small_of hr
    simp only [hr, decide_true, Bool.not_true, cond_false, specPack_eq _ hs, Option.bind_some]
    by_cases he : packF ((at8 d 1 : Int), (at8 d 2 : Int), (at8 d 3 : Int), rs, ()) = D
    · have h4 : at8 D 4 = at8 d 4 := ga 4 (by omega)
      have hpi := pS_pI (D := D) (by omega) (by rw [h4]; exact hrs) hr he
      rw [h4] at hpi
      rw [hpi]
      simp [he, hr]
    · simp only [he, decide_false, Bool.not_false, cond_true]
      cases hpi : pI D (D.length - 2) (at8 d 4) 5 [] with
      | none => rfl
      | some q =>
        obtain ⟨rs', a'⟩ := q
        have := pI_pS (by omega) _ _ _ _ _ hpi
        rw [hrs] at this
        subst this
        simp only [he, and_false, if_false]
        rfl
  · simp only [hr, decide_false, Bool.not_false, cond_true]
    cases hpi : pI D (D.length - 2) (at8 d 4) 5 [] with
    | none => rfl
    | some q =>
      obtain ⟨rs', a'⟩ := q
      have := pI_pS (by omega) _ _ _ _ _ hpi
      rw [hrs] at this
      subst this
      simp only [hr, false_and, and_false, if_false]
      rfl
end OT
