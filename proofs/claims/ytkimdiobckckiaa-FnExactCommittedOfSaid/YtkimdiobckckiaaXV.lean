/- CommittedOf: the law. -/
import Derived.Test.YtkimdiobckckiaaXT
set_option linter.unusedVariables false
set_option linter.unusedSimpArgs false
namespace OT
open Go

theorem plainF_zero {p : Plain} (h : plainF p = 0) : ∃ t, rowsF p.1 = 0 ∧ List.length p.1 ≤ 12 ∧ txsF p.2.1 = 0 ∧ backL p.1 (backs p.2.1) = some t := by
  unfold plainF at h
  split at h
  · rename_i hr
    split at h
    · rename_i ht
      split at h
      · split at h
        · cases h
        · rename_i hroom
          have hrl : List.length p.1 ≤ 12 := by
            have := rows_room (xs := p.2.1) (rowsF_good hr).1.up
            unfold roomF at hroom
            omega
          cases hb : backL p.1 (backs p.2.1) with
          | none => rw [hb] at h; cases h
          | some t => exact ⟨t, hr, hrl, ht, rfl⟩
      · cases h
    · rename_i hn; exact absurd h hn
  · rename_i hn; exact absurd h hn

def commF (p : Plain) : RowsResult := if plainF p = 0 then (0, (backL p.1 (backs p.2.1)).getD [], ()) else (plainF p, [], ())

theorem specComm_eq (p : Plain) (h : okP p) : spec_CommittedOf.sem (p, ()) = some (commF p, ()) := by
  refine lift_eq (k := 0) fun k _ => (spec_CommittedOf.raw_eq k _).trans ?_
  show spec_CommittedOf.p _ = _
  unfold spec_CommittedOf.p commF
  rw [specFault_eq p h]
  simp only [Option.bind_some]
  by_cases h0 : plainF p = 0
  · obtain ⟨t, h1, h2, h3, h4⟩ := plainF_zero h0
    simp only [h0, decide_true, Bool.not_true, cond_false, if_true]
    rw [specBack_eq p.1 p.2.1 (rowsF_good h1).1 h2 (txs_ok h3), h4]
    rfl
  · simp only [h0, decide_false, Bool.not_false, cond_true, if_false]
theorem implComm_eq (p : Plain) (h : okP p) : impl_CommittedOf.sem (p, ()) = some (commF p, ()) := by
  refine lift_eq (k := 0) fun k _ => (impl_CommittedOf.raw_eq k _).trans ?_
  show impl_CommittedOf.p _ = _
  unfold impl_CommittedOf.p commF
  rw [implPlain_eq p h]
  simp only [Option.bind_some]
  by_cases h0 : plainF p = 0
  · obtain ⟨t, h1, h2, h3, h4⟩ := plainF_zero h0
    simp only [h0, decide_true, Bool.not_true, cond_false, if_true]
    rw [committed_eq p.1 p.2.1 (rowsF_good h1).1 h2 (txs_ok h3) h.2.2, h4]
    rfl
  · simp only [h0, decide_false, Bool.not_false, cond_true, if_false]

theorem backs_len : ∀ (xs : List Tx), (∀ x ∈ xs, List.length x.2.1 ≤ 12) → (backs xs).length ≤ 12 * xs.length
  | [], _ => by simp [backs]
  | x :: xs, h => by
    have h1 := backs_len xs fun y hy => h y (by simp [hy])
    have h2 := h x (by simp)
    have hb : backs (x :: xs) = invF x.2.1 ++ backs xs := by simp [backs]
    rw [hb, List.length_append, inv_len, List.length_cons]
    omega
theorem comm_small (p : Plain) : zz tRowsResult (commF p) ≤ 1048576 := by
  have hz : zz tRowsResult (commF p) = 0 + (zz (.slc tRow) (commF p).2.1 + 0) := rfl
  rw [hz]
  unfold commF
  split
  · rename_i h0
    obtain ⟨t, h1, h2, h3, h4⟩ := plainF_zero h0
    have ho := txs_ok h3
    have hl := backs_len p.2.1 ho.undo
    have h5 := ho.len
    rw [h4]
    have hb := back_good (backs p.2.1) p.1 t (rowsF_good h1).1 (fun c hc => by
      unfold backs at hc
      obtain ⟨x, hx, hxc⟩ := List.mem_flatMap.1 hc
      exact inv_ch (ho.ch x hx) c hxc) h4
    have := good_zz (xs := t) hb.1.ok
    show 0 + (zz (.slc tRow) t + 0) ≤ _
    omega
  · exact Nat.zero_le _

theorem committedOf_true (v : laws_FnExactCommittedOf.Arg) (hv : okA laws_FnExactCommittedOf.ps v) : laws_FnExactCommittedOf.sem v = some (true, ()) := by
  obtain ⟨p, ⟨⟩⟩ := v
  obtain ⟨hx, _⟩ := hv
  refine lift_eq (k := 0) fun k _ => (laws_FnExactCommittedOf.raw_eq k _).trans ?_
  show laws_FnExactCommittedOf.p _ = _
  unfold laws_FnExactCommittedOf.p
  simp only [szPlain_eq p 1048576 hx (by omega) (by omega), Option.bind_some]
  by_cases hz : ((zz tPlain p : Nat) : Int) ≤ 1048576
  rotate_left
  · have : lft 1048576 (zz tPlain p) = -1 := if_neg hz
    simp only [this]
    rfl
  have e1 : lft 1048576 (zz tPlain p) = 1048576 - ((zz tPlain p : Nat) : Int) := if_pos hz
  have n1 : ¬ (1048576 - ((zz tPlain p : Nat) : Int) < 0) := by omega
  have hok : okP p := plain_ok (p := p) hx (by omega)
  have hR := comm_small p
  have hB : BIG = 4611686018427387904 := rfl
  obtain ⟨k', y, a1, a2, a3, a4⟩ := mhRowsResult (commF p) 1 (by omega) (by omega)
  obtain ⟨k2, y2, b1, b3, b4⟩ := mkPlain p 1 (by omega) (by omega)
  simp only [e1, n1, decide_false, cond_false, toPlain_eq p (by omega), specComm_eq p hok, implComm_eq p hok, eqPlain_self p (by omega), eqRowsResult_self (commF p) (by omega), a1, a2, b1, Option.bind_some, Bool.not_true, show ¬ k' < 0 by omega, show ¬ k2 < 0 by omega, decide_true]
end OT
