/- Operations, fourth part: index, len, pieces. -/
import Derived.Test.YtkimdiobckckiaaOTq
set_option linter.unusedVariables false
set_option linter.unusedSimpArgs false
namespace OT
open Go

section
variable {P : Program} {C : Ctx} {A : Cells} {X : FP} {σ : St} {a : Act} {w : World} {F : Nat → FP} {R : Type} {x : R} {Q : Exit → Act → World → Prop} {o : Oper} {E : Env}

theorem bytes_get (s : List UInt8) (n : Nat) : (⟨s.toArray⟩ : ByteArray)[n]? = s[n]? := by
  by_cases h : n < s.length
  · have h1 : n < (⟨s.toArray⟩ : ByteArray).size := by simpa [ByteArray.size] using h
    rw [getElem?_pos _ n h1, List.getElem?_eq_getElem h]
    rfl
  · have h1 : ¬ n < (⟨s.toArray⟩ : ByteArray).size := by simpa [ByteArray.size] using h
    rw [getElem?_neg _ n h1, List.getElem?_eq_none (Nat.le_of_not_lt h)]

theorem take_index (h : Rel0 P C A σ a w F) (hti : ∀ i T, E.TI i = some T → layB P T (.inl i) = true) {t : Nat} {y z : Operand} (ho : o.op = .index t y z) (hok : opdOk P y = true ∧ opdOk P z = true) {K : St → Option R}
    (hk : indexK E σ t (opd σ y) (opd σ z) o.dst K = some x) : Tk P o a w (Nx P C K x) := by
  unfold indexK at hk
  have hk1 := tiK_some hk
  clear hk
  obtain ⟨T, hT, hk2⟩ := hk1
  have hlay := hti _ _ hT
  rcases opd_ok h hok.2 with hz | ⟨xs, e⟩
  rotate_left
  · rw [e] at hk2; cases hk2
  have hk3 := intK_some hz hk2
  clear hk2
  obtain ⟨kz, n, hzv, hk⟩ := hk3
  rcases opd_ok h hok.1 with hs | ⟨xs, e⟩
  rotate_left
  · rw [e] at hk; cases hk
  split at hk
  · rename_i s hv
    rw [hv] at hs
    split at hk
    · rename_i hTe; subst hTe
      split at hk
      · rename_i h0
        obtain ⟨c, hc, hk⟩ := bind_some hk
        obtain ⟨cs, h1, h2⟩ := hs
        simp only [Ro] at h2; subst h2
        have hb := bytes_get s n.toNat
        rw [hc] at hb
        refine tk_val (v := .int .u8 c.toNat) ?_ (fin_flat h hk ⟨[_], rfl, rfl⟩ (fun _ _ _ _ e => by cases e))
        simp [execOp, ho, h1, mkV, isAgg, hzv, Instr.index, asIntOf, run_underlying (lay_str hlay), h0, hb]
      · cases hk
    · cases hk
  · rename_i m e v hv
    rw [hv] at hs
    split at hk
    · rename_i hTe; subst hTe
      split at hk
      · rename_i h0
        obtain ⟨yv, hyv, hk⟩ := bind_some hk
        obtain ⟨cs, h1, h2⟩ := hs
        obtain ⟨q1, q2, q3, q4⟩ := id h2
        obtain ⟨el, hu, _, hle⟩ := lay_arr hlay
        have hlt : n.toNat < m := q2 ▸ (List.getElem?_eq_some_iff.1 hyv).1
        have hlt' : n < (m : Int) := by omega
        have hro := q4 _ _ hyv
        refine tk_val (v := mkV e ((cs.drop (n.toNat * e.sz)).take e.sz)) (fun w' _ => ?_) (fin_flat h hk ⟨_, rfl, hro⟩ (fun _ _ _ _ e => by cases e))
        have hp := run_part (P := P) (w := w') hle (cs := cs.toArray) (off := n.toNat * e.sz) (by simpa using Ro.length _ hro)
        simp only [List.toList_toArray] at hp
        have hsz := run_sizeOf (P := P) (w := w') hle
        simp [execOp, ho, h1, mkV, isAgg, hzv, Instr.index, asIntOf, run_underlying hu, h0, hlt', hsz, hp]
      · cases hk
    · cases hk
  · cases hk

/-- What is known of a slice whose header was read. -/
theorem rep_slc_head {t : Ty} {m : Md} {H : List Path} {e : Ty} {v : List e.den} {cs : List Value} {G : FP} (h : Rep P w A (.slc e) m H v cs G) (hH : hole H = false) :
    ∃ xa cap, cs = [.slice xa (List.length v) cap] ∧ List.length v ≤ cap ∧ (xa = none → List.length v = 0) := by
  simp only [Rep, hH, Bool.false_eq_true, if_false] at h
  split at h
  · obtain ⟨xa, cap, q1, q2, q3, q4, q5⟩ := h
    exact ⟨xa, cap, q1, q2, fun e => by have := q4 e; omega⟩
  · obtain ⟨_, _, xa, cap, q1, q2, q3, q4⟩ := h
    exact ⟨xa, cap, q1, q2, q3⟩

theorem run_len_call {t : Nat} {y : Operand} (ho : o.op = .call { callee := .builtin .len, args := #[y], argTypes := #[t] }) :
    (execOp a.eval o).run P w = ((Builtin.len_ #[t] o.type #[a.eval y]).run P w).andThen fun v w' => .ok (.value v) w' := by
  unfold execOp
  simp only [ho, resolve, invoke, builtin, Sem.run_bind, Sem.run_pure, Result.andThen_ok, List.map_toArray, List.map_cons, List.map_nil]

theorem take_len (h : Rel0 P C A σ a w F) (hti : ∀ i T, E.TI i = some T → layB P T (.inl i) = true) {t : Nat} {y : Operand} (ho : o.op = .call { callee := .builtin .len, args := #[y], argTypes := #[t] }) (hok : opdOk P y = true) {K : St → Option R}
    (hk : lenK E σ t (opd σ y) (fun n => K (σ.putD o.dst (.val (.int .i64) (n : Int)))) = some x) : Tk P o a w (Nx P C K x) := by
  unfold lenK at hk
  obtain ⟨T, hT, hk⟩ := tiK_some hk
  have hlay := hti _ _ hT
  rcases opd_ok h hok with hs | ⟨xs, e⟩
  rotate_left
  · rw [e] at hk; split at hk <;> cases hk
  have fin : ∀ n : Nat, K (σ.putD o.dst (.val (.int .i64) (n : Int))) = some x → Nx P C K x (a.put o.dst (.int .i64 (n : Int))) w := fun n hk => fin_flat h hk ⟨[_], rfl, rfl⟩ (fun _ _ _ _ e => by cases e)
  split at hk
  · split at hk
    · rename_i s hv
      rw [hv] at hs
      obtain ⟨cs, h1, h2⟩ := hs
      simp only [Ro] at h2; subst h2
      refine tk_val (v := .int .i64 (s.length : Int)) (fun w' _ => ?_) (fin _ hk)
      have e : a.eval y = .string ⟨List.toArray s⟩ := h1
      have e2 : (⟨List.toArray s⟩ : ByteArray).size = s.length := rfl
      rw [run_len_call ho, e]
      unfold Builtin.len_
      simp only [List.getElem?_toArray, List.getElem?_cons_zero, Sem.run_bind, run_underlying (lay_str hlay), Result.andThen_ok, Sem.run_pure, goInt, e2]
    · cases hk
  · rename_i e
    obtain ⟨el, hu, _, hle⟩ := lay_slc hlay
    have run : ∀ xa n cap, a.eval y = .slice xa n cap → ∀ w', Same o w w' → (execOp a.eval o).run P w' = .ok (.value (.int .i64 (n : Int))) w' := fun xa n cap hy w' _ => by
      rw [run_len_call ho]
      simp [Builtin.len_, hy, run_underlying hu, goInt]
    split at hk
    · rename_i e' v hv
      rw [hv] at hs
      obtain ⟨cs, h1, xa, cap, h2, _⟩ := hs
      subst h2
      exact tk_val (run xa _ cap h1) (fin _ hk)
    · rename_i hv
      rw [hv] at hs
      exact tk_val (run none 0 0 hs) (fin _ hk)
    · rename_i r p snap hv
      rw [hv] at hs
      split at hk
      · rename_i hsn
        obtain ⟨hr, t', m', H', v', cs', ad', F', h1, h2, h3, h4, h5, h6⟩ := at_ok h hk
        obtain ⟨pl, g1, g2, g3⟩ := hs.2 hsn
        rw [h3] at g1
        injection g1 with g1
        subst g1
        simp only at g2
        split at h1
        · cases h1
        · rename_i hH
          have hH : hole H' = false := Bool.eq_false_iff.2 hH
          split at h1
          · rename_i e' v''
            obtain ⟨xa, cap, q1, q2, q3⟩ := rep_slc_head (t := .unit) h4 hH
            subst q1
            exact tk_val (run xa _ cap g2) (fin _ h1)
          · cases h1
      · cases hk
    · rename_i r p snap lo hi hv
      rw [hv] at hs
      split at hk
      · rename_i hsn
        obtain ⟨pl, e', xa, len, cap, xa', cap', g1, g2, g3, g4, g5, g6, g7, g7', g8, g9, g10⟩ := hs.2 hsn
        exact tk_val (run xa' _ cap' g6) (fin _ hk)
      · cases hk
    · cases hk
  · cases hk

/-- The bounds of a piece. -/
theorem bounds_ok {len cap : Nat} {lo hi : Option Operand} {K : Nat → Nat → Option R} (hcap : len ≤ cap) (hlo : ∀ y, lo = some y → SlotRel P A σ a w (a.eval y) (opd σ y) (fun _ _ => 0)) (hhi : ∀ y, hi = some y → SlotRel P A σ a w (a.eval y) (opd σ y) (fun _ _ => 0))
    (hk : boundsK len (lo.map (opd σ)) (hi.map (opd σ)) K = some x) : ∃ l h, l ≤ h ∧ h ≤ len ∧ K l h = some x ∧ (∀ w', (Instr.sliceBounds true len cap (lo.map a.eval) (hi.map a.eval) none).run P w' = .ok (l, h, cap) w') ∧
      (len = cap → ∀ w', (Instr.sliceBounds false len cap (lo.map a.eval) (hi.map a.eval) none).run P w' = .ok (l, h, cap) w') := by
  have bnd : ∀ (k : IntKind) (i : Int) (y : Nat) code, 0 ≤ i → i ≤ (y : Int) → ∀ w', (Instr.sliceBound (.int k i) y code).run P w' = .ok i.toNat w' := fun k i y code h0 h1 w' => run_sliceBound w' k i y code h0 h1
  have two : ∀ (lo' hi' : Option Value) (l h : Nat), (lo' = none ∧ l = 0 ∨ ∃ k n, lo' = some (.int k n) ∧ 0 ≤ n ∧ n ≤ (h : Int) ∧ l = n.toNat) → (hi' = none ∧ h = len ∨ ∃ k n, hi' = some (.int k n) ∧ 0 ≤ n ∧ n ≤ (len : Int) ∧ h = n.toNat) →
      (∀ w', (Instr.sliceBounds true len cap lo' hi' none).run P w' = .ok (l, h, cap) w') ∧ (len = cap → ∀ w', (Instr.sliceBounds false len cap lo' hi' none).run P w' = .ok (l, h, cap) w') := fun lo' hi' l h h1 h2 => by
    rcases h2 with ⟨rfl, rfl⟩ | ⟨k2, n2, rfl, b1, b2, rfl⟩
    · rcases h1 with ⟨rfl, rfl⟩ | ⟨k1, n1, rfl, a1, a2, rfl⟩
      · exact ⟨by simp [Instr.sliceBounds], fun _ => by simp [Instr.sliceBounds]⟩
      · exact ⟨by simp [Instr.sliceBounds, bnd k1 n1 _ .sliceB a1 a2], fun _ => by simp [Instr.sliceBounds, bnd k1 n1 _ .sliceB a1 a2]⟩
    · have c1 := bnd k2 n2 cap .sliceAcap b1 (by omega)
      have c2 := bnd k2 n2 cap .sliceAlen b1 (by omega)
      rcases h1 with ⟨rfl, rfl⟩ | ⟨k1, n1, rfl, a1, a2, rfl⟩
      · exact ⟨by simp [Instr.sliceBounds, c1], fun e => by subst e; simp [Instr.sliceBounds, c2]⟩
      · have c3 := bnd k1 n1 _ .sliceB a1 a2
        exact ⟨by simp [Instr.sliceBounds, c1, c3], fun e => by subst e; simp [Instr.sliceBounds, c2, c3]⟩
  unfold boundsK at hk
  cases lo with
  | none =>
    cases hi with
    | none =>
      have := two none none 0 len (.inl ⟨rfl, rfl⟩) (.inl ⟨rfl, rfl⟩)
      exact ⟨0, len, Nat.zero_le _, Nat.le_refl _, hk, this.1, this.2⟩
    | some yh =>
      obtain ⟨kh, nh, hv, hk⟩ := intK_some (hhi yh rfl) hk
      split at hk
      · rename_i hc
        have := two none (some (a.eval yh)) 0 nh.toNat (.inl ⟨rfl, rfl⟩) (.inr ⟨kh, nh, by rw [hv], hc.1, hc.2, rfl⟩)
        exact ⟨0, nh.toNat, Nat.zero_le _, by omega, hk, this.1, this.2⟩
      · cases hk
  | some yl =>
    cases hi with
    | none =>
      obtain ⟨kl, nl, hv, hk⟩ := intK_some (hlo yl rfl) hk
      split at hk
      · rename_i hc
        have := two (some (a.eval yl)) none nl.toNat len (.inr ⟨kl, nl, by rw [hv], hc.1, hc.2, rfl⟩) (.inl ⟨rfl, rfl⟩)
        exact ⟨nl.toNat, len, by omega, Nat.le_refl _, hk, this.1, this.2⟩
      · cases hk
    | some yh =>
      obtain ⟨kl, nl, hv, hk⟩ := intK_some (hlo yl rfl) hk
      obtain ⟨kh, nh, hv2, hk⟩ := intK_some (hhi yh rfl) hk
      split at hk
      · rename_i hc
        have := two (some (a.eval yl)) (some (a.eval yh)) nl.toNat nh.toNat (.inr ⟨kl, nl, by rw [hv], hc.1, by omega, rfl⟩) (.inr ⟨kh, nh, by rw [hv2], by omega, hc.2.2, rfl⟩)
        exact ⟨nl.toNat, nh.toNat, by omega, by omega, hk, this.1, this.2⟩
      · cases hk

theorem bytes_extract (s : List UInt8) (l h : Nat) (hl : l ≤ h) (hh : h ≤ s.length) : (⟨s.toArray⟩ : ByteArray).extract l h = ⟨((s.take h).drop l).toArray⟩ := by
  apply ByteArray.ext
  rw [ByteArray.data_extract]
  apply Array.ext'
  simp [List.extract_eq_take_drop]
  rw [List.drop_take]

theorem take_slice (h : Rel0 P C A σ a w F) (hti : ∀ i T, E.TI i = some T → layB P T (.inl i) = true) {t : Nat} {y : Operand} {lo hi : Option Operand} (ho : o.op = .slice t y lo hi none)
    (hok : opdOk P y = true ∧ (∀ z, lo = some z → opdOk P z = true) ∧ (∀ z, hi = some z → opdOk P z = true)) {K : St → Option R}
    (hk : sliceK E σ t (opd σ y) (lo.map (opd σ)) (hi.map (opd σ)) o.dst K = some x) : Tk P o a w (Nx P C K x) := by
  unfold sliceK at hk
  have hk1 := tiK_some hk
  clear hk
  obtain ⟨T, hT, hk⟩ := hk1
  have hlay := hti _ _ hT
  have hnt : ∀ z, opdOk P z = true → (∀ xs, opd σ z ≠ .tup xs) → SlotRel P A σ a w (a.eval z) (opd σ z) (fun _ _ => 0) := fun z hz hn => by
    rcases opd_ok h hz with hs | ⟨xs, e⟩
    · exact hs
    · exact absurd e (hn xs)
  -- a bound that is a tuple stops it
  have bound : ∀ (len cap : Nat) (K' : Nat → Nat → Option R), len ≤ cap → boundsK len (lo.map (opd σ)) (hi.map (opd σ)) K' = some x → ∃ l h, l ≤ h ∧ h ≤ len ∧ K' l h = some x ∧ (∀ w', (Instr.sliceBounds true len cap (lo.map a.eval) (hi.map a.eval) none).run P w' = .ok (l, h, cap) w') ∧
      (len = cap → ∀ w', (Instr.sliceBounds false len cap (lo.map a.eval) (hi.map a.eval) none).run P w' = .ok (l, h, cap) w') := fun len cap K' hc hb => by
    refine bounds_ok hc (fun z hz => hnt z (hok.2.1 z hz) fun xs e => ?_) (fun z hz => hnt z (hok.2.2 z hz) fun xs e => ?_) hb
    · subst hz
      unfold boundsK at hb
      cases hi <;> simp only [Option.map_some, Option.map_none, e, intK] at hb <;> cases hb
    · subst hz
      unfold boundsK at hb
      cases lo with
      | none => simp only [Option.map_some, Option.map_none, e, intK] at hb; cases hb
      | some yl =>
        simp only [Option.map_some, e] at hb
        unfold intK at hb
        split at hb <;> cases hb
  have runS : ∀ e xa len cap l h, T = .slc e → a.eval y = .slice xa len cap → l ≤ cap → (∀ ad, xa = some ad → 0 < cap → ad.spot = none) → (∀ w', (Instr.sliceBounds true len cap (lo.map a.eval) (hi.map a.eval) none).run P w' = .ok (l, h, cap) w') →
      ∀ w', Same o w w' → (execOp a.eval o).run P w' = .ok (.value (.slice (if cap = l then xa else xa.map fun ad => ⟨ad.block, ad.off + l * e.sz, none⟩) (h - l) (cap - l))) w' := fun e xa len cap l h hTe hy hlc hsp hb w' _ => by
    have hb := hb w'
    subst hTe
    obtain ⟨el, hu, _, hle⟩ := lay_slc hlay
    have hsz := run_sizeOf (P := P) (w := w') hle
    unfold execOp
    simp only [ho, Option.map_none, Instr.sliceAt, Instr.slice, Sem.run_bind, run_underlying hu, Result.andThen_ok, hy, hb, hsz, Sem.run_pure]
    by_cases hcl : cap = l
    · simp [hcl]
    · congr 4
      cases xa with
      | none => rfl
      | some ad =>
        obtain ⟨b, off, sp⟩ := ad
        have := hsp _ rfl (by omega)
        simp only at this
        subst this
        simp [addr_add]
  -- the address of a piece
  have addr : ∀ (xa : Option Addr) (cap l h n : Nat) (e : Ty), l ≤ h → h ≤ n → n ≤ cap → (∀ ad, xa = some ad → 0 < cap → ad.spot = none) →
      (xa = none → (if cap = l then xa else xa.map fun ad => ⟨ad.block, ad.off + l * e.sz, none⟩) = none) ∧
      (∀ ad, xa = some ad → ∃ ad', (if cap = l then xa else xa.map fun ad => ⟨ad.block, ad.off + l * e.sz, none⟩) = some ad' ∧ ad'.spot = ad.spot ∧ ad'.block = ad.block ∧ (l < h → ad'.off = ad.off + l * e.sz)) ∧
      (l = 0 → (if cap = l then xa else xa.map fun ad => (⟨ad.block, ad.off + l * e.sz, none⟩ : Addr)) = xa) := fun xa cap l h n e h1 h2 h3 hsp => by
    refine ⟨fun e => by subst e; split <;> rfl, fun ad e => ?_, fun e0 => ?_⟩
    · subst e
      split
      · exact ⟨ad, rfl, rfl, rfl, fun _ => by omega⟩
      · exact ⟨_, rfl, (hsp ad rfl (by omega)).symm, rfl, fun _ => rfl⟩
    · subst e0
      split
      · rfl
      · cases xa with
        | none => rfl
        | some ad =>
          obtain ⟨b, off, sp⟩ := ad
          have := hsp _ rfl (by omega)
          simp only at this
          subst this
          simp
  have spots : ∀ {e : Ty} {v : List e.den} {m : Md} {H : List Path} {xa n cap} {G : FP}, Rep P w A (.slc e) m H v [.slice xa n cap] G → hole H = false → ∀ ad, xa = some ad → 0 < cap → ad.spot = none := fun {e v m H xa n cap G} hrep hH ad hxa hpos => by
    simp only [Rep, hH, Bool.false_eq_true, if_false] at hrep
    split at hrep
    · obtain ⟨xa2, cap2, q1, q2, q3, q4, q5⟩ := hrep
      simp only [List.cons.injEq, Value.slice.injEq, and_true] at q1
      exact (q5 ad (q1.1.symm.trans hxa)).2.1
    · obtain ⟨_, _, xa2, cap2, q1, q2, q3, q4⟩ := hrep
      simp only [List.cons.injEq, Value.slice.injEq, and_true] at q1
      exact (q4 ad (q1.1.symm.trans hxa)).1 (by omega)
  rcases opd_ok h hok.1 with hs | ⟨xs, e⟩
  rotate_left
  · rw [e] at hk; cases hk
  split at hk
  · rename_i s hv
    rw [hv] at hs
    split at hk
    · rename_i hTe
      have hlay' := hlay
      rw [hTe] at hlay'
      obtain ⟨l, h', b1, b2, hk, b3, b4⟩ := bound s.length s.length _ (Nat.le_refl _) hk
      obtain ⟨cs, h1, h2⟩ := hs
      simp only [Ro] at h2; subst h2
      have e1 : a.eval y = .string ⟨List.toArray s⟩ := h1
      have e2 : (⟨List.toArray s⟩ : ByteArray).size = s.length := rfl
      refine tk_val (v := .string ⟨((s.take h').drop l).toArray⟩) (fun w' _ => ?_) (fin_flat h hk ⟨[_], rfl, rfl⟩ (fun _ _ _ _ e => by cases e))
      unfold execOp
      simp only [ho, Option.map_none, Instr.sliceAt, Instr.slice, Sem.run_bind, run_underlying (lay_str hlay'), Result.andThen_ok, e1, Option.isSome_none, Bool.false_eq_true, if_false, e2, b4 rfl w', Sem.run_pure, bytes_extract s l h' b1 b2]
    · cases hk
  · rename_i e v hv
    rw [hv] at hs
    split at hk
    · rename_i hTe
      obtain ⟨cs, h1, h2⟩ := hs
      obtain ⟨xa, cap, q1, q2, q3, q4⟩ := id h2
      subst q1
      rw [mkV_one _ _ rfl] at h1
      obtain ⟨l, h', b1, b2, hk, b3, _⟩ := bound (List.length v) cap _ q2 hk
      obtain ⟨r1, r2, r3⟩ := addr xa cap l h' _ e b1 b2 q2 (fun ad e => (q4 ad e).1)
      exact tk_val (runS e xa _ cap l h' hTe h1 (by omega) (fun ad e => (q4 ad e).1) b3) (fin_flat h hk ⟨_, (mkV_one (.slc e) _ rfl).symm, Ro.piece h2 b1 b2 (by omega) r1 r2⟩ (fun _ _ _ _ e => by cases e))
    · cases hk
  · rename_i r p snap hv
    rw [hv] at hs
    split at hk
    · rename_i hsn
      obtain ⟨hr, t', m', H', v', cs', ad', F', h1, h2, h3, h4, h5, h6⟩ := at_ok h hk
      obtain ⟨pl, g1, g2, g3⟩ := hs.2 hsn
      rw [h3] at g1
      injection g1 with g1
      subst g1
      simp only at g2 g3
      split at h1
      · cases h1
      · rename_i hH
        have hH : hole H' = false := Bool.eq_false_iff.2 hH
        split at h1
        · rename_i hTe
          split at h1
          · rename_i e v''
            obtain ⟨xa, cap, q1, q2, q3⟩ := rep_slc_head (t := .unit) h4 hH
            subst q1
            rw [mkV_one _ _ rfl] at g2
            have hsp := spots h4 hH
            split at h1
            · obtain ⟨l, h', b1, b2, h1, b3, _⟩ := bound (List.length v'') cap _ q2 h1
              obtain ⟨r1, r2, r3⟩ := addr xa cap l h' _ e b1 b2 q2 hsp
              refine tk_val (runS e xa _ cap l h' hTe.symm g2 (by omega) hsp b3) (fin_flat h h1 ⟨hs.1, fun _ => ⟨_, e, xa, _, cap, _, cap - l, h3, rfl, rfl, b1, b2, rfl, by omega, r3, r1, r2, ?_⟩⟩ (fun _ _ _ _ e => by cases e))
              exact g3.imp (·.2) id
            · rename_i hown
              obtain ⟨l, h', b1, b2, h1, b3, _⟩ := bound (List.length v'') cap _ q2 h1
              obtain ⟨r1, r2, r3⟩ := addr xa cap l h' _ e b1 b2 q2 hsp
              simp only [Rep, hH, Bool.false_eq_true, if_false, hown] at h4
              exact tk_val (runS e xa _ cap l h' hTe.symm g2 (by omega) hsp b3) (fin_flat h h1 ⟨_, (mkV_one (.slc e) _ rfl).symm, Ro.piece h4.2.2 b1 b2 (by omega) r1 r2⟩ (fun _ _ _ _ e => by cases e))
          · cases h1
        · cases h1
    · cases hk
  · rename_i r p snap l0 h0 hv
    rw [hv] at hs
    split at hk
    · rename_i hsn
      obtain ⟨hr, t', m', H', v', cs', ad', F', h1, h2, h3, h4, h5, h6⟩ := at_ok h hk
      obtain ⟨pl, e, xa, n, cap, xa', cap', g1, g2, g3, g4, g5, g6, g7, g7', g8, g9, g10⟩ := hs.2 hsn
      have g1' := g1
      rw [h3] at g1
      injection g1 with g1
      subst g1
      simp only at g2 g3
      subst g2; subst g3
      split at h1
      · cases h1
      · rename_i hH
        have hH : hole H' = false := Bool.eq_false_iff.2 hH
        split at h1
        · rename_i hTe
          obtain ⟨xa2, cap2, q1, q2, q3⟩ := rep_slc_head (t := .unit) h4 hH
          simp only [List.cons.injEq, Value.slice.injEq, and_true] at q1
          obtain ⟨rfl, rfl, rfl⟩ := q1
          have hsp := spots h4 hH
          have hsp' : ∀ ad, xa' = some ad → 0 < cap' → ad.spot = none := fun ad e' hpos => by
            cases hxa : xa with
            | none => rw [g8 hxa] at e'; cases e'
            | some ad0 =>
              obtain ⟨ad1, e1, e2, _⟩ := g9 ad0 hxa
              rw [e'] at e1; injection e1 with e1; subst e1
              exact e2.trans (hsp ad0 hxa (by omega))
          obtain ⟨l, h', b1, b2, h1, b3, _⟩ := bound (h0 - l0) cap' _ (by omega) h1
          obtain ⟨r1, r2, r3⟩ := addr xa' cap' l h' _ e b1 b2 (by omega) hsp'
          refine tk_val (runS e xa' _ cap' l h' hTe.symm g6 (by omega) hsp' b3) (fin_flat h h1 ⟨hs.1, fun _ => ⟨⟨.slc e, H', [.slice xa (List.length v') cap], ad'⟩, e, xa, List.length v', cap, (if cap' = l then xa' else xa'.map fun ad => ⟨ad.block, ad.off + l * e.sz, none⟩), cap' - l, h3, rfl, rfl, by omega, by omega, ?_, by omega, fun e0 => ?_, fun e' => ?_, fun ad e' => ?_, g10⟩⟩ (fun _ _ _ _ e => by cases e))
          · rw [show l0 + h' - (l0 + l) = h' - l by omega]
          · rw [r3 (by omega), g7' (by omega)]
          · exact r1 (g8 e')
          · obtain ⟨ad1, e1, e2, e3, e4⟩ := g9 ad e'
            obtain ⟨ad2, f1, f2, f3, f4⟩ := r2 ad1 e1
            exact ⟨ad2, f1, f2.trans e2, f3.trans e3, fun hlt => by rw [f4 (by omega), e4 (by omega), Nat.add_mul, Nat.add_assoc]⟩
        · cases h1
    · cases hk
  · cases hk
end
end OT
