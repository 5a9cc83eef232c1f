/- How data of a type lie in memory by the program's own tables. -/
import Derived.Test.YtkimdiobckckiaaOTm
import Derived.Laws.Entries
import Derived.Laws.NewFold
import Derived.Laws.Sem
set_option linter.unusedVariables false
set_option linter.unusedSimpArgs false
namespace OT
open Go

/-- The cells of a zero. -/
def zc : Ty → Option (List Value)
  | .int k => some [.int k 0]
  | .bool => some [.bool false]
  | .str => some [.string ⟨#[]⟩]
  | .unit => some []
  | .pair a b => match zc a, zc b with
    | some x, some y => some (x ++ y)
    | _, _ => none
  | .arr n e => match zc e with
    | some x => some (List.replicate n x).flatten
    | none => none
  | .slc _ => some [.slice none 0 0]
  | _ => none

def veq : Value → Value → Bool
  | .int k n, .int k' n' => decide (k = k') && decide (n = n')
  | .bool a, .bool b => a == b
  | .string s, .string t => decide (s.data.toList = t.data.toList)
  | .slice none 0 0, .slice none 0 0 => true
  | _, _ => false
def vseq : List Value → List Value → Bool
  | [], [] => true
  | a :: x, b :: y => veq a b && vseq x y
  | _, _ => false
theorem veq_eq {a b : Value} (h : veq a b = true) : a = b := by
  unfold veq at h
  split at h
  · simp only [Bool.and_eq_true, decide_eq_true_eq] at h; rw [h.1, h.2]
  · simp at h; rw [h]
  · rename_i s t
    simp only [decide_eq_true_eq] at h
    congr 1
    cases s; cases t
    simp only at h
    congr 1
    exact Array.ext' h
  · rfl
  · cases h
theorem vseq_eq : ∀ {x y : List Value}, vseq x y = true → x = y
  | [], [], _ => rfl
  | a :: x, b :: y, h => by
    simp only [vseq, Bool.and_eq_true] at h
    rw [veq_eq h.1, vseq_eq h.2]
  | [], _ :: _, h => by simp [vseq] at h
  | _ :: _, [], h => by simp [vseq] at h

def infoOk (P : Program) (t : Ty) (i : TypeId) : Bool :=
  match P.info? i with
  | some inf => Nat.beq inf.size t.sz && Nat.ble inf.bytes 512 && (match inf.zero with
    | some z => Nat.beq z.cells.size t.sz && (match zc t with
      | some L => vseq z.cells.toList L
      | none => true)
    | none => false)
  | none => false

def eqB (P : Program) : Ty → Sum TypeId (List Field) → Bool
  | .int _, .inl _ => true
  | .bool, .inl _ => true
  | .str, .inl _ => true
  | .unit, .inl i => !P.stoodInHeld i
  | .unit, .inr _ => true
  | .pair a b, .inl i => !P.stoodInHeld i && (match P.underlying i with
    | some (.struct fs) => (match fs.toList with
      | f :: r => f.name != "_" && eqB P a (.inl f.type) && eqB P b (.inr r)
      | [] => false)
    | _ => false)
  | .pair a b, .inr (f :: r) => f.name != "_" && eqB P a (.inl f.type) && eqB P b (.inr r)
  | _, _ => false
def dep : Ty → Nat
  | .pair a b => max (dep a + 1) (dep b)
  | _ => 1
/-- Keys of a map. -/
def keyB (P : Program) (k : Ty) (i : TypeId) : Bool := isAgg k && k.eqOk && k.flat && eqB P k (.inl i) && Nat.ble (dep k) 9000

/-- The zero is of this shape. -/
def zvB (P : Program) (v : Ty) (i : TypeId) : Bool := match P.info? i with
  | some inf => (match inf.zero with
    | some (.agg _) => isAgg v
    | some _ => !isAgg v
    | none => false)
  | none => false

/-- A type of the program is laid out so. 'inr': the fields that are left of a struct, and where they begin. -/
def layB (P : Program) : Ty → Sum TypeId (List Field × Nat) → Bool
  | .int k, .inl i => infoOk P (.int k) i && (match P.underlying i with | some (.int k') => decide (k = k') | _ => false)
  | .bool, .inl i => infoOk P .bool i && (match P.underlying i with | some .bool => true | _ => false)
  | .str, .inl i => infoOk P .str i && (match P.underlying i with | some .string => true | _ => false)
  | .unit, .inl i => infoOk P .unit i && (match P.underlying i with | some (.struct fs) => fs.toList.isEmpty | _ => false)
  | .unit, .inr (fs, _) => fs.isEmpty
  | .pair a b, .inl i => infoOk P (.pair a b) i && (match P.underlying i with
    | some (.struct fs) => (match fs.toList with
      | f :: r => Nat.beq f.offset 0 && Nat.ble 1 a.sz && layB P a (.inl f.type) && layB P b (.inr (r, a.sz))
      | [] => false)
    | _ => false)
  | .pair a b, .inr (f :: r, off) => Nat.beq f.offset off && Nat.ble 1 a.sz && layB P a (.inl f.type) && layB P b (.inr (r, off + a.sz))
  | .arr n e, .inl i => infoOk P (.arr n e) i && e.flat && (match P.underlying i with | some (.array n' el) => Nat.beq n n' && Nat.ble 1 e.sz && layB P e (.inl el) | _ => false)
  | .slc e, .inl i => infoOk P (.slc e) i && (match P.underlying i with | some (.slice el) => Nat.ble 1 e.sz && layB P e (.inl el) | _ => false)
  | .ptr e, .inl i => infoOk P (.ptr e) i && (match P.underlying i with | some (.pointer el) => layB P e (.inl el) | _ => false)
  | .fn, .inl i => infoOk P .fn i && (match P.underlying i with | some (.func ..) => true | _ => false)
  | .map k v, .inl i => infoOk P (.map k v) i && (match P.underlying i with | some (.map ki vi) => layB P k (.inl ki) && layB P v (.inl vi) && keyB P k ki && zvB P v vi | _ => false)
  | _, _ => false

section
variable {P : Program} {w : World} {A : Cells}

theorem infoOk_zero {t : Ty} {i : TypeId} (h : infoOk P t i = true) : ∃ inf z, P.info? i = some inf ∧ inf.size = t.sz ∧ inf.bytes ≤ 512 ∧ inf.zero = some z ∧ z.cells.size = t.sz ∧ ∀ L, zc t = some L → z.cells.toList = L := by
  unfold infoOk at h
  split at h
  · rename_i inf hi
    simp only [Bool.and_eq_true, Nat.beq_eq, Nat.ble_eq] at h
    have h2 := h.2
    split at h2
    · rename_i z hz
      simp only [Bool.and_eq_true, Nat.beq_eq] at h2
      refine ⟨inf, z, hi, h.1.1, h.1.2, hz, h2.1, fun L hL => ?_⟩
      have h3 := h2.2
      rw [hL] at h3
      exact vseq_eq h3
    · cases h2
  · cases h
theorem infoOk_some {t : Ty} {i : TypeId} (h : infoOk P t i = true) : ∃ inf, P.info? i = some inf ∧ inf.size = t.sz ∧ inf.bytes ≤ 512 ∧ ∀ L, zc t = some L → ∃ z, inf.zero = some z ∧ z.cells.toList = L := by
  obtain ⟨inf, z, h1, h2, h3, h4, h5, h6⟩ := infoOk_zero h
  exact ⟨inf, h1, h2, h3, fun L hL => ⟨z, h4, h6 L hL⟩⟩
theorem layB_info {t : Ty} {i : TypeId} (h : layB P t (.inl i) = true) : infoOk P t i = true := by
  cases t <;> simp only [layB, Bool.and_eq_true] at h <;> first | exact h.1 | exact h.1.1 | cases h
theorem layB_isAgg {t : Ty} {i : TypeId} (h : layB P t (.inl i) = true) : ∃ d, P.underlying i = some d ∧ (isAgg t = true → (∃ fs, d = .struct fs) ∨ ∃ n e, d = .array n e) ∧ (isAgg t = false → (∀ fs, d ≠ .struct fs) ∧ ∀ n e, d ≠ .array n e) := by
  cases hd : P.underlying i with
  | none => cases t <;> simp [layB, hd] at h
  | some d =>
    refine ⟨d, rfl, ?_, ?_⟩
    · intro ha
      cases t <;> simp only [isAgg] at ha <;> first | cases ha | skip
      all_goals
        simp only [layB, hd, Bool.and_eq_true] at h
        cases d <;> simp_all
    · intro ha
      cases t <;> simp only [isAgg] at ha <;> first | cases ha | skip
      all_goals
        simp only [layB, hd, Bool.and_eq_true] at h
        cases d <;> simp_all

theorem run_isAgg {t : Ty} {i : TypeId} (h : layB P t (.inl i) = true) : (Go.isAgg i).run P w = .ok (isAgg t) w := by
  obtain ⟨d, h1, h2, h3⟩ := layB_isAgg h
  unfold Go.isAgg
  simp only [Sem.run_bind, run_underlying h1, Result.andThen_ok]
  cases ht : isAgg t with
  | true =>
    rcases h2 ht with ⟨fs, rfl⟩ | ⟨n, e, rfl⟩ <;> rfl
  | false =>
    obtain ⟨h4, h5⟩ := h3 ht
    cases d <;> first | rfl | (exact absurd rfl (h4 _)) | (exact absurd rfl (h5 _ _))
theorem run_sizeOf {t : Ty} {i : TypeId} (h : layB P t (.inl i) = true) : (Go.sizeOf i).run P w = .ok t.sz w := by
  obtain ⟨inf, h1, h2, _⟩ := infoOk_some (layB_info h)
  simp [Go.sizeOf, typeInfo, h1, h2]

theorem isAgg_sz {t : Ty} (h : isAgg t = false) : t.sz = 1 := by cases t <;> simp_all [isAgg, Ty.sz]

theorem addr_add (b o n : Nat) : (⟨b, o, none⟩ : Addr).add n = ⟨b, o + n, none⟩ := by unfold Addr.add; split <;> simp_all

theorem run_loadVar {t : Ty} {i : TypeId} (h : layB P t (.inl i) = true) {b o : Nat} {L : List Value} (hL : Has w b o L) (hl : L.length = t.sz) (hone : ∀ u ∈ L, u.oneCell' = true) : (loadVar i ⟨b, o, none⟩).run P w = .ok (mkV t L) w := by
  unfold loadVar
  simp only [Sem.run_bind, run_isAgg h, Result.andThen_ok]
  cases ht : isAgg t with
  | true =>
    have := run_loadCells_list (P := P) w ⟨b, o, none⟩ L (fun j v hj => by rw [addr_add]; exact ce_cell (hL j v hj) (hone v (List.mem_of_getElem? hj)))
    rw [hl] at this
    simp only [if_true, Sem.run_bind, run_sizeOf h, Result.andThen_ok, this, Sem.run_pure, mkV, ht]
  | false =>
    have hs := isAgg_sz ht
    match L, hl with
    | [y], _ =>
      have := ce_cell (hL 0 y rfl) (hone y (by simp))
      simp only [Nat.add_zero] at this
      simp only [Bool.false_eq_true, if_false, run_load, this, mkV, ht, List.headD_cons]
    | [], hl => simp [hs] at hl
    | _ :: _ :: _, hl => simp [hs] at hl

theorem zc_ok : ∀ (t : Ty) {L : List Value} {i : Sum TypeId (List Field × Nat)}, zc t = some L → layB P t i = true → Rep P w A t (ownMd t) [] t.zero L (fun _ _ => 0) ∧ Ro P w A t t.zero L ∧ L.length = t.sz := by
  intro t
  induction t with
  | int k => intro L i h _; injection h with h; subst h; cases k <;> exact ⟨rfl, rfl, rfl⟩
  | bool => intro L i h _; injection h with h; subst h; exact ⟨rfl, rfl, rfl⟩
  | str => intro L i h _; injection h with h; subst h; exact ⟨rfl, rfl, rfl⟩
  | unit => intro L i h _; injection h with h; subst h; exact ⟨rfl, rfl, rfl⟩
  | pair a b iha ihb =>
    intro L i h hl
    simp only [zc] at h
    split at h
    · rename_i x y hx hy
      injection h with h; subst h
      have : ∃ ia ib, layB P a ia = true ∧ layB P b ib = true := by
        cases i with
        | inl i =>
          simp only [layB, Bool.and_eq_true] at hl
          have h2 := hl.2
          split at h2
          · split at h2
            · simp only [Bool.and_eq_true] at h2; exact ⟨_, _, h2.1.2, h2.2⟩
            · cases h2
          · cases h2
        | inr fo =>
          obtain ⟨fs, off⟩ := fo
          cases fs with
          | nil => simp [layB] at hl
          | cons f r => simp only [layB, Bool.and_eq_true] at hl; exact ⟨_, _, hl.1.2, hl.2⟩
      obtain ⟨ia, ib, h1, h2⟩ := this
      obtain ⟨ra, oa, la⟩ := iha hx h1
      obtain ⟨rb, ob, lb⟩ := ihb hy h2
      have e1 : (x ++ y).take a.sz = x := List.take_left' la
      have e2 : (x ++ y).drop a.sz = y := List.drop_left' la
      refine ⟨⟨rfl, fun _ _ => 0, fun _ _ => 0, fun _ _ => Nat.le_refl _, by rw [e1]; exact ra, by rw [e2]; exact rb⟩, ⟨by rw [e1]; exact oa, by rw [e2]; exact ob⟩, by simp [la, lb, Ty.sz]⟩
    · cases h
  | arr n e ih =>
    intro L i h hl
    simp only [zc] at h
    split at h
    · rename_i z hz
      injection h with h; subst h
      have : e.flat = true ∧ ∃ ie, layB P e ie = true := by
        cases i with
        | inl i =>
          simp only [layB, Bool.and_eq_true] at hl
          have h2 := hl.2
          split at h2
          · simp only [Bool.and_eq_true] at h2; exact ⟨hl.1.2, _, h2.2⟩
          · cases h2
        | inr fo => simp [layB] at hl
      obtain ⟨hf, ie, he⟩ := this
      obtain ⟨re, oe, le⟩ := ih hz he
      have hlen : ∀ n, ((List.replicate n z).flatten).length = n * e.sz := fun n => by
        induction n with
        | zero => simp
        | succ n ih => rw [List.replicate_succ, List.flatten_cons, List.length_append, ih, le, Nat.add_mul]; omega
      have hro : Ro P w A (.arr n e) (Ty.arr n e).zero ((List.replicate n z).flatten) := by
        refine ⟨hf, by simp [Ty.zero], hlen n, fun i x hx => ?_⟩
        have hi : i < n := by have := (List.getElem?_eq_some_iff.1 hx).1; simpa [Ty.zero] using this
        have hx : x = e.zero := by
          simp only [Ty.zero, List.getElem?_replicate, hi, if_true, Option.some.injEq] at hx; exact hx.symm
        subst hx
        have : (((List.replicate n z).flatten).drop (i * e.sz)).take e.sz = z := by
          have e1 : n = i + (1 + (n - i - 1)) := by omega
          rw [e1, ← List.replicate_append_replicate, ← List.replicate_append_replicate, List.flatten_append, List.flatten_append]
          have e2 := hlen i
          rw [List.drop_left' e2]
          simp only [List.replicate_one, List.flatten_cons, List.flatten_nil, List.append_nil]
          exact List.take_left' le
        rw [this]; exact oe
      exact ⟨⟨rfl, hro⟩, hro, hlen n⟩
    · cases h
  | slc e ih =>
    intro L i h _
    injection h with h; subst h
    refine ⟨?_, ⟨none, 0, rfl, Nat.le_refl _, fun _ => rfl, fun ad had => by cases had⟩, rfl⟩
    simp only [Rep, hole, List.any_nil, Bool.false_eq_true, if_false, ownMd, mdOf, Md.own, if_true]
    exact ⟨none, 0, rfl, Nat.le_refl _, by simp [maxLen], fun _ => rfl, fun ad had => by cases had⟩
  | ptr e ih => intro L i h _; simp [zc] at h
  | fn => intro L i h _; simp [zc] at h
  | map k v => intro L i h _; simp [zc] at h

theorem run_zeroValue {t : Ty} {i : TypeId} (h : layB P t (.inl i) = true) {L : List Value} (hz : zc t = some L) : ∃ z, (zeroValue i).run P w = .ok z w ∧ z.cells.toList = L := by
  obtain ⟨inf, h1, h2, _, h3⟩ := infoOk_some (layB_info h)
  obtain ⟨z, h4, h5⟩ := h3 L hz
  exact ⟨z, by simp [zeroValue, typeInfo, h1, h4], h5⟩
end
end OT
