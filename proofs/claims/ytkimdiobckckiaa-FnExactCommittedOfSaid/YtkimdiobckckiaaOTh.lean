/- The machine's state and the interpreter's. -/
import Derived.Test.YtkimdiobckckiaaOTg
import Derived.Calls
set_option linter.unusedVariables false
set_option linter.unusedSimpArgs false
namespace OT
open Go

def tmp (a : Act) (i : Nat) : Value := a.tmps.getD i undef

section
variable {P : Program} {w : World} {A : Cells}
theorem Ro.one : ∀ (t : Ty) {v : t.den} {cs : List Value}, Ro P w A t v cs → ∀ x ∈ cs, x.oneCell' = true := by
  intro t
  induction t with
  | pair a b iha ihb =>
    intro v cs h x hx
    rw [← List.take_append_drop a.sz cs] at hx
    rcases List.mem_append.1 hx with hx | hx
    · exact iha h.1 x hx
    · exact ihb h.2 x hx
  | arr n e ih =>
    intro v cs h x hx
    obtain ⟨hf, hl, hlen, hr⟩ := h
    obtain ⟨k, hk, rfl⟩ := List.mem_iff_getElem.1 hx
    rw [hlen] at hk
    have hsz : 0 < e.sz := by
      rcases Nat.eq_zero_or_pos e.sz with h0 | h0
      · rw [h0] at hk; omega
      · exact h0
    have hi : k / e.sz < n := (Nat.div_lt_iff_lt_mul hsz).2 hk
    refine ih (hr (k / e.sz) _ (List.getElem?_eq_getElem (by rw [hl]; exact hi))) _ ?_
    rw [List.mem_iff_getElem?]
    refine ⟨k % e.sz, ?_⟩
    rw [List.getElem?_take, if_pos (Nat.mod_lt _ hsz), List.getElem?_drop]
    have : k / e.sz * e.sz + k % e.sz = k := by rw [Nat.mul_comm]; exact Nat.div_add_mod k e.sz
    rw [this]; exact List.getElem?_eq_getElem _
  | slc e ih => rintro v cs ⟨a, cap, rfl, _⟩ x hx; simp at hx; subst hx; rfl
  | ptr e ih => rintro v cs ⟨a, rfl, _⟩ x hx; simp at hx; subst hx; rfl
  | fn => rintro v cs ⟨a, rfl, _⟩ x hx; simp at hx; subst hx; rfl
  | map k v => rintro v cs ⟨_, _, r, kvs, rfl, _⟩ x hx; simp at hx; subst hx; rfl
  | unit => intro v cs h x hx; simp only [Ro] at h; subst h; cases hx
  | _ => intro v cs h x hx; simp only [Ro] at h; subst h; simp at hx; subst hx; rfl

theorem Rep.one : ∀ (t : Ty) {m : Md} {H : List Path} {v : t.den} {cs : List Value} {F : FP}, Rep P w A t m H v cs F → ∀ x ∈ cs, x.oneCell' = true := by
  intro t
  induction t with
  | pair a b iha ihb =>
    intro m H v cs F h x hx
    obtain ⟨_, F1, F2, _, h1, h2⟩ := h
    rw [← List.take_append_drop a.sz cs] at hx
    rcases List.mem_append.1 hx with hx | hx
    · exact iha h1 x hx
    · exact ihb h2 x hx
  | slc e ih =>
    intro m H v cs F h x hx
    simp only [Rep] at h
    split at h
    · obtain ⟨y, rfl, hy⟩ := h; simp at hx; subst hx; exact hy
    · split at h
      · obtain ⟨a, cap, rfl, _⟩ := h; simp at hx; subst hx; rfl
      · exact Ro.one _ h.2.2 x hx
  | ptr e ih =>
    intro m H v cs F h x hx
    simp only [Rep] at h
    split at h
    · obtain ⟨y, rfl, hy⟩ := h; simp at hx; subst hx; exact hy
    · split at h
      · obtain ⟨a, rfl, _⟩ := h; simp at hx; subst hx; rfl
      · exact Ro.one _ h.2.2 x hx
  | arr n e ih => intro m H v cs F h; exact Ro.one _ h.2
  | map k v =>
    intro m H v cs F h x hx
    simp only [Rep] at h
    split at h
    · obtain ⟨y, rfl, hy⟩ := h; simp at hx; subst hx; exact hy
    · split at h
      · obtain ⟨_, _, r, kvs, rfl, _⟩ := h; simp at hx; subst hx; rfl
      · exact Ro.one _ h.2.2 x hx
  | _ => intro m H v cs F h; exact Ro.one _ h
end

theorem mkV_cells {t : Ty} {cs : List Value} (hl : cs.length = t.sz) (h1 : ∀ x ∈ cs, x.oneCell' = true) : (mkV t cs).cells.toList = cs := by
  unfold mkV
  split
  · simp [Value.cells]
  · rename_i h
    have : t.sz = 1 := by cases t <;> simp_all [isAgg, Ty.sz]
    match cs, hl with
    | [x], _ =>
      have := h1 x (by simp)
      cases x <;> simp_all [Value.cells, Value.oneCell']
    | [], hl => simp [this] at hl
    | _ :: _ :: _, hl => simp [this] at hl

def Below (snap v : List Nat) : Prop := ∀ (j x : Nat), snap[j]? = some x → ∃ y, v[j]? = some y ∧ x ≤ y

theorem preB_iff : ∀ (s v : List Nat), preB s v = true ↔ ∀ (j x : Nat), s[j]? = some x → v[j]? = some x
  | [], v => by simp [preB]
  | a :: s, [] => by
    simp only [preB, Bool.false_eq_true, false_iff]
    intro h
    have := h 0 a rfl
    cases this
  | a :: s, b :: v => by
    simp only [preB, Bool.and_eq_true, Nat.beq_eq, preB_iff s v]
    constructor
    · rintro ⟨rfl, h⟩ j x hj
      cases j with
      | zero => exact hj
      | succ j => exact h j x hj
    · intro h
      refine ⟨by have := h 0 a rfl; simpa using this.symm, fun j x hj => h (j + 1) x hj⟩

theorem ok_back {s v v' : List Nat} (hs : Below s v) (hv : Below v v') (h : preB s v' = true) : preB s v = true ∧ ∀ (j : Nat), j < s.length → v[j]? = v'[j]? := by
  have key : ∀ (j x : Nat), s[j]? = some x → v[j]? = some x ∧ v'[j]? = some x := fun j x hj => by
    obtain ⟨y, hy, hxy⟩ := hs j x hj
    obtain ⟨z, hz, hyz⟩ := hv j y hy
    have := (preB_iff _ _).1 h j x hj
    rw [this] at hz
    injection hz with hz
    have : x = y := by omega
    subst this
    exact ⟨hy, by assumption⟩
  refine ⟨(preB_iff _ _).2 fun j x hj => (key j x hj).1, fun j hj => ?_⟩
  obtain ⟨h1, h2⟩ := key j _ (List.getElem?_eq_getElem hj)
  rw [h1, h2]

theorem Below.trans {s v v' : List Nat} (h1 : Below s v) (h2 : Below v v') : Below s v' := fun j x hj => by
  obtain ⟨y, hy, hxy⟩ := h1 j x hj
  obtain ⟨z, hz, hyz⟩ := h2 j y hy
  exact ⟨z, hz, by omega⟩
theorem Below.refl (s : List Nat) : Below s s := fun j x hj => ⟨x, hj, Nat.le_refl _⟩

def rootPl (w : World) (tv : Value) : Slot → Option Pl
  | .own t _ H _ => some ⟨t, H, tv.cells.toList, none⟩
  | .box t _ H _ => match tv with
    | .pointer (some a) => some ⟨t, H, rd w a.block a.off t.sz, some (a.block, a.off)⟩
    | _ => none
  | _ => none
def place (σ : St) (a : Act) (w : World) (r : Nat) (p : Path) : Option Pl :=
  (rootPl w (tmp a r) (σ.get r)).bind fun R => plc w p R.t R.H R.cs R.ad

def RefRel (σ : St) (a : Act) (w : World) (tv : Value) (r : Nat) (p : Path) (snap : List Nat) : Prop :=
  Below snap (σ.ver r) ∧ (σ.ok r snap = true → ∃ pl, place σ a w r p = some pl ∧ tv = mkV pl.t pl.cs ∧ ((isSlc pl.t = true ∧ snap.length = min 5 (2 + nidx p)) ∨ snap.length = 5))
def PtrRel (σ : St) (a : Act) (w : World) (tv : Value) (r : Nat) (p : Path) (snap : List Nat) : Prop :=
  Below snap (σ.ver r) ∧ (σ.ok r snap = true → ∃ pl b o, place σ a w r p = some pl ∧ pl.ad = some (b, o) ∧ tv = .pointer (some ⟨b, o, none⟩) ∧ snap.length = min 5 (1 + nidx p))
def SubRel (σ : St) (a : Act) (w : World) (tv : Value) (r : Nat) (p : Path) (snap : List Nat) (lo hi : Nat) : Prop :=
  Below snap (σ.ver r) ∧ (σ.ok r snap = true → ∃ pl e x n cap x' cap', place σ a w r p = some pl ∧ pl.t = .slc e ∧ pl.cs = [.slice x n cap] ∧ lo ≤ hi ∧ hi ≤ n ∧ tv = .slice x' (hi - lo) cap' ∧ cap' + lo = cap ∧ (lo = 0 → x' = x) ∧
    (x = none → x' = none) ∧ (∀ ad, x = some ad → ∃ ad', x' = some ad' ∧ ad'.spot = ad.spot ∧ ad'.block = ad.block ∧ (lo < hi → ad'.off = ad.off + lo * e.sz)) ∧ (snap.length = min 5 (2 + nidx p) ∨ snap.length = 5))

section
variable (P : Program) (A : Cells)
def ResRel (w : World) (x : Res) (tv : Value) (F : FP) : Prop := x.t = .unit ∨ ∃ cs, tv = mkV x.t cs ∧ Rep P w A x.t x.m [] x.v cs F

def SlotRel (σ : St) (a : Act) (w : World) (tv : Value) : Slot → FP → Prop
  | .dead, _ => True
  | .nils, _ => tv = .slice none 0 0
  | .val t v, _ => ∃ cs, tv = mkV t cs ∧ Ro P w A t v cs
  | .cp t v, _ => Ro P w A (.ptr t) v [tv]
  | .own t m H v, F => ∃ cs, tv = mkV t cs ∧ Rep P w A t m H v cs F
  | .box t m H v, F => ∃ b o L F1, tv = .pointer (some ⟨b, o, none⟩) ∧ L.length = t.sz ∧ Has w b o L ∧ (∀ j, j < t.sz → w.frozen? ⟨b, o + j, none⟩ = false) ∧
      (∀ x i, rng b o t.sz x i + F1 x i ≤ F x i) ∧ Rep P w A t m H v L F1
  | .ref r p snap, _ => RefRel σ a w tv r p snap
  | .ptr r p snap, _ => PtrRel σ a w tv r p snap
  | .sub r p snap lo hi, _ => SubRel σ a w tv r p snap lo hi
  | .tup xs, F => ∃ (vs : Array Value) (Fi : Nat → FP), tv = .tuple vs ∧ (∀ b i, sumF xs.length Fi b i ≤ F b i) ∧ ∀ j x, xs[j]? = some x → ∃ v, vs[j]? = some v ∧ ResRel P A w x v (Fi j)
end

/-- The world goes on: but for the cells of 'F' what there was stays as it was. -/
structure Ext (w w' : World) (F : FP) : Prop where
  size : w.heap.size ≤ w'.heap.size
  cell : ∀ b i, b < w.heap.size → F b i = 0 → ∀ u, ce w b i = some u → ce w' b i = some u
  blk : ∀ b n, OwnBlk w b n → OwnBlk w' b n
  froz : ∀ b i, b < w.heap.size → w'.frozen? ⟨b, i, none⟩ = w.frozen? ⟨b, i, none⟩
  os : w'.os = w.os
  tape : w'.tape = w.tape
  output : w'.output = w.output
  obj : ∀ b, b < w.heap.size → (∀ i, F b i = 0) → w'.heap[b]? = w.heap[b]?

structure Ctx where
  w0 : World
  A0 : Cells
  F0 : FP
  args : Array Value

structure Rel (P : Program) (C : Ctx) (A : Cells) (X : FP) (σ : St) (a : Act) (w : World) (F : Nat → FP) : Prop where
  size : a.tmps.size = σ.n
  defers : a.defers = []
  slots : ∀ i, i < σ.n → SlotRel P A σ a w (tmp a i) (σ.get i) (F i)
  gh : ∀ d r p snap, (d, r, p, snap) ∈ σ.gh → RefRel σ a w (tmp a d) r p snap
  tot : ∀ b i, X b i + sumF σ.n F b i ≤ 1
  dis : ∀ b i, 1 ≤ X b i + sumF σ.n F b i → ¬ A b i
  bnd : ∀ b i, 1 ≤ X b i + sumF σ.n F b i ∨ A b i → b < w.heap.size
  vlen : ∀ i, (σ.ver i).length = 5
  ext : Ext C.w0 w C.F0
  own : ∀ b i, 1 ≤ X b i + sumF σ.n F b i → 1 ≤ C.F0 b i ∨ C.w0.heap.size ≤ b
  a0 : ∀ b i, C.A0 b i → A b i
  a1 : ∀ b i, A b i → C.A0 b i ∨ 1 ≤ C.F0 b i ∨ C.w0.heap.size ≤ b
  lentP : ∀ j k, (j, k, false) ∈ σ.lent → tmp a j = C.args.getD k undef
  whole : ∀ r t m H v, σ.get r = .box t m H v → (∀ k, (r, k, false) ∉ σ.lent) → ∃ b, tmp a r = .pointer (some ⟨b, 0, none⟩) ∧ OwnBlk w b t.sz
  lentS : ∀ j k, (j, k, true) ∈ σ.lent → ∀ R, rootPl w (tmp a j) (σ.get j) = some R → mkV R.t R.cs = C.args.getD k undef

/-- What leads somewhere in the one state leads there in the other. -/
def Pres (σ : St) (a : Act) (w : World) (σ' : St) (a' : Act) (w' : World) : Prop :=
  ∀ r p snap, Below snap (σ.ver r) → Below snap (σ'.ver r) ∧ (σ'.ok r snap = true → σ.ok r snap = true ∧
    (snap.length = min 5 (1 + nidx p) ∨ snap.length = min 5 (2 + nidx p) ∨ snap.length = 5 → ∀ pl, place σ a w r p = some pl → ∃ H' cs', place σ' a' w' r p = some ⟨pl.t, H', cs', pl.ad⟩ ∧
      ((isSlc pl.t = true ∧ snap.length = min 5 (2 + nidx p)) ∨ snap.length = 5 → cs' = pl.cs)))

section
variable {P : Program} {A A' : Cells} {σ σ' : St} {a a' : Act} {w w' : World} {tv : Value} {F : FP}

theorem RefRel.pres (hp : Pres σ a w σ' a' w') {r : Nat} {p : Path} {snap : List Nat} (h : RefRel σ a w tv r p snap) : RefRel σ' a' w' tv r p snap := by
  obtain ⟨h1, h2⟩ := h
  obtain ⟨h3, h4⟩ := hp r p snap h1
  refine ⟨h3, fun hok => ?_⟩
  obtain ⟨h5, h6⟩ := h4 hok
  obtain ⟨pl, h7, h8, h9⟩ := h2 h5
  obtain ⟨H', cs', h10, h11⟩ := h6 (h9.elim (fun h => .inr (.inl h.2)) (fun h => .inr (.inr h))) pl h7
  exact ⟨_, h10, by rw [h11 h9]; exact h8, h9⟩
theorem PtrRel.pres (hp : Pres σ a w σ' a' w') {r : Nat} {p : Path} {snap : List Nat} (h : PtrRel σ a w tv r p snap) : PtrRel σ' a' w' tv r p snap := by
  obtain ⟨h1, h2⟩ := h
  obtain ⟨h3, h4⟩ := hp r p snap h1
  refine ⟨h3, fun hok => ?_⟩
  obtain ⟨h5, h6⟩ := h4 hok
  obtain ⟨pl, b, o, h7, h8, h9, h10⟩ := h2 h5
  obtain ⟨H', cs', h11, _⟩ := h6 (.inl h10) pl h7
  exact ⟨_, b, o, h11, h8, h9, h10⟩
theorem SubRel.pres (hp : Pres σ a w σ' a' w') {r : Nat} {p : Path} {snap : List Nat} {lo hi : Nat} (h : SubRel σ a w tv r p snap lo hi) : SubRel σ' a' w' tv r p snap lo hi := by
  obtain ⟨h1, h2⟩ := h
  obtain ⟨h3, h4⟩ := hp r p snap h1
  refine ⟨h3, fun hok => ?_⟩
  obtain ⟨h5, h6⟩ := h4 hok
  obtain ⟨pl, e, x, n, cap, x', cap', h7, h8, h9, h10, h11, h12, h13, h13', h14, h15, h16⟩ := h2 h5
  obtain ⟨H', cs', h17, h18⟩ := h6 (.inr h16) pl h7
  have : isSlc pl.t = true := by rw [h8]; rfl
  exact ⟨_, e, x, n, cap, x', cap', h17, h8, (h18 (h16.imp (fun h => ⟨this, h⟩) id)).trans h9, h10, h11, h12, h13, h13', h14, h15, h16⟩
theorem SlotRel.pres (hp : Pres σ a w σ' a' w') (hA : ∀ b i, A b i → A' b i) (hc : ∀ b i, A b i → ∀ u, ce w b i = some u → ce w' b i = some u) (hb : ∀ b n, OwnBlk w b n → OwnBlk w' b n)
    (hF : ∀ b i, 1 ≤ F b i → (∀ u, ce w b i = some u → ce w' b i = some u) ∧ w'.frozen? ⟨b, i, none⟩ = w.frozen? ⟨b, i, none⟩) {s : Slot} (h : SlotRel P A σ a w tv s F) : SlotRel P A' σ' a' w' tv s F := by
  cases s with
  | dead => trivial
  | nils => exact h
  | val t v => obtain ⟨cs, h1, h2⟩ := h; exact ⟨cs, h1, Ro.mono hc hA t h2⟩
  | cp t v => exact Ro.mono hc hA (.ptr t) h
  | own t m H v => obtain ⟨cs, h1, h2⟩ := h; exact ⟨cs, h1, Rep.mono hA hc hb t h2 (fun _ _ => Nat.le_refl _) (fun b i hp => (hF b i hp).1)⟩
  | box t m H v =>
    obtain ⟨b, o, L, F1, h1, h2, h3, h4, h5, h6⟩ := h
    have hr : ∀ j, j < t.sz → 1 ≤ F b (o + j) := fun j hj => by
      have := h5 b (o + j); simp [rng, hj] at this; omega
    exact ⟨b, o, L, F1, h1, h2, fun j u hu => (hF _ _ (hr j (h2 ▸ (List.getElem?_eq_some_iff.1 hu).1))).1 u (h3 j u hu), fun j hj => by rw [(hF _ _ (hr j hj)).2]; exact h4 j hj, h5,
      Rep.mono hA hc hb t h6 (fun _ _ => Nat.le_refl _) (fun b i hp => (hF b i (by have := h5 b i; omega)).1)⟩
  | ref r p snap => exact RefRel.pres hp h
  | ptr r p snap => exact PtrRel.pres hp h
  | sub r p snap lo hi => exact SubRel.pres hp h
  | tup xs =>
    obtain ⟨vs, Fi, h1, h2, h3⟩ := h
    refine ⟨vs, Fi, h1, h2, fun j x hx => ?_⟩
    obtain ⟨v, h4, h5⟩ := h3 j x hx
    refine ⟨v, h4, h5.imp id fun ⟨cs, h6, h7⟩ => ⟨cs, h6, Rep.mono hA hc hb x.t h7 (fun _ _ => Nat.le_refl _) (fun b i hp => (hF b i ?_).1)⟩⟩
    have := le_sumF Fi (List.getElem?_eq_some_iff.1 hx).1 b i
    have := h2 b i; omega
end
end OT
