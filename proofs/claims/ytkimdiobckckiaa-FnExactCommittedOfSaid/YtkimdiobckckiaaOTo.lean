/- Operations, first part. -/
import Derived.Test.YtkimdiobckckiaaOTn
set_option linter.unusedVariables false
set_option linter.unusedSimpArgs false
namespace OT
open Go

section
variable {P : Program} {C : Ctx} {A : Cells} {X : FP} {σ : St} {a : Act} {w : World} {F : Nat → FP} {R : Type} {x : R} {Q : Exit → Act → World → Prop} {o : Oper} {E : Env}

/-- What an operation leads to. -/
def Nx (P : Program) (C : Ctx) {R : Type} (K : St → Option R) (x : R) (a : Act) (w : World) : Prop := ∃ σ', K σ' = some x ∧ RelE P C σ' a w

abbrev Rel0 (P : Program) (C : Ctx) (A : Cells) (σ : St) (a : Act) (w : World) (F : Nat → FP) : Prop := Rel P C A (fun _ _ => 0) σ a w F

theorem wp_val {v : Value} {w' : World} {next : Act → World → Prop} (hrun : (execOp a.eval o).run P w = .ok (.value v) w') (hn : next (a.put o.dst v) w') : o.wp P a w next Q := by
  unfold Oper.wp; rw [hrun]; exact hn
theorem wp_skip' {w' : World} {next : Act → World → Prop} (hrun : (execOp a.eval o).run P w = .ok .skip w') (hd : o.dst = none) (hn : next a w') : o.wp P a w next Q := by
  unfold Oper.wp; rw [hrun, Oper.upon, hd]; exact hn

/-- Reads memory. -/
def reads : Op → Bool
  | .load .. | .convert .. => true
  | _ => false
/-- Worlds in which an operation yields the same: all, or where nothing of what there is has turned. -/
def Same (o : Oper) (w w' : World) : Prop := reads o.op = true → Ext w w' (fun _ _ => 0)
theorem Same.ext {o : Oper} {w w' : World} (h : Same o w w') (hr : reads o.op = true) : Ext w w' (fun _ _ => 0) := h hr
/-- An operation that yields a value and leaves the world as it is, also when blocks have come. -/
def Tk (P : Program) (o : Oper) (a : Act) (w : World) (next : Act → World → Prop) : Prop :=
  ∃ v, (∀ w', Same o w w' → (execOp a.eval o).run P w' = .ok (.value v) w') ∧ next (a.put o.dst v) w
theorem tk_val {v : Value} {next : Act → World → Prop} (hrun : ∀ w', Same o w w' → (execOp a.eval o).run P w' = .ok (.value v) w') (hn : next (a.put o.dst v) w) : Tk P o a w next := ⟨v, hrun, hn⟩
theorem Tk.wp {next : Act → World → Prop} (h : Tk P o a w next) : o.wp P a w next Q := by
  obtain ⟨v, h1, h2⟩ := h
  exact wp_val (h1 w fun _ => Ext.refl _ _) h2
theorem ce_lt {b i : Nat} {u : Value} (h : ce w b i = some u) : b < w.heap.size := by
  rcases Nat.lt_or_ge b w.heap.size with hb | hb
  · exact hb
  · have hn : w.heap[b]? = none := Array.getElem?_eq_none hb
    simp [ce, World.cell?, hn] at h
theorem Has.ext {b o : Nat} {L : List Value} {w' : World} (h : Has w b o L) (hw : Ext w w' (fun _ _ => 0)) : Has w' b o L := fun j u hu => hw.cell b (o + j) (ce_lt (h j u hu)) rfl u (h j u hu)

theorem fin_val (h : Rel P C A X σ a w F) {K : St → Option R} {d : Option Tmp} {s : Slot} {v : Value} {Fd : FP} (hk : K (σ.putD d s) = some x) (hs : SlotRel P A σ a w v s Fd) (ht : ∀ b i, Fd b i ≤ X b i)
    (hwh : ∀ t m H v', s = .box t m H v' → ∃ b, v = .pointer (some ⟨b, 0, none⟩) ∧ OwnBlk w b t.sz) : Nx P C K x (a.put d v) w := by
  obtain ⟨F', hF⟩ := h.putD d (X' := fun _ _ => 0) hs (fun b i => by have := ht b i; omega) hwh
  exact ⟨_, hk, A, F', hF⟩
/-- Data that own nothing. -/
theorem fin_flat (h : Rel P C A X σ a w F) {K : St → Option R} {d : Option Tmp} {s : Slot} {v : Value} (hk : K (σ.putD d s) = some x) (hs : SlotRel P A σ a w v s (fun _ _ => 0))
    (hb : ∀ t m H v', s ≠ .box t m H v') : Nx P C K x (a.put d v) w :=
  fin_val h hk hs (fun _ _ => Nat.zero_le _) (fun t m H v' e => absurd e (hb t m H v'))
theorem fin_laid (h : Rel P C A X σ a w F) {K : St → Option R} {d : Option Tmp} {t : Ty} {m : Md} {v : t.den} {cs : List Value} {Fd : FP} (hk : K (σ.putD d (laid t m v)) = some x) (hr : Rep P w A t m [] v cs Fd) (ht : ∀ b i, Fd b i ≤ X b i) :
    Nx P C K x (a.put d (mkV t cs)) w :=
  fin_val h hk (laid_ok (σ := σ) (a := a) hr).1 ht (laid_ok (σ := σ) (a := a) hr).2

theorem tiK_some {t : Nat} {K : Ty → Option R} (h : tiK E t K = some x) : ∃ T, E.TI t = some T ∧ K T = some x := by
  unfold tiK at h
  split at h
  · rename_i T hT; exact ⟨T, hT, h⟩
  · cases h

theorem boolK_some {s : Slot} {K : Bool → Option R} {tv : Value} {G : FP} (hs : SlotRel P A σ a w tv s G) (h : boolK s K = some x) : ∃ b, tv = .bool b ∧ K b = some x := by
  unfold boolK at h
  split at h
  · rename_i b; obtain ⟨cs, h1, h2⟩ := hs; simp only [Ro] at h2; subst h2; exact ⟨b, by rw [h1]; rfl, h⟩
  · cases h
theorem intK_some {s : Slot} {K : Int → Option R} {tv : Value} {G : FP} (hs : SlotRel P A σ a w tv s G) (h : intK s K = some x) : ∃ k n, tv = .int k n ∧ K n = some x := by
  unfold intK at h
  split at h
  · rename_i k n; obtain ⟨cs, h1, h2⟩ := hs; simp only [Ro] at h2; subst h2; exact ⟨k, _, by rw [h1]; rfl, h⟩
  · cases h

def opsOk (P : Program) (o : Op) : Bool := o.operands.all (opdOk P)

/-- A slot that leads to what was read. -/
theorem refRel_new (h : Rel P C A X σ a w F) {r : Nat} {p : Path} {pl : Pl} (hp : place σ a w r p = some pl) : RefRel σ a w (mkV pl.t pl.cs) r p (snapRef σ r p pl.t) := by
  have h5 := h.vlen r
  refine ⟨?_, fun _ => ⟨_, hp, rfl, ?_⟩⟩
  · unfold snapRef
    split
    · intro j y hj; rw [List.getElem?_take] at hj; split at hj; exact ⟨y, hj, Nat.le_refl _⟩; cases hj
    · intro j y hj; rw [List.getElem?_take] at hj; split at hj; exact ⟨y, hj, Nat.le_refl _⟩; cases hj
    · exact Below.refl _
  · unfold snapRef
    split
    · rename_i e he; left; exact ⟨by rw [he]; rfl, by rw [List.length_take, h5]; omega⟩
    · rename_i k v he; left; exact ⟨by rw [he]; rfl, by rw [List.length_take, h5]; omega⟩
    · right; exact h5

theorem opd_nobox (σ : St) (y : Operand) (t : Ty) (m : Md) (H : List Path) (v : t.den) : opd σ y ≠ .box t m H v := by
  intro e
  cases y with
  | tmp i => simp only [opd] at e; cases hg : σ.get i <;> rw [hg] at e <;> cases e
  | const v => simp only [opd] at e; unfold constSlot at e; split at e <;> first | (cases e; done) | (split at e <;> cases e)
  | func f => cases e
  | global g => cases e

theorem take_move (h : Rel0 P C A σ a w F) {y : Operand} (ho : o.op = .move y) (hok : opdOk P y = true) {K : St → Option R} (hk : moveK σ y o.dst K = some x) : Tk P o a w (Nx P C K x) := by
  refine tk_val (v := a.eval y) (by simp [execOp, ho]) ?_
  unfold moveK at hk
  have hs := opd_ok h hok
  split at hk
  · rename_i xs i hx
    have hi : i < σ.n := by
      rcases Nat.lt_or_ge i σ.n with hi | hi
      · exact hi
      · simp only [opd, get_out (Nat.not_lt.2 hi)] at hx; cases hx
    have hg : σ.get i = .tup xs := by
      simp only [opd] at hx; cases hg : σ.get i <;> rw [hg] at hx <;> first | (cases hx; done) | exact hx
    have hsl := h.slots i hi
    rw [hg] at hsl
    have h2 := h.put hi (s := .dead) (v := tmp a i) (Fd := fun _ _ => 0) (X' := fun b k => F i b k) trivial (fun b k => by omega) (fun t m H v e => by cases e)
    rw [put_same] at h2
    refine fin_val h2 hk (Fd := F i) ?_ (fun b i => Nat.le_refl _) (fun t m H v e => by cases e)
    obtain ⟨vs, Fi, h3, h4, h5⟩ := hsl
    exact ⟨vs, Fi, h3, h4, h5⟩
  · cases hk
  · rename_i s' y' hn1 hn2
    rcases hs with hs | ⟨xs, e⟩
    · exact fin_flat h hk hs fun t m H v e => opd_nobox σ _ t m H v e
    · exact (hn1 xs e).elim

theorem take_pick (h : Rel0 P C A σ a w F) {c y z : Operand} (ho : o.op = .pick c y z) (hok : opdOk P c = true ∧ opdOk P y = true ∧ opdOk P z = true) {K : St → Option R}
    (hk : (boolK (opd σ c) fun c => match opd σ (bif c then y else z) with
      | .val .bool b => K (σ.putD o.dst (.val .bool b))
      | _ => none) = some x) : Tk P o a w (Nx P C K x) := by
  have hc := opd_ok h hok.1
  rcases hc with hc | ⟨xs, e⟩
  · obtain ⟨b, hb, hk⟩ := boolK_some hc hk
    have hside : ∀ y' : Operand, opdOk P y' = true → (match opd σ y' with
      | .val .bool b => K (σ.putD o.dst (.val .bool b))
      | _ => none) = some x → Nx P C K x (a.put o.dst (a.eval y')) w := fun y' hy hk => by
      split at hk
      · rename_i b' hb'
        rcases opd_ok h hy with hs | ⟨xs, e⟩
        · rw [hb'] at hs; exact fin_flat h hk hs (fun _ _ _ _ e => by cases e)
        · rw [hb'] at e; cases e
      · cases hk
    cases b with
    | true => exact tk_val (v := a.eval y) (by simp [execOp, ho, hb, asBool]) (hside y hok.2.1 hk)
    | false => exact tk_val (v := a.eval z) (by simp [execOp, ho, hb, asBool]) (hside z hok.2.2 hk)
  · rw [e] at hk; cases hk

theorem take_load (h : Rel0 P C A σ a w F) (hti : ∀ i T, E.TI i = some T → layB P T (.inl i) = true) {t : Nat} {y : Operand} (ho : o.op = .load t y) (hok : opdOk P y = true) {K : St → Option R}
    (hk : loadK E σ t (opd σ y) o.dst K = some x) : Tk P o a w (Nx P C K x) := by
  unfold loadK at hk
  obtain ⟨T, hT, hk⟩ := tiK_some hk
  have hlay := hti _ _ hT
  have run : ∀ b off L, a.eval y = .pointer (some ⟨b, off, none⟩) → Has w b off L → L.length = T.sz → (∀ u ∈ L, u.oneCell' = true) → ∀ w', Same o w w' → (execOp a.eval o).run P w' = .ok (.value (mkV T L)) w' := fun b off L hy hL hl hone w' hw' => by
    have hw' := hw' (by rw [ho]; rfl)
    simp [execOp, ho, hy, Instr.loadAt, Instr.sureAddr, run_loadVar hlay (hL.ext hw') hl hone]
  rcases opd_ok h hok with hs | ⟨xs, e⟩
  rotate_left
  · rw [e] at hk; cases hk
  split at hk
  · rename_i t' v hv
    rw [hv] at hs
    split at hk
    · rename_i e; subst e
      obtain ⟨⟨b, off, sp⟩, h1, h2, L, h3, h4, h5⟩ := hs
      simp only [List.cons.injEq, and_true] at h1
      simp only at h2; subst h2
      exact tk_val (run b off L h1 (fun j u hu => (h4 j u hu).1) h3 (Ro.one _ h5)) (fin_flat h hk ⟨L, rfl, h5⟩ (fun _ _ _ _ e => by cases e))
    · cases hk
  · rename_i r p snap hv
    rw [hv] at hs
    split at hk
    · rename_i hsn
      obtain ⟨hr, t', m', H', v', cs', ad', F', h1, h2, h3, h4, h5, h6⟩ := at_ok h hk
      obtain ⟨pl, b, off, g1, g2, g3, g4⟩ := hs.2 hsn
      rw [h3] at g1
      injection g1 with g1
      subst g1
      simp only at g2
      subst g2
      split at h1
      · rename_i e; subst e
        refine tk_val (run b off cs' g3 (h6 b off rfl) (Rep.length _ h4) (Rep.one _ h4)) ?_
        split at h1
        · rename_i hf
          split at h1
          · exact fin_flat h h1 ⟨cs', rfl, Rep.flat _ hf h4⟩ (fun _ _ _ _ e => by cases e)
          · cases h1
        · split at h1
          · rename_i hm
            split at h1
            · rename_i hH
              have hH := List.isEmpty_iff.1 hH; subst hH; subst hm
              exact fin_flat h h1 ⟨cs', rfl, Rep.ro _ (roMd_noOwn _) h4⟩ (fun _ _ _ _ e => by cases e)
            · cases h1
          · exact fin_flat h h1 (refRel_new h h3) (fun _ _ _ _ e => by cases e)
      · cases h1
    · cases hk
  · cases hk

theorem ce_setCell {b o b' i : Nat} {v u : Value} (hne : ¬ (b = b' ∧ o = i)) (h : ce w b' i = some u) : ce (w.setCell ⟨b, o, none⟩ v) b' i = some u := by
  by_cases hb : b = b'
  · subst hb
    cases hh : w.heap[b]? with
    | none => simp [ce, World.cell?, hh] at h
    | some ob =>
      cases ob with
      | map es clock =>
        have : (w.setCell ⟨b, o, none⟩ v).heap[b]? = w.heap[b]? := by simp [World.setCell, Array.getElem?_modify, hh]
        rw [ce_block this]; exact h
      | cells c e fr =>
        have h2 : (w.setCell ⟨b, o, none⟩ v).heap[b]? = some (.cells (c.setIfInBounds o v) e fr) := by simp [World.setCell, Array.getElem?_modify, hh]
        simp only [ce, World.cell?, hh, h2] at h ⊢
        rw [Array.getElem?_setIfInBounds_ne (fun e => hne ⟨rfl, e⟩)]
        exact h
      | _ => simp [ce, World.cell?, hh] at h
  · have : (w.setCell ⟨b, o, none⟩ v).heap[b']? = w.heap[b']? := by simp [World.setCell, Array.getElem?_modify, hb]
    rw [ce_block this]; exact h

/-- Cells are laid over. -/
theorem ext_setCells {b o : Nat} : ∀ (L : List Value) (w : World) (o : Nat), Ext w (w.setCells b o L) (rng b o L.length)
  | [], w, o => Ext.refl _ _
  | v :: L, w, o => by
    have ih := ext_setCells (b := b) (o := o + 1) L (w.setCell ⟨b, o, none⟩ v) (o + 1)
    have h1 : Ext w (w.setCell ⟨b, o, none⟩ v) (rng b o (L.length + 1)) := by
      refine ⟨by simp, fun b' i hb hz u hu => ?_, fun b' n hn => ?_, fun b' i hb => by simp, rfl, rfl, rfl, fun b' hb hz => ?_⟩
      · refine ce_setCell (fun e => ?_) hu
        obtain ⟨e1, e2⟩ := e
        subst e1; subst e2
        simp [rng] at hz
      · obtain ⟨c, e, fr, h1, h2, h3⟩ := hn
        by_cases hbb : b = b'
        · subst hbb
          exact ⟨c.setIfInBounds o v, e, fr, by simp [World.setCell, Array.getElem?_modify, h1], by simp [h2], h3⟩
        · exact ⟨c, e, fr, by simp [World.setCell, Array.getElem?_modify, hbb, h1], h2, h3⟩
      · have hne : b ≠ b' := fun e => by
          subst e
          have := hz o
          simp [rng] at this
        simp [World.setCell, Array.getElem?_modify, hne]
    exact h1.trans ih fun b' i hb hz => by
      simp only [rng] at hz ⊢
      split at hz
      · cases hz
      · rename_i hn; rw [if_neg]; omega

theorem has_setCells {w : World} {b o : Nat} {L : List Value} (h : ∀ j, j < L.length → (w.cell? ⟨b, o + j, none⟩).isSome = true) (hone : ∀ u ∈ L, u.oneCell' = true) : Has (w.setCells b o L) b o L := by
  intro j u hu
  have hj := (List.getElem?_eq_some_iff.1 hu)
  obtain ⟨hj, e⟩ := hj
  refine cell_ce ?_ (hone u (List.mem_of_getElem? hu))
  rw [World.cell?_setCells_in b L o w h j hj, e]

theorem step_store (h : Rel0 P C A σ a w F) (hti : ∀ i T, E.TI i = some T → layB P T (.inl i) = true) {t : Nat} {y z : Operand} (ho : o.op = .store t y z) (hd : o.dst = none) (hok : opdOk P y = true ∧ opdOk P z = true) {mv : Bool} {K : St → Option R}
    (hk : storeK E σ t (opd σ y) (opd σ z) mv K = some x) : o.wp P a w (Nx P C K x) Q := by
  unfold storeK at hk
  obtain ⟨T, hT, hk⟩ := tiK_some hk
  have hlay := hti _ _ hT
  rcases opd_ok h hok.1 with hs | ⟨xs, e⟩
  rotate_left
  · rw [e] at hk; cases hk
  split at hk
  · rename_i r p snap hv
    rw [hv] at hs
    split at hk
    · rename_i hsn
      split at hk
      · obtain ⟨pl, b, off, g1, g2, g3, g4⟩ := hs.2 hsn
        rcases opd_ok h hok.2 with hz | ⟨xs, e⟩
        rotate_left
        · rw [e] at hk; simp [useK] at hk
        obtain ⟨A', σ', F', m, v, cs, Fv, k1, k2, k3, k4, kr, k5, k6⟩ := use_ok h hz hk
        obtain ⟨hr, m2, H2, v2, cs2, ad2, F2, q1, q2, q3, q4, q5, q6⟩ := set_ok k3 k1
        -- the place is where the address leads
        have hpl : ad2 = some (b, off) := by
          unfold place at g1 q2
          cases hR : rootPl w (tmp a r) (σ'.get r) with
          | none => rw [hR] at q2; cases q2
          | some R1 =>
            rw [hR] at q2
            obtain ⟨H0, hR0⟩ := kr w (tmp a r) r R1 hR
            rw [hR0] at g1
            have := (plc_H p R1.t g1 q2).2.2
            simp only at this
            rw [this, g2]
        subst hpl
        obtain ⟨hhas, hfr⟩ := q5 b off rfl
        have hl := Rep.length _ k6
        have hl2 := Rep.length _ q3
        have hone := Rep.one _ k6
        have hone2 := Rep.one _ q3
        have hcells : ∀ j, j < cs.length → (w.cell? ⟨b, off + j, none⟩).isSome = true := fun j hj => by
          rw [ce_cell (hhas j _ (List.getElem?_eq_getElem (by omega))) (hone2 _ (List.getElem_mem _))]; rfl
        have hst := run_storeCells_cells (P := P) b off cs 0 w (by simpa using hcells) (fun j hj => by simpa using hfr j (by omega)) hone
        have hcv : (mkV T cs).cells.toList = cs := mkV_cells hl hone
        have hsz : (mkV T cs).cells.size = T.sz := by rw [← hl, ← Array.length_toList, hcv]
        have hrun : (execOp a.eval o).run P w = .ok .skip (w.setCells b off cs) := by
          simp [execOp, ho, g3, k5, Instr.storeAt, Instr.sureAddr, storeVar, run_sizeOf hlay, hsz, hcv, hst]
        refine wp_skip' hrun hd ?_
        have hrep : Rep P (w.setCells b off cs) A' T m [] v cs Fv := by
          refine Rep.mono (fun _ _ h => h) (fun b' i ha u hu => ?_) (ext_setCells (b := b) (o := off) cs w off).blk _ k6 (fun _ _ => Nat.le_refl _) (fun b' i hp u hu => ?_)
          · refine (ext_setCells (b := b) (o := off) cs w off).cell b' i (k3.bnd b' i (.inr ha)) ?_ u hu
            have h1 := q4 b' i; have h2 := le_sumF F' hr b' i
            rcases Nat.eq_zero_or_pos (rngO (some (b, off)) T.sz b' i) with h0 | h0
            · rw [hl]; exact h0
            · exact absurd ha (k3.dis b' i (by omega))
          · have h1 := q4 b' i; have h2 := le_sumF F' hr b' i; have h3 := k3.tot b' i
            refine (ext_setCells (b := b) (o := off) cs w off).cell b' i (k3.bnd b' i (.inl (by omega))) ?_ u hu
            rw [hl]
            show rngO (some (b, off)) T.sz b' i = 0
            omega
        have hext : Ext w (w.setCells b off cs) (fun b' i => (0 + Fv b' i) + (F2 b' i + rngO (some (b, off)) T.sz b' i)) := (ext_setCells (b := b) (o := off) cs w off).mono fun b' i hz => by
          have : rngO (some (b, off)) T.sz b' i = 0 := by have hz : (0 + Fv b' i) + (F2 b' i + rngO (some (b, off)) T.sz b' i) = 0 := hz; omega
          rw [hl]; exact this
        obtain ⟨A3, σ3, Fr, n1, n2, n3, _⟩ := q6 (w.setCells b off cs) A' cs Fv (fun _ _ => 0) hext (fun _ _ h => h) (fun _ _ h => .inl h) (fun b i => by omega) (fun b' o' e => by
            simp only [Option.some.injEq, Prod.mk.injEq] at e; obtain ⟨rfl, rfl⟩ := e; exact has_setCells hcells hone) (fun e => by cases e) hrep
        exact ⟨σ3, n1, A3, _, n3⟩
      · cases hk
    · cases hk
  · cases hk
end
end OT
