/- From a function's contract to its row: data are read; a law that gives true. -/
import Derived.Test.YtkimdiobckckiaaOUi
import Derived.ProofKit
import Derived.Deep.Slices
set_option linter.unusedVariables false
set_option linter.unusedSimpArgs false
namespace OT
open Go

/-- All there was. -/
def OLD (w : World) : Cells := fun b _ => b < w.heap.size

/-- The kinds of data that are handed from outside. -/
def argT : Ty → Bool
  | .int _ | .bool | .str | .unit => true
  | .pair a b => argT a && argT b
  | .slc e => argT e
  | _ => false

/-- Data that are handed fit their kinds and are no longer than may be. -/
def okD : (T : Ty) → T.den → Prop
  | .int k, n => k.min ≤ toI k n ∧ toI k n ≤ k.max
  | .str, s => List.length s ≤ maxLen
  | .pair a b, v => okD a v.1 ∧ okD b v.2
  | .slc e, v => List.length v ≤ maxLen ∧ ∀ x ∈ (v : List e.den), okD e x
  | _, _ => True
def okA : (ps : List (PM × Ty)) → (tupT (ps.map (·.2))).den → Prop
  | [], _ => True
  | (_, T) :: ps, v => okD T v.1 ∧ okA ps v.2

section
variable {P : Program} {w : World} {H : Type} {enc : TypeId × Value → H}

theorem cells_sz {T : Ty} {i : TypeId} (h : layB P T (.inl i) = true) : P.cellsOf i = T.sz := by
  obtain ⟨inf, h1, h2, _⟩ := infoOk_some (layB_info h)
  simp [Program.cellsOf, h1, h2]

theorem add_none {a : Addr} {k : Nat} {u : Value} (h : w.cell? (a.add k) = some u) (hk : k = 0 ∨ a.spot = none) : a.spot = none := by
  rcases hk with rfl | hk
  · unfold Addr.add at h
    rw [if_pos rfl] at h
    unfold World.cell? at h
    split at h
    · split at h
      · cases h
      · rename_i hs
        cases hsp : a.spot with
        | none => rfl
        | some s => rw [hsp] at hs; simp at hs
    · cases h
  · exact hk

theorem trod_ro : ∀ (T : Ty), argT T = true →
    (∀ i, layB P T (.inl i) = true → ∀ fuel cs x, DataW.trod enc P w 0 (fun _ => true) true fuel i cs = some x → ∃ v : T.den, okD T v ∧ Ro P w (OLD w) T v cs) ∧
    (∀ fs off, layB P T (.inr (fs, off)) = true → ∀ n (cs : List Value), cs.length = off + T.sz → (∀ f ∈ fs, ∃ x, DataW.trod enc P w 0 (fun _ => true) true n f.type ((cs.drop f.offset).take (P.cellsOf f.type)) = some x) → ∃ v : T.den, okD T v ∧ Ro P w (OLD w) T v (cs.drop off)) := by
  intro T
  induction T with
  | int k =>
    intro _
    refine ⟨fun i hl fuel cs x h => ?_, fun fs off hl => by simp [layB] at hl⟩
    obtain ⟨n, rfl, _, hwf⟩ := DataW.trod_int (lay_int hl) h
    simp only [Lit.wf, Bool.and_eq_true, decide_eq_true_eq] at hwf
    cases k with
    | u8 =>
      have h1 : toI .u8 (UInt8.ofInt n) = n := by
        have := toI_inI .u8 n (fun _ => by
          have h1 : (0 : Int) ≤ n := hwf.1
          have h2 : n ≤ (255 : Int) := hwf.2
          omega)
        exact this
      refine ⟨(UInt8.ofInt n : UInt8), ?_, ?_⟩
      · show IntKind.u8.min ≤ toI .u8 (UInt8.ofInt n) ∧ toI .u8 (UInt8.ofInt n) ≤ IntKind.u8.max
        rw [h1]; exact hwf
      · show [Value.int .u8 n] = [Value.int .u8 (toI .u8 (UInt8.ofInt n))]
        rw [h1]
    | _ => exact ⟨n, hwf, rfl⟩
  | bool =>
    intro _
    refine ⟨fun i hl fuel cs x h => ?_, fun fs off hl => by simp [layB] at hl⟩
    have hu : P.underlying i = some .bool := by
      simp only [layB, Bool.and_eq_true] at hl
      have h2 := hl.2
      split at h2
      · assumption
      · cases h2
    obtain ⟨b, rfl, _⟩ := DataW.trod_bool hu h
    exact ⟨b, trivial, rfl⟩
  | str =>
    intro _
    refine ⟨fun i hl fuel cs x h => ?_, fun fs off hl => by simp [layB] at hl⟩
    obtain ⟨s, rfl, _, hsm⟩ := DataW.trod_string (lay_str hl) h
    exact ⟨s.data.toList, (by show s.data.toList.length ≤ maxLen; rw [Array.length_toList]; exact hsm), by simp only [Ro]⟩
  | unit =>
    intro _
    refine ⟨fun i hl fuel cs x h => ?_, fun fs off hl n cs hlen _ => ⟨(), trivial, ?_⟩⟩
    · simp only [layB, Bool.and_eq_true] at hl
      have h2 := hl.2
      split at h2
      · rename_i fs hu
        obtain ⟨xs, n, _, _, hlen, _⟩ := DataW.trod_struct hu h
        have hsz : P.cellsOf i = 0 := by
          obtain ⟨inf, h1, h3, _⟩ := infoOk_some hl.1
          simp [Program.cellsOf, h1, h3, Ty.sz]
        rw [hsz] at hlen
        exact ⟨(), trivial, by simp only [Ro]; exact List.eq_nil_of_length_eq_zero hlen⟩
      · cases h2
    · simp only [Ro]
      exact List.drop_of_length_le (by simp only [Ty.sz] at hlen; omega)
  | pair a b iha ihb =>
    intro ha
    simp only [argT, Bool.and_eq_true] at ha
    have hinr : ∀ fs off, layB P (.pair a b) (.inr (fs, off)) = true → ∀ n (cs : List Value), cs.length = off + (Ty.pair a b).sz → (∀ f ∈ fs, ∃ x, DataW.trod enc P w 0 (fun _ => true) true n f.type ((cs.drop f.offset).take (P.cellsOf f.type)) = some x) → ∃ v : (Ty.pair a b).den, okD (.pair a b) v ∧ Ro P w (OLD w) (.pair a b) v (cs.drop off) := by
      intro fs off hl n cs hlen hf
      cases fs with
      | nil => simp [layB] at hl
      | cons f r =>
        simp only [layB, Bool.and_eq_true, Nat.beq_eq, Nat.ble_eq] at hl
        obtain ⟨⟨⟨ho, _⟩, h1⟩, h2⟩ := hl
        simp only [Ty.sz] at hlen
        obtain ⟨x, hx⟩ := hf f List.mem_cons_self
        rw [ho, cells_sz h1] at hx
        obtain ⟨v1, o1, r1⟩ := (iha ha.1).1 _ h1 _ _ _ hx
        obtain ⟨v2, o2, r2⟩ := (ihb ha.2).2 r (off + a.sz) h2 n cs (by omega) (fun f' hf' => hf f' (List.mem_cons_of_mem _ hf'))
        exact ⟨(v1, v2), ⟨o1, o2⟩, r1, by rw [List.drop_drop]; exact r2⟩
    refine ⟨fun i hl fuel cs x h => ?_, hinr⟩
    have hl0 := hl
    simp only [layB, Bool.and_eq_true] at hl
    have h2 := hl.2
    split at h2
    · rename_i fs hu
      split at h2
      · rename_i f r hfs
        have h3 : layB P (.pair a b) (.inr (f :: r, 0)) = true := by
          simp only [layB, Nat.zero_add]; exact h2
        obtain ⟨xs, n, _, _, hlen, hxl, hfields⟩ := DataW.trod_struct hu h
        rw [cells_sz hl0] at hlen
        have := hinr (f :: r) 0 h3 n cs (by omega) (fun f' hf' => by
          rw [← hfs] at hf'
          obtain ⟨j, hj, e⟩ := List.mem_iff_getElem.1 hf'
          have hj' : j < fs.size := by simpa using hj
          have := hfields j f' (by rw [Array.getElem?_eq_getElem hj']; simpa using e)
          rw [this, List.getElem?_eq_getElem (by omega)]
          exact ⟨_, rfl⟩)
        simpa using this
      · cases h2
    · cases h2
  | slc e ih =>
    intro ha
    simp only [argT] at ha
    refine ⟨fun i hl fuel cs x h => ?_, fun fs off hl => by simp [layB] at hl⟩
    obtain ⟨el, hu, hsz, hle⟩ := lay_slc hl
    rcases DataW.trod_slice hu h with ⟨rfl, _⟩ | ⟨a, len, cap, elems, rest, n, _, rfl, _, _, hlc, hcm, hel, hels, hrest, _⟩
    · exact ⟨[], ⟨Nat.zero_le _, fun x hx => by cases hx⟩, none, 0, rfl, Nat.le_refl _, fun _ => rfl, fun ad e => by cases e⟩
    · rw [cells_sz hle] at hels hrest
      have hcell : ∀ k y, (w.cells? 0 (a.add (k * e.sz)) e.sz).bind (DataW.trod enc P w 0 (fun _ => true) true n el) = some y → ∃ cs', w.cells? 0 (a.add (k * e.sz)) e.sz = some cs' ∧ DataW.trod enc P w 0 (fun _ => true) true n el cs' = some y := fun k y hk => by
        cases hc : w.cells? 0 (a.add (k * e.sz)) e.sz with
        | none => rw [hc] at hk; cases hk
        | some cs' => rw [hc] at hk; exact ⟨cs', rfl, hk⟩
      have hspot : 0 < cap → a.spot = none := fun hpos => by
        have hfirst : ∃ cs', w.cells? 0 (a.add (0 * e.sz)) e.sz = some cs' := by
          by_cases hlen : 0 < len
          · have h0 := hels 0 hlen
            rw [List.getElem?_eq_getElem (by omega)] at h0
            obtain ⟨cs', h1, _⟩ := hcell 0 _ h0
            exact ⟨cs', h1⟩
          · obtain rfl : len = 0 := by omega
            obtain ⟨hr1, hr2⟩ := hrest rfl
            have h0 := hr2 0 (by omega)
            rw [List.getElem?_eq_getElem (by omega)] at h0
            obtain ⟨cs', h1, _⟩ := hcell (0 + 0) _ h0
            exact ⟨cs', by simpa using h1⟩
        obtain ⟨cs', h1⟩ := hfirst
        obtain ⟨_, hl1, h2⟩ := World.cells?_some h1
        have h3 := h2 0 (by omega)
        rw [List.getElem?_eq_getElem (by omega), Nat.zero_mul] at h3
        have h4 : (a.add 0).add 0 = a.add 0 := by unfold Addr.add; simp
        rw [h4] at h3
        exact add_none h3 (.inl rfl)
      have each : ∀ k : Fin len, ∃ v : e.den, okD e v ∧ ∃ L : List Value, L.length = e.sz ∧ (∀ j u, L[j]? = some u → ce w a.block (a.off + k.val * e.sz + j) = some u ∧ OLD w a.block (a.off + k.val * e.sz + j)) ∧ Ro P w (OLD w) e v L := fun k => by
        have h0 := hels k.val k.isLt
        rw [List.getElem?_eq_getElem (by have := k.isLt; omega)] at h0
        obtain ⟨cs', h1, h2⟩ := hcell k.val _ h0
        obtain ⟨v, ho, hv⟩ := (ih ha).1 _ hle _ _ _ h2
        obtain ⟨_, hl1, h3⟩ := World.cells?_some h1
        refine ⟨v, ho, cs', hl1, fun j u hu => ?_, hv⟩
        have hj := (List.getElem?_eq_some_iff.1 hu).1
        have h4 := h3 j (by omega)
        rw [hu] at h4
        have hsp := hspot (by have := k.isLt; omega)
        obtain ⟨b, off, sp⟩ := a
        simp only at hsp
        subst hsp
        rw [addr_add, addr_add] at h4
        have h5 : ce w b (off + k.val * e.sz + j) = some u := cell_ce h4 (Ro.one e hv u (List.mem_of_getElem? hu))
        exact ⟨h5, ce_lt h5⟩
      obtain ⟨f, hf⟩ := Classical.axiomOfChoice each
      refine ⟨List.ofFn f, ⟨by simp; omega, fun x hx => ?_⟩, some a, cap, by simp, by simpa using hlc, (fun e => by cases e), fun ad e => ?_⟩
      · obtain ⟨j, rfl⟩ := List.mem_ofFn.1 hx
        exact (hf j).1
      injection e with e
      subst e
      refine ⟨hspot, fun k y hk => ?_⟩
      rw [List.getElem?_ofFn] at hk
      split at hk
      · rename_i hlt
        injection hk with hk
        subst hk
        exact (hf ⟨k, hlt⟩).2
      · cases hk
  | _ => intro ha; simp [argT] at ha

/-- An argument is its data. -/
theorem arg_val {T : Ty} (ha : argT T = true) {i : TypeId} (hl : layB P T (.inl i) = true) {r : Reach} {b0 : Nat} {v : Value} (h : Value.okWide P w r b0 i v) : v = mkV T v.cells.toList := by
  cases T with
  | int k =>
    have hu := lay_int hl
    cases v <;> simp [Value.okWide, Cell.okWide, Cell.ok, hu] at h <;> simp [mkV, isAgg, Value.cells]
  | bool =>
    have hu : P.underlying i = some .bool := by
      simp only [layB, Bool.and_eq_true] at hl
      have h2 := hl.2
      split at h2
      · assumption
      · cases h2
    cases v <;> simp [Value.okWide, Cell.okWide, Cell.ok, hu] at h <;> simp [mkV, isAgg, Value.cells]
  | str =>
    have hu := lay_str hl
    cases v <;> simp [Value.okWide, Cell.okWide, Cell.ok, hu] at h <;> simp [mkV, isAgg, Value.cells]
  | slc e =>
    obtain ⟨el, hu, _⟩ := lay_slc hl
    cases v <;> simp [Value.okWide, Cell.okWide, Cell.ok, hu] at h <;> simp [mkV, isAgg, Value.cells]
  | unit =>
    simp only [layB, Bool.and_eq_true] at hl
    have h2 := hl.2
    split at h2
    · rename_i fs hu
      simp only [Value.okWide, hu] at h
      obtain ⟨cs, rfl, _⟩ := h
      simp [mkV, isAgg, Value.cells]
    · cases h2
  | pair a b =>
    simp only [layB, Bool.and_eq_true] at hl
    have h2 := hl.2
    split at h2
    · rename_i fs hu
      simp only [Value.okWide, hu] at h
      obtain ⟨cs, rfl, _⟩ := h
      simp [mkV, isAgg, Value.cells]
    · cases h2
  | _ => simp [argT] at ha

/-- Parameters that are read alone, by the program's tables. -/
def roLay (P : Program) : List (PM × Ty) → List TypeId → Bool
  | [], [] => true
  | (.ro, T) :: ps, t :: ts => argT T && layB P T (.inl t) && P.readableRec t && Nat.blt t P.types.size && roLay P ps ts
  | _, _ => false

theorem args_ro : ∀ (ps : List (PM × Ty)) (ts : List TypeId) (args : List Value) (ds : List (DataW H)) (p : List MemPlace) {b0 : Nat}, roLay P ps ts = true → DataW.TrodAll enc P w 0 (fun _ => true) true ts args ds p →
    (∀ (j : Nat) t v, ts[j]? = some t → args[j]? = some v → Value.okWide P w .any b0 t v) → ∃ v, okA ps v ∧ ArgsRel P w (OLD w) ps v args (fun _ _ => 0)
  | [], [], args, ds, p, b0, _, h, _ => by
    cases args with
    | nil => exact ⟨(), trivial, rfl⟩
    | cons _ _ => simp [DataW.TrodAll] at h
  | (.ro, T) :: ps, t :: ts, args, ds, p, b0, hl, h, hok => by
    simp only [roLay, Bool.and_eq_true] at hl
    cases args with
    | nil => simp [DataW.TrodAll] at h
    | cons v args =>
      cases ds with
      | nil => simp [DataW.TrodAll] at h
      | cons d ds =>
        obtain ⟨p1, q1, ⟨fuel, h1⟩, h2, _⟩ := h
        obtain ⟨x, hox, hx⟩ := (trod_ro T hl.1.1.1.1).1 t hl.1.1.1.2 _ _ _ h1
        obtain ⟨xs, hoxs, hxs⟩ := args_ro ps ts args ds q1 (b0 := b0) hl.2 h2 (fun j t' v' ht hv => hok (j + 1) t' v' ht hv)
        exact ⟨(x, xs), ⟨hox, hoxs⟩, v, args, fun _ _ => 0, fun _ _ => 0, rfl, fun _ _ => Nat.le_refl _, ⟨_, arg_val hl.1.1.1.1 hl.1.1.1.2 (hok 0 t v rfl rfl), hx⟩, hxs⟩

/-- What is read stays as it was. -/
theorem args_stay (hlo : laidOutB P = true) {W W' : World} (hb : RowKit.Below W.heap.size W W') {sp : Nat → Bool} : ∀ (ps : List (PM × Ty)) (ts : List TypeId) (args : List Value) (ds : List (DataW H)) (p : List MemPlace), roLay P ps ts = true → DataW.TrodAll enc P W 0 (fun _ => true) true ts args ds p →
    (∀ x ∈ p, x.block < W.heap.size) → (∀ x ∈ p, sp x.block = true) → DataW.TrodAll enc P W' 0 sp true ts args ds p
  | [], [], args, ds, p, _, h, _, _ => by
    cases args with
    | nil =>
      cases ds with
      | nil => exact h
      | cons _ _ => simp [DataW.TrodAll] at h
    | cons _ _ => simp [DataW.TrodAll] at h
  | (.ro, T) :: ps, t :: ts, args, ds, p, hl, h, hlt, hsp => by
    simp only [roLay, Bool.and_eq_true] at hl
    cases args with
    | nil => simp [DataW.TrodAll] at h
    | cons v args =>
      cases ds with
      | nil => simp [DataW.TrodAll] at h
      | cons d ds =>
        obtain ⟨p1, q1, h1, h2, rfl⟩ := h
        have ht : t < P.types.size := by have := hl.1.2; rwa [Nat.blt_eq] at this
        exact ⟨p1, q1, WideElems.Trod_stays hlo hl.1.1.2 ht h1 (fun x hx => hb.same (hlt x (List.mem_append_left _ hx))) (fun x hx => hsp x (List.mem_append_left _ hx)),
          args_stay hlo hb ps ts args ds q1 hl.2 h2 (fun x hx => hlt x (List.mem_append_right _ hx)) (fun x hx => hsp x (List.mem_append_right _ hx)), rfl⟩

/-- A law whose contract gives true. -/
theorem law_calls {f : FuncId} {cap : Bool} {ps : List (PM × Ty)} {Fn : (tupT (ps.map (·.2))).den → Option (tupT ([((Ty.bool, roMd .bool) : Ty × Md)].map (·.1) ++ mutTys ps)).den} (hs : Sound P f { cap := cap, ps := ps, rs := [(.bool, roMd .bool)], F := Fn }) (htrue : ∀ v, okA ps v → ∃ u, Fn v = some (true, u))
    {ts : List TypeId} (hl : roLay P ps ts = true) {args : List Value} {ds : List (DataW H)} {p : List MemPlace} (hA : DataW.TrodAll enc P w 0 (fun _ => true) true ts args ds p) {b0 : Nat} (hok : ∀ (j : Nat) t v, ts[j]? = some t → args[j]? = some v → Value.okWide P w .any b0 t v) :
    Calls P f args.toArray w fun e W' => e = .returned (.bool true) ∧ RowKit.Below w.heap.size w W' := by
  obtain ⟨v, hov, hv⟩ := args_ro ps ts args ds p hl hA hok
  obtain ⟨u, hu⟩ := htrue v hov
  refine (hs w (OLD w) (fun _ _ => 0) v args hv (fun _ _ => Nat.zero_le _) (fun b i h => by omega) (fun b i h => ?_) _ hu).mono fun e W' h => ?_
  · rcases h with h | h
    · omega
    · exact h
  · obtain ⟨rv, rfl, hext, A', G, GR, GM, _, _, _, _, _, _, _, hret, _⟩ := h
    obtain ⟨cs, h1, h2⟩ := hret
    simp only [splitR] at h1 h2
    have h2 : cs = [.bool true] := h2
    subst h2
    exact ⟨by rw [h1]; rfl, hext.os, hext.tape, hext.output, hext.size, fun b hb => hext.obj b hb fun _ => rfl⟩

/-- The row's postcondition. -/
theorem law_post {C : Checked} {f : Func} {s : ChangeSpec} {W W' : World} {args : Array Value} {ds : List (DataW H)} {p : List MemPlace} {apart fresh handsOn : Bool} (hlo : laidOutB P = true) {ps : List (PM × Ty)} {ts : List TypeId} (hts : f.params.toList = ts) (hl : roLay P ps ts = true) {tb : TypeId} (hr : f.resultTypes = #[tb]) (hu : P.underlying tb = some .bool)
    (hvars : s.vars = []) (hW : DataW.Whole enc P f.params.toList s.vars apart W args.toList ds [] p) (hA : DataW.TrodAll enc P W 0 (fun _ => true) true ts args.toList ds p) (hfn : s.fn H (ds ++ []) = { results := [.lit (.bool true)], args := ds }) (hb : RowKit.Below W.heap.size W W') :
    s.post enc P f apart fresh handsOn false W args (.bool true) W' := by
  have hlt : ∀ x ∈ p, x.block < W.heap.size := fun x hx => by simpa using hW.lt x hx
  refine ⟨ds, [], p, [], p, [], hW, ?_, ?_, ?_, World.keptBut_mono (fun x hx => ⟨hx, .inr (.inl hx)⟩) (hb.frame (· ∈ p)), fun e => by cases e⟩
  · rw [hfn, hr]
    exact ⟨[], [], RowKit.shut_bool hu true, rfl, rfl⟩
  · rw [hfn, hts]
    exact args_stay hlo hb ps ts args.toList ds p hl hA hlt (fun x hx => by simpa using hlt x hx)
  · rw [hfn, hvars]
    rfl
end
end OT
