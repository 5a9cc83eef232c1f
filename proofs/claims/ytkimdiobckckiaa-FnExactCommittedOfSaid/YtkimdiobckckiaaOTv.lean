/- Operations, eighth part: conversions, slices that are made. -/
import Derived.Test.YtkimdiobckckiaaOTu
import Derived.Laws.BytesArg
set_option linter.unusedVariables false
set_option linter.unusedSimpArgs false
namespace OT
open Go

section
variable {P : Program} {C : Ctx} {A : Cells} {X : FP} {σ : St} {a : Act} {w : World} {F : Nat → FP} {R : Type} {x : R} {Q : Exit → Act → World → Prop} {o : Oper} {E : Env}

/-- A slice that is new. -/
theorem slc_new (h : Rel P C A X σ a w F) {K : St → Option R} {d : Option Tmp} {e : Ty} {m : Md} {v : List e.den} {c : Array Value} {cap : Nat} {el : TypeId} {fr : Nat × Nat} {Fi : Nat → FP} (hfr : c.size ≤ fr.1 ∨ fr.2 ≤ fr.1)
    (hk : K (σ.putD d (.own (.slc e) (.slc true m) [] v)) = some x) (hc : c.size = cap * e.sz) (hcap : cap ≤ maxLen) (hv : List.length v ≤ cap) (hX : ∀ b i, sumF (List.length v) Fi b i ≤ X b i)
    (hel : ∀ (i : Nat) (y : e.den), v[i]? = some y → ∃ L : List Value, L.length = e.sz ∧ (∀ j u, L[j]? = some u → c[i * e.sz + j]? = some u) ∧ Rep P w A e m [] y L (Fi i)) :
    Nx P C K x (a.put d (.slice (some ⟨w.heap.size, 0, none⟩) (List.length v) cap)) (w.alloc (.cells c el fr)) := by
  have h1 := h.alloc c el fr
  have hown := own_alloc w c el fr hfr
  rw [hc] at hown h1
  refine fin_val h1 hk (Fd := fun b i => rng w.heap.size 0 (cap * e.sz) b i + sumF (List.length v) Fi b i) ⟨_, (mkV_one (.slc e) _ rfl).symm, ?_⟩ (fun b i => by have := hX b i; omega) (fun _ _ _ _ e => by cases e)
  simp only [Rep, hole, List.any_nil, Bool.false_eq_true, if_false, Md.own, if_true, Md.e]
  refine ⟨_, cap, rfl, hv, hcap, (fun e => by cases e), fun ad had => ?_⟩
  injection had with had; subst had
  refine ⟨rfl, rfl, hown, Fi, fun _ _ => Nat.le_refl _, fun i y hy => ?_⟩
  obtain ⟨L, l1, l2, l3⟩ := hel i y hy
  have hi := (List.getElem?_eq_some_iff.1 hy).1
  refine ⟨L, l1, has_alloc w c el fr l2 (Rep.one _ l3), ?_⟩
  simp only [List.filterMap_nil]
  exact Rep.alloc h l3 (fun b k hp => h.bnd b k (.inl (by have := hX b k; have := le_sumF Fi hi b k; omega))) (ext_alloc w _)

theorem new_makeSlice (h : Rel0 P C A σ a w F) (hti : ∀ i T, E.TI i = some T → layB P T (.inl i) = true) {t : Nat} {y z : Operand} (ho : o.op = .makeSlice t y z) (hok : opdOk P y = true ∧ opdOk P z = true) {K : St → Option R}
    (hk : (tiK E t fun t => match t with
    | .slc e => intK (opd σ y) fun n => intK (opd σ z) fun c =>
      if e.zok then (if 0 ≤ n ∧ n ≤ c ∧ c ≤ (CAP : Int) then K (σ.putD o.dst (.own (.slc e) (ownMd (.slc e)) [] (List.replicate n.toNat e.zero))) else none) else none
    | _ => none) = some x) : o.wp P a w (fun a' w' => Nx P C K x a' w' ∧ Ext w w' (fun _ _ => 0)) Q := by
  obtain ⟨T, hT, hk⟩ := tiK_some hk
  have hlay := hti _ _ hT
  split at hk
  · rename_i e
    rcases opd_ok h hok.1 with hy | ⟨xs, e'⟩
    rotate_left
    · rw [e'] at hk; cases hk
    obtain ⟨k1, n, hn, hk⟩ := intK_some hy hk
    rcases opd_ok h hok.2 with hz | ⟨xs, e'⟩
    rotate_left
    · rw [e'] at hk; cases hk
    obtain ⟨k2, c, hc, hk⟩ := intK_some hz hk
    split at hk
    · rename_i hzk
      split at hk
      · rename_i hb
        obtain ⟨el, hu, hsz, hle⟩ := lay_slc hlay
        obtain ⟨inf, i1, i2, i3, i4⟩ := infoOk_some (layB_info hle)
        obtain ⟨L, hL⟩ := zok_some e hzk
        obtain ⟨zv, z1, z2⟩ := i4 L hL
        obtain ⟨r1, r2, r3⟩ := zc_ok (P := P) (w := w) (A := A) e hL hle
        have hbytes : (inf.bytes : Int) * c ≤ 281474976710656 := by
          have h1 : (inf.bytes : Int) ≤ 512 := by omega
          have h2 : (inf.bytes : Int) * c ≤ 512 * c := Int.mul_le_mul_of_nonneg_right h1 (by omega)
          simp only [CAP] at hb
          omega
        have hrun := run_make (P := P) w t el inf zv hu i1 z1 k1 k2 n c hb.1 hb.2.1 hbytes (by simp only [CAP] at hb; omega)
        have hzs : zv.cells.size = e.sz := by rw [← Array.length_toList, z2, r3]
        have hlen : List.length (List.replicate n.toNat e.zero) = n.toNat := by simp
        refine wp_val (v := .slice (some ⟨w.heap.size, 0, none⟩) n.toNat c.toNat) (w' := w.alloc (.cells (madeCells zv.cells (c.toNat * inf.size)) el)) ?_ ?_
        · unfold execOp
          simp only [ho, hn, hc, Sem.run_bind, hrun, Result.andThen_ok, Sem.run_pure]
        · refine ⟨?_, ext_alloc w _⟩
          have hnx := slc_new h (K := K) (d := o.dst) (v := List.replicate n.toNat e.zero) (c := madeCells zv.cells (c.toNat * inf.size)) (cap := c.toNat) (el := el) (fr := (0, 0)) (m := ownMd e) (Fi := fun _ _ _ => 0) (.inr (Nat.le_refl _)) hk
            (by rw [size_madeCells, i2]) (by simp only [CAP] at hb; simp only [maxLen]; omega) (by rw [hlen]; omega) (fun b i => by rw [sumF_zero]; exact Nat.le_refl _)
            (fun i y hy => by
              have hi : i < n.toNat := by have := (List.getElem?_eq_some_iff.1 hy).1; simpa using this
              have hy : y = e.zero := by simp only [List.getElem?_replicate, hi, if_true, Option.some.injEq] at hy; exact hy.symm
              subst hy
              refine ⟨L, r3, fun j u hu => ?_, r1⟩
              have hj : j < e.sz := r3 ▸ (List.getElem?_eq_some_iff.1 hu).1
              have hlt : i * e.sz + j < c.toNat * e.sz := by
                have : (i + 1) * e.sz ≤ c.toNat * e.sz := Nat.mul_le_mul_right _ (by omega)
                rw [Nat.add_mul] at this; omega
              have hmod : (i * e.sz + j) % e.sz = j := by rw [Nat.mul_comm, Nat.mul_add_mod]; exact Nat.mod_eq_of_lt hj
              have hzu : zv.cells[j]? = some u := by rw [← Array.getElem?_toList, z2]; exact hu
              obtain ⟨hjs, hzu'⟩ := Array.getElem?_eq_some_iff.1 hzu
              unfold madeCells
              rw [i2, Array.getElem?_map, Array.getElem?_range]
              simp only [hlt, if_true, Option.map_some, hzs, hmod]
              rw [getElem!_pos _ j hjs, hzu'])
          rw [hlen] at hnx
          exact hnx
      · cases hk
    · cases hk
  · cases hk

/-- Numbers and texts. -/
theorem take_convert (h : Rel0 P C A σ a w F) (hti : ∀ i T, E.TI i = some T → layB P T (.inl i) = true) {s t : Nat} {y : Operand} (ho : o.op = .convert s t y) (hok : opdOk P y = true) (hnf : ∀ T, E.TI t = some T → T.flat = true) {K : St → Option R}
    (hk : convK E σ s t (opd σ y) o.dst K = some x) : Tk P o a w (Nx P C K x) := by
  unfold convK at hk
  obtain ⟨S, hS, hk⟩ := tiK_some hk
  obtain ⟨T, hT, hk⟩ := tiK_some hk
  have hlS := hti _ _ hS
  have hlT := hti _ _ hT
  rcases opd_ok h hok with hs | ⟨xs, e⟩
  rotate_left
  · rw [e] at hk; split at hk <;> first | (cases hk; done) | (split at hk <;> first | (cases hk; done) | (simp [readK] at hk; done))
  split at hk
  · rename_i k
    split at hk
    · rename_i k' n hv
      rw [hv] at hs
      have e := val_int hs
      split at hk
      · rename_i hSe
        obtain ⟨dS, hd, _⟩ := layB_isAgg hlS
        refine tk_val (v := .int k (k.wrap (toI k' n))) (fun w' _ => ?_) (fin_flat h hk ⟨[_], rfl, by simp only [Ro, toI_ofI]⟩ (fun _ _ _ _ e => by cases e))
        unfold execOp
        simp only [ho, e, Sem.run_bind]
        have : (convert s t (.int k' (toI k' n))).run P w' = .ok (.int k (k.wrap (toI k' n))) w' := by
          unfold convert
          simp only [Sem.run_bind, run_underlying hd, run_underlying (lay_int hlT), Result.andThen_ok]
          cases dS <;> rfl
        simp only [this, Result.andThen_ok, Sem.run_pure]
      · cases hk
    · cases hk
  · split at hk
    · split at hk
      · rename_i b hv
        rw [hv] at hs
        have e := val_str hs
        refine tk_val (v := .string ⟨List.toArray b⟩) (fun w' _ => ?_) (fin_flat h hk ⟨[_], rfl, rfl⟩ (fun _ _ _ _ e => by cases e))
        unfold execOp
        have : (convert s t (.string ⟨List.toArray b⟩)).run P w' = .ok (.string ⟨List.toArray b⟩) w' := by
          unfold convert
          simp only [Sem.run_bind, run_underlying (lay_str hlS), run_underlying (lay_str hlT), Result.andThen_ok]
          rfl
        simp only [ho, e, Sem.run_bind, this, Result.andThen_ok, Sem.run_pure]
      · cases hk
    · obtain ⟨v, cs, hk, h1, h2⟩ := read_ok h hs hk
      obtain ⟨el, hu, _, hle⟩ := lay_slc hlS
      obtain ⟨xa, cap, q1, q2, q3, q4⟩ := h2
      subst q1
      rw [mkV_one _ _ rfl] at h1
      have v8 : List UInt8 := v
      have hrun : ∀ w', Same o w w' → (convert s t (a.eval y)).run P w' = .ok (.string ⟨List.toArray v⟩) w' := fun w' hw' => by
        have hw' := hw' (by rw [ho]; rfl)
        rw [h1]
        cases xa with
        | none =>
          have : v = [] := List.eq_nil_of_length_eq_zero (q3 rfl)
          subst this
          exact run_convert_bytes_nil w' s el hu (lay_int hle) _ _ t (lay_str hlT)
        | some ad =>
          obtain ⟨g1, g2⟩ := q4 _ rfl
          refine run_convert_bytes_back w' s t el _ cap v hu (lay_int hle) (lay_str hlT) fun j hj => ?_
          obtain ⟨L, l1, l2, l3⟩ := g2 j _ (List.getElem?_eq_getElem hj)
          simp only [Ro] at l3
          subst l3
          have := (l2 0 _ rfl).1
          obtain ⟨b, off, sp⟩ := ad
          have hsp := g1 (by omega)
          simp only at hsp
          subst hsp
          rw [addr_add]
          simp only [Ty.sz, Nat.mul_one, Nat.add_zero] at this
          exact ce_cell (hw'.cell _ _ (ce_lt this) rfl _ this) rfl
      refine tk_val (v := .string ⟨List.toArray v⟩) (fun w' hw' => ?_) (fin_flat h hk ⟨[_], rfl, rfl⟩ (fun _ _ _ _ e => by cases e))
      unfold execOp
      simp only [ho, Sem.run_bind, hrun w' hw', Result.andThen_ok, Sem.run_pure]
    · cases hk
  · have := hnf _ hT
    simp [Ty.flat] at this
  · cases hk

/-- A conversion of what nobody turns. -/
theorem take_convert_ar (h : Rel0 P C A σ a w F) (hti : ∀ i T, E.TI i = some T → layB P T (.inl i) = true) {s t : Nat} {y : Operand} (ho : o.op = .convert s t y) (hok : opdOk P y = true) (hnf : ∀ T, E.TI t = some T → T.flat = true) (har : (match opd σ y with | .val (.int _) _ => true | .val .str _ => true | .val (.slc (.int .u8)) _ => true | _ => false) = true) {K : St → Option R}
    (hk : convK E σ s t (opd σ y) o.dst K = some x) :
    ∃ v, (∀ w', (∀ b i, A b i → ∀ u, ce w b i = some u → ce w' b i = some u) → (execOp a.eval o).run P w' = .ok (.value v) w') ∧ Nx P C K x (a.put o.dst v) w := by
  unfold convK at hk
  obtain ⟨S, hS, hk⟩ := tiK_some hk
  obtain ⟨T, hT, hk⟩ := tiK_some hk
  have hlS := hti _ _ hS
  have hlT := hti _ _ hT
  rcases opd_ok h hok with hs | ⟨xs, e⟩
  rotate_left
  · rw [e] at hk; split at hk <;> first | (cases hk; done) | (split at hk <;> first | (cases hk; done) | (simp [readK] at hk; done))
  split at hk
  · rename_i k
    split at hk
    · rename_i k' n hv
      rw [hv] at hs
      have e := val_int hs
      split at hk
      · rename_i hSe
        obtain ⟨dS, hd, _⟩ := layB_isAgg hlS
        refine ⟨.int k (k.wrap (toI k' n)), (fun w' _ => ?_), fin_flat h hk ⟨[_], rfl, by simp only [Ro, toI_ofI]⟩ (fun _ _ _ _ e => by cases e)⟩
        unfold execOp
        simp only [ho, e, Sem.run_bind]
        have : (convert s t (.int k' (toI k' n))).run P w' = .ok (.int k (k.wrap (toI k' n))) w' := by
          unfold convert
          simp only [Sem.run_bind, run_underlying hd, run_underlying (lay_int hlT), Result.andThen_ok]
          cases dS <;> rfl
        simp only [this, Result.andThen_ok, Sem.run_pure]
      · cases hk
    · cases hk
  · split at hk
    · split at hk
      · rename_i b hv
        rw [hv] at hs
        have e := val_str hs
        refine ⟨.string ⟨List.toArray b⟩, (fun w' _ => ?_), fin_flat h hk ⟨[_], rfl, rfl⟩ (fun _ _ _ _ e => by cases e)⟩
        unfold execOp
        have : (convert s t (.string ⟨List.toArray b⟩)).run P w' = .ok (.string ⟨List.toArray b⟩) w' := by
          unfold convert
          simp only [Sem.run_bind, run_underlying (lay_str hlS), run_underlying (lay_str hlT), Result.andThen_ok]
          rfl
        simp only [ho, e, Sem.run_bind, this, Result.andThen_ok, Sem.run_pure]
      · cases hk
    · have hop : ∃ v', opd σ y = .val (.slc (.int .u8)) v' := by
        split at har
        · rename_i e; rw [e] at hk; simp [readK, castK] at hk
        · rename_i e; rw [e] at hk; simp [readK, castK] at hk
        · rename_i v' e; exact ⟨v', e⟩
        · cases har
      obtain ⟨v, hv⟩ := hop
      rw [hv] at hs hk
      simp only [readK] at hk
      obtain ⟨_, hk⟩ := castK_some hk
      obtain ⟨cs, h1, h2⟩ := hs
      obtain ⟨el, hu, _, hle⟩ := lay_slc hlS
      obtain ⟨xa, cap, q1, q2, q3, q4⟩ := h2
      subst q1
      rw [mkV_one _ _ rfl] at h1
      have v8 : List UInt8 := v
      have hrun : ∀ w', (∀ b i, A b i → ∀ u, ce w b i = some u → ce w' b i = some u) → (convert s t (a.eval y)).run P w' = .ok (.string ⟨List.toArray v⟩) w' := fun w' hw' => by
        rw [h1]
        cases xa with
        | none =>
          have : v = [] := List.eq_nil_of_length_eq_zero (q3 rfl)
          subst this
          exact run_convert_bytes_nil w' s el hu (lay_int hle) _ _ t (lay_str hlT)
        | some ad =>
          obtain ⟨g1, g2⟩ := q4 _ rfl
          refine run_convert_bytes_back w' s t el _ cap v hu (lay_int hle) (lay_str hlT) fun j hj => ?_
          obtain ⟨L, l1, l2, l3⟩ := g2 j _ (List.getElem?_eq_getElem hj)
          simp only [Ro] at l3
          subst l3
          have hl2 := l2 0 _ rfl
          obtain ⟨b, off, sp⟩ := ad
          have hsp := g1 (by omega)
          simp only at hsp
          subst hsp
          rw [addr_add]
          simp only [Ty.sz, Nat.mul_one, Nat.add_zero] at hl2
          exact ce_cell (hw' _ _ hl2.2 _ hl2.1) rfl
      refine ⟨.string ⟨List.toArray v⟩, (fun w' hw' => ?_), fin_flat h hk ⟨[_], rfl, rfl⟩ (fun _ _ _ _ e => by cases e)⟩
      unfold execOp
      simp only [ho, Sem.run_bind, hrun w' hw', Result.andThen_ok, Sem.run_pure]
    · cases hk
  · have := hnf _ hT
    simp [Ty.flat] at this
  · cases hk

theorem new_convert (h : Rel0 P C A σ a w F) (hti : ∀ i T, E.TI i = some T → layB P T (.inl i) = true) {s t : Nat} {y : Operand} (ho : o.op = .convert s t y) (hok : opdOk P y = true) {K : St → Option R}
    (hk : convK E σ s t (opd σ y) o.dst K = some x) : o.wp P a w (fun a' w' => Nx P C K x a' w' ∧ Ext w w' (fun _ _ => 0)) Q := by
  unfold convK at hk
  obtain ⟨S, hS, hk⟩ := tiK_some hk
  obtain ⟨T, hT, hk⟩ := tiK_some hk
  have hlS := hti _ _ hS
  have hlT := hti _ _ hT
  rcases opd_ok h hok with hs | ⟨xs, e⟩
  rotate_left
  · rw [e] at hk; split at hk <;> first | (cases hk; done) | (split at hk <;> first | (cases hk; done) | (simp [readK] at hk; done))
  split at hk
  · rename_i k
    split at hk
    · rename_i k' n hv
      rw [hv] at hs
      have e := val_int hs
      split at hk
      · rename_i hSe
        obtain ⟨dS, hd, _⟩ := layB_isAgg hlS
        refine wp_val (v := .int k (k.wrap (toI k' n))) (w' := w) ?_ ⟨fin_flat h hk ⟨[_], rfl, by simp only [Ro, toI_ofI]⟩ (fun _ _ _ _ e => by cases e), Ext.refl _ _⟩
        unfold execOp
        simp only [ho, e, Sem.run_bind]
        have : (convert s t (.int k' (toI k' n))).run P w = .ok (.int k (k.wrap (toI k' n))) w := by
          unfold convert
          simp only [Sem.run_bind, run_underlying hd, run_underlying (lay_int hlT), Result.andThen_ok]
          cases dS <;> rfl
        simp only [this, Result.andThen_ok, Sem.run_pure]
      · cases hk
    · cases hk
  · split at hk
    · split at hk
      · rename_i b hv
        rw [hv] at hs
        have e := val_str hs
        refine wp_val (v := .string ⟨List.toArray b⟩) (w' := w) ?_ ⟨fin_flat h hk ⟨[_], rfl, rfl⟩ (fun _ _ _ _ e => by cases e), Ext.refl _ _⟩
        unfold execOp
        have : (convert s t (.string ⟨List.toArray b⟩)).run P w = .ok (.string ⟨List.toArray b⟩) w := by
          unfold convert
          simp only [Sem.run_bind, run_underlying (lay_str hlS), run_underlying (lay_str hlT), Result.andThen_ok]
          rfl
        simp only [ho, e, Sem.run_bind, this, Result.andThen_ok, Sem.run_pure]
      · cases hk
    · obtain ⟨v, cs, hk, h1, h2⟩ := read_ok h hs hk
      obtain ⟨el, hu, _, hle⟩ := lay_slc hlS
      obtain ⟨xa, cap, q1, q2, q3, q4⟩ := h2
      subst q1
      rw [mkV_one _ _ rfl] at h1
      have v8 : List UInt8 := v
      have hrun : (convert s t (a.eval y)).run P w = .ok (.string ⟨List.toArray v⟩) w := by
        rw [h1]
        cases xa with
        | none =>
          have : v = [] := List.eq_nil_of_length_eq_zero (q3 rfl)
          subst this
          exact run_convert_bytes_nil w s el hu (lay_int hle) _ _ t (lay_str hlT)
        | some ad =>
          obtain ⟨g1, g2⟩ := q4 _ rfl
          refine run_convert_bytes_back w s t el _ cap v hu (lay_int hle) (lay_str hlT) fun j hj => ?_
          obtain ⟨L, l1, l2, l3⟩ := g2 j _ (List.getElem?_eq_getElem hj)
          simp only [Ro] at l3
          subst l3
          have := (l2 0 _ rfl).1
          obtain ⟨b, off, sp⟩ := ad
          have hsp := g1 (by omega)
          simp only at hsp
          subst hsp
          rw [addr_add]
          simp only [Ty.sz, Nat.mul_one, Nat.add_zero] at this
          exact ce_cell (this) rfl
      refine wp_val (v := .string ⟨List.toArray v⟩) (w' := w) ?_ ⟨fin_flat h hk ⟨[_], rfl, rfl⟩ (fun _ _ _ _ e => by cases e), Ext.refl _ _⟩
      unfold execOp
      simp only [ho, Sem.run_bind, hrun, Result.andThen_ok, Sem.run_pure]
    · cases hk
  · split at hk
    · rename_i b hv
      rw [hv] at hs
      have e := val_str hs
      split at hk
      · rename_i hSe
        rw [hSe] at hlS
        split at hk
        rotate_left
        · cases hk
        rename_i hcap
        obtain ⟨el, hu, _, hle⟩ := lay_slc hlT
        have hrun := run_bytes_of_string (P := P) w s t el ⟨List.toArray b⟩ (lay_str hlS) hu (lay_int hle)
        have hlen : (⟨List.toArray b⟩ : ByteArray).size = List.length b := rfl
        have hge := grownCap_ge w (List.length b) 0 el
        have hle2 := grownCap_le_maxLen w (List.length b) 0 el (by simp only [CAP] at hcap; simp only [maxLen]; omega)
        rw [hlen] at hrun
        have hsz : (bytesRow ⟨List.toArray b⟩ (grownCap w (List.length b) 0 el)).size = grownCap w (List.length b) 0 el := by
          simp [bytesRow, ByteArray.size]; omega
        refine wp_val ?_ ⟨slc_new (h.drew) (K := K) (d := o.dst) (e := .int .u8) (v := b) (m := .leaf) (Fi := fun _ _ _ => 0) (cap := grownCap w (List.length b) 0 el) (el := el) (fr := ((bytesRow ⟨List.toArray b⟩ (grownCap w (List.length b) 0 el)).size, (bytesRow ⟨List.toArray b⟩ (grownCap w (List.length b) 0 el)).size + 1)) (c := bytesRow ⟨List.toArray b⟩ (grownCap w (List.length b) 0 el)) (.inl (Nat.le_refl _)) hk
          (by rw [hsz]; simp [Ty.sz]) hle2 hge (fun b i => by rw [sumF_zero]; exact Nat.le_refl _) (fun i y hy => ?_), (ext_drew w).trans (ext_alloc w.drew _) (fun _ _ _ _ => rfl)⟩
        · unfold execOp
          simp only [ho, e, Sem.run_bind, hrun, Result.andThen_ok, Sem.run_pure]
          rfl
        · have hi := (List.getElem?_eq_some_iff.1 hy).1
          have hb := bytesRow_at ⟨List.toArray b⟩ (grownCap w (List.length b) 0 el) i (by simpa using hi)
          refine ⟨[.int .u8 (UInt8.toNat y)], rfl, fun j u hu => ?_, rfl⟩
          have hj : j = 0 := by have := (List.getElem?_eq_some_iff.1 hu).1; simpa using this
          subst hj
          simp only [Ty.sz, Nat.mul_one, Nat.add_zero, hb]
          have := (List.getElem?_eq_some_iff.1 hy).2
          simp at hu ⊢
          rw [this, hu]
      · cases hk
    · cases hk
  · cases hk
end
end OT
