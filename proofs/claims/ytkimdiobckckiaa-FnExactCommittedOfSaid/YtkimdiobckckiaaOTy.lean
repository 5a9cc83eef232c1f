/- Operations, eleventh part: slices that grow. -/
import Derived.Test.YtkimdiobckckiaaOTx
import Derived.Deep.AppendSrc
set_option linter.unusedVariables false
set_option linter.unusedSimpArgs false
namespace OT
open Go

section
variable {P : Program} {C : Ctx} {A : Cells} {X : FP} {σ : St} {a : Act} {w : World} {F : Nat → FP} {R : Type} {x : R} {Q : Exit → Act → World → Prop} {o : Oper} {E : Env}

/-- Cells that float are laid over. -/
theorem Rel.world (h : Rel P C A X σ a w F) {w1 : World} {G : FP} (hw : Ext w w1 G) (hG : ∀ b i, 1 ≤ G b i → 1 ≤ X b i) : Rel P C A X σ a w1 F := by
  have hcA : ∀ b i, A b i → ∀ u, ce w b i = some u → ce w1 b i = some u := fun b i ha u hu => by
    refine hw.cell b i (h.bnd b i (.inr ha)) ?_ u hu
    rcases Nat.eq_zero_or_pos (G b i) with h0 | h0
    · exact h0
    · exact absurd ha (h.dis b i (by have := hG b i h0; omega))
  have hcF : ∀ j, j < σ.n → ∀ b i, 1 ≤ F j b i → (∀ u, ce w b i = some u → ce w1 b i = some u) ∧ w1.frozen? ⟨b, i, none⟩ = w.frozen? ⟨b, i, none⟩ := fun j hj b i hp => by
    have hs := le_sumF F hj b i
    have hb := h.bnd b i (.inl (by omega))
    refine ⟨fun u hu => hw.cell b i hb ?_ u hu, hw.froz b i hb⟩
    rcases Nat.eq_zero_or_pos (G b i) with h0 | h0
    · exact h0
    · have := hG b i h0; have := h.tot b i; omega
  have hpres : Pres σ a w σ a w1 := fun r p snap hb => ⟨hb, fun hok => ⟨hok, fun hl pl hpl => ⟨pl.H, pl.cs, by
    have hlt := place_lt hpl
    exact place_frame (h.slots r hlt) rfl rfl hcA (fun b i hp => (hcF r hlt b i hp).1) hpl, fun _ => rfl⟩⟩⟩
  refine ⟨h.size, h.defers, fun i hi => SlotRel.pres hpres (fun _ _ h => h) hcA hw.blk (hcF i hi) (h.slots i hi), fun d r p snap hm => RefRel.pres hpres (h.gh d r p snap hm), h.tot, h.dis, fun b i hp => Nat.lt_of_lt_of_le (h.bnd b i hp) hw.size,
    h.vlen, h.ext.trans hw (fun b i hb hz => ?_), h.own, h.a0, h.a1, h.lentP, fun r t m H v hg hl => ?_, fun j k hm R' hR' => ?_⟩
  · rcases Nat.eq_zero_or_pos (G b i) with h0 | h0
    · exact h0
    · rcases h.own b i (by have := hG b i h0; omega) with h1 | h1 <;> omega
  · obtain ⟨b, h1, h2⟩ := h.whole r t m H v hg hl
    exact ⟨b, h1, hw.blk _ _ h2⟩
  · rcases Nat.lt_or_ge j σ.n with hj | hj
    · have hsl := h.slots j hj
      cases hR0 : rootPl w (tmp a j) (σ.get j) with
      | none => exfalso; cases hg : σ.get j <;> rw [hg] at hR0 hR' <;> simp only [rootPl] at hR0 hR' <;> first | (cases hR'; done) | (cases hR0; done) | (split at hR0 <;> simp_all)
      | some R0 =>
        rw [rootPl_frame hsl (fun b i hp => (hcF j hj b i hp).1) hR0] at hR'
        injection hR' with hR'
        subst hR'
        exact h.lentS j k hm _ hR0
    · rw [get_out (Nat.not_lt.2 hj)] at hR'; cases hR'

/-- Pieces side by side. -/
theorem has_pieces {b o sz : Nat} {n : Nat} (h : ∀ i, i < n → ∃ L : List Value, L.length = sz ∧ Has w b (o + i * sz) L) : Has w b o (rd w b o (n * sz)) ∧ ∀ i L, i < n → L.length = sz → Has w b (o + i * sz) L → ((rd w b o (n * sz)).drop (i * sz)).take sz = L := by
  have hsome : ∀ j, j < n * sz → (ce w b (o + j)).isSome = true := fun j hj => by
    have hsz : 0 < sz := by rcases Nat.eq_zero_or_pos sz with h0 | h0; (· subst h0; simp at hj); exact h0
    have hi : j / sz < n := Nat.div_lt_of_lt_mul (by rw [Nat.mul_comm]; exact hj)
    obtain ⟨L, h1, h2⟩ := h _ hi
    have hm : j % sz < L.length := by rw [h1]; exact Nat.mod_lt _ hsz
    have := h2 (j % sz) _ (List.getElem?_eq_getElem hm)
    have e : o + j / sz * sz + j % sz = o + j := by have := Nat.div_add_mod j sz; rw [Nat.mul_comm] at this; omega
    rw [e] at this
    rw [this]; rfl
  refine ⟨fun j u hu => ?_, fun i L hi hl hL => ?_⟩
  · have hj := (List.getElem?_eq_some_iff.1 hu).1
    rw [rd_length] at hj
    unfold rd at hu
    rw [List.getElem?_map, List.getElem?_range hj] at hu
    simp only [Option.map_some, Option.some.injEq] at hu
    obtain ⟨u', hu'⟩ := Option.isSome_iff_exists.1 (hsome j hj)
    rw [hu'] at hu ⊢
    exact congrArg some hu
  · have h6 : i * sz + sz ≤ n * sz := by rw [← Nat.succ_mul]; exact Nat.mul_le_mul_right _ (by omega)
    apply List.ext_getElem?
    intro j
    rw [List.getElem?_take, List.getElem?_drop]
    by_cases hj : j < sz
    · rw [if_pos hj]
      unfold rd
      rw [List.getElem?_map, List.getElem?_range (by omega)]
      have := hL j L[j] (List.getElem?_eq_getElem (by omega))
      rw [show o + i * sz + j = o + (i * sz + j) by omega] at this
      rw [List.getElem?_eq_getElem (by omega)]
      simp [this]
    · rw [if_neg hj, List.getElem?_eq_none (by omega)]

/-- The elements of data that are a slice. -/
theorem slc_elems {e : Ty} {m : Md} {v : List e.den} {cs : List Value} {Fv : FP} (hr : Rep P w A (.slc e) m [] v cs Fv) :
    ∃ xa cap news Fi, cs = [.slice xa (List.length v) cap] ∧ (List.length v ≤ cap ∧ (xa = none → List.length v = 0)) ∧ (∀ ad, xa = some ad → (0 < cap → ad.spot = none) ∧ Has w ad.block ad.off news) ∧ news.length = List.length v * e.sz ∧ (∀ u ∈ news, u.oneCell' = true) ∧
      (∀ (i : Nat) (y : e.den), v[i]? = some y → Rep P w A e m.e [] y ((news.drop (i * e.sz)).take e.sz) (Fi i)) ∧ (∀ b i, sumF (List.length v) Fi b i ≤ Fv b i) ∧
      (m.own = true → List.length v ≤ cap ∧ cap ≤ maxLen ∧ (xa = none → cap = 0) ∧ ∀ ad, xa = some ad → ad.off = 0 ∧ ad.spot = none ∧ OwnBlk w ad.block (cap * e.sz) ∧ ∀ b i, rng ad.block 0 (cap * e.sz) b i + sumF (List.length v) Fi b i ≤ Fv b i) := by
  have hone : ∀ (news : List Value) (Fi : Nat → FP), news.length = List.length v * e.sz → (∀ (i : Nat) (y : e.den), v[i]? = some y → Rep P w A e m.e [] y ((news.drop (i * e.sz)).take e.sz) (Fi i)) → ∀ u ∈ news, u.oneCell' = true := by
    intro news Fi hl hel u hu
    obtain ⟨j, hj, rfl⟩ := List.mem_iff_getElem.1 hu
    have hsz : 0 < e.sz := by rcases Nat.eq_zero_or_pos e.sz with h0 | h0; (· rw [hl, h0] at hj; simp at hj); exact h0
    have hi : j / e.sz < List.length v := Nat.div_lt_of_lt_mul (by rw [Nat.mul_comm, ← hl]; exact hj)
    have h1 := Rep.one _ (hel _ _ (List.getElem?_eq_getElem hi))
    refine h1 _ (List.mem_of_getElem? (i := j % e.sz) ?_)
    rw [List.getElem?_take, if_pos (Nat.mod_lt _ hsz), List.getElem?_drop]
    have : j / e.sz * e.sz + j % e.sz = j := by rw [Nat.mul_comm]; exact Nat.div_add_mod j e.sz
    rw [this, List.getElem?_eq_getElem hj]
  simp only [Rep, hole, List.any_nil, Bool.false_eq_true, if_false] at hr
  split at hr
  · rename_i hown
    obtain ⟨xa, cap, rfl, h1, h2, h3, h4⟩ := hr
    cases xa with
    | none =>
      have hcap := h3 rfl
      have hv0 : List.length v = 0 := by omega
      have hv : v = [] := List.eq_nil_of_length_eq_zero hv0
      subst hv
      exact ⟨none, cap, [], fun _ _ _ => 0, rfl, ⟨Nat.zero_le _, fun _ => rfl⟩, (fun ad e => by cases e), by simp, (fun u hu => by cases hu), (fun i y hy => by cases hy), fun b i => by rw [sumF_zero]; exact Nat.zero_le _, fun _ => ⟨h1, h2, h3, fun ad e => by cases e⟩⟩
    | some ad =>
      obtain ⟨g1, g2, g3, Fi, g4, g5⟩ := h4 ad rfl
      have hp : ∀ i, i < List.length v → ∃ L : List Value, L.length = e.sz ∧ Has w ad.block (0 + i * e.sz) L := fun i hi => by
        obtain ⟨L, l1, l2, _⟩ := g5 i _ (List.getElem?_eq_getElem hi)
        exact ⟨L, l1, by rw [Nat.zero_add]; exact l2⟩
      obtain ⟨p1, p2⟩ := has_pieces hp
      have hel : ∀ (i : Nat) (y : e.den), v[i]? = some y → Rep P w A e m.e [] y (((rd w ad.block 0 (List.length v * e.sz)).drop (i * e.sz)).take e.sz) (Fi i) := fun i y hy => by
        obtain ⟨L, l1, l2, l3⟩ := g5 i y hy
        rw [p2 i L (List.getElem?_eq_some_iff.1 hy).1 l1 (by rw [Nat.zero_add]; exact l2)]
        simpa using l3
      refine ⟨some ad, cap, rd w ad.block 0 (List.length v * e.sz), Fi, rfl, ⟨h1, (fun e => by cases e)⟩, fun ad' e => ?_, rd_length _ _ _ _, hone _ _ (rd_length _ _ _ _) hel, hel, fun b i => by have := g4 b i; omega, fun _ => ⟨h1, h2, h3, fun ad' e => ?_⟩⟩
      · injection e with e; subst e; exact ⟨fun _ => g2, by rw [g1]; exact p1⟩
      · injection e with e; subst e; exact ⟨g1, g2, g3, g4⟩
  · rename_i hown
    obtain ⟨_, hno, xa, cap, rfl, h1, h2, h3⟩ := hr
    cases xa with
    | none =>
      have hv : v = [] := List.eq_nil_of_length_eq_zero (h2 rfl)
      subst hv
      exact ⟨none, cap, [], fun _ _ _ => 0, rfl, ⟨Nat.zero_le _, fun _ => rfl⟩, (fun ad e => by cases e), by simp, (fun u hu => by cases hu), (fun i y hy => by cases hy), (fun b i => by rw [sumF_zero]; exact Nat.zero_le _), fun h => absurd h hown⟩
    | some ad =>
      obtain ⟨g1, g2⟩ := h3 ad rfl
      have hp : ∀ i, i < List.length v → ∃ L : List Value, L.length = e.sz ∧ Has w ad.block (ad.off + i * e.sz) L := fun i hi => by
        obtain ⟨L, l1, l2, _⟩ := g2 i _ (List.getElem?_eq_getElem hi)
        exact ⟨L, l1, fun j u hu => (l2 j u hu).1⟩
      obtain ⟨p1, p2⟩ := has_pieces hp
      have hel : ∀ (i : Nat) (y : e.den), v[i]? = some y → Rep P w A e m.e [] y (((rd w ad.block ad.off (List.length v * e.sz)).drop (i * e.sz)).take e.sz) (fun _ _ => 0) := fun i y hy => by
        obtain ⟨L, l1, l2, l3⟩ := g2 i y hy
        rw [p2 i L (List.getElem?_eq_some_iff.1 hy).1 l1 (fun j u hu => (l2 j u hu).1)]
        exact Ro.rep _ _ hno l3
      refine ⟨some ad, cap, rd w ad.block ad.off (List.length v * e.sz), fun _ _ _ => 0, rfl, ⟨h1, (fun e => by cases e)⟩, fun ad' e => ?_, rd_length _ _ _ _, hone _ _ (rd_length _ _ _ _) hel, hel, (fun b i => by rw [sumF_zero]; exact Nat.zero_le _), fun h => absurd h hown⟩
      injection e with e; subst e; exact ⟨g1, p1⟩

/-- What is appended. -/
theorem tail_ok (h : Rel P C A X σ a w F) {s : Slot} {tv : Value} {G : FP} (hs : SlotRel P A σ a w tv s G) {mv : Bool} {e : Ty} {tx : TypeId} (hkind : (∃ e', P.underlying tx = some (.slice e')) ∨ P.underlying tx = some .string)
    {K : Md → List e.den → St → Option R} (hk : tailK σ s e mv K = some x) :
    ∃ (A' : Cells) (σ' : St) (F' : Nat → FP) (me : Md) (y : List e.den) (news : List Value) (Fv : FP) (Fi : Nat → FP), K me y σ' = some x ∧ (∀ b i, A b i → A' b i) ∧ Rel P C A' (fun b i => X b i + Fv b i) σ' a w F' ∧ Roots σ σ' ∧
      Src P e.sz tx tv (List.length y) news w ∧ (∀ k, k ≤ List.length y → (Builtin.firstCells e.sz k tv).run P w = .ok (news.take (k * e.sz)).toArray w) ∧ (∀ (i : Nat) (z : e.den), y[i]? = some z → Rep P w A' e me [] z ((news.drop (i * e.sz)).take e.sz) (Fi i)) ∧ ∀ b i, sumF (List.length y) Fi b i ≤ Fv b i := by
  unfold tailK at hk
  split at hk
  · rename_i s'
    obtain ⟨e1, hk⟩ := castK_some hk
    injection e1 with e1
    subst e1
    obtain ⟨cs, h1, h2⟩ := hs
    simp only [Ro] at h2
    subst h2
    have htv : tv = .string ⟨List.toArray s'⟩ := h1
    subst htv
    have hlen : (byteCells ⟨List.toArray s'⟩) = List.map (fun (b : UInt8) => Value.int .u8 b.toNat) s' := by simp [byteCells]
    have hsz : (⟨List.toArray s'⟩ : ByteArray).size = List.length s' := rfl
    refine ⟨A, σ, F, .leaf, s', byteCells ⟨List.toArray s'⟩, fun _ _ => 0, fun _ _ _ => 0, hk, fun _ _ h => h, h, Roots.refl σ, ⟨hkind, fun _ => rfl, firstCells_string _ w, firstCells_string _ w.drew, by rw [byteCells_length, hsz]; simp [Ty.sz], fun u hu => ?_⟩, fun k hk => ?_, fun i z hz => ?_, fun b i => by rw [sumF_zero]; exact Nat.zero_le _⟩
    · obtain ⟨_, _, rfl⟩ := List.mem_map.1 hu; rfl
    · rw [hlen]
      have hmin : ((⟨List.toArray s'⟩ : ByteArray).extract 0 k).data.toList = s'.take k := by simp [ByteArray.data_extract]
      simp only [Builtin.firstCells, Sem.run_pure, Ty.sz, Nat.mul_one]
      congr 1
      apply Array.ext'
      simp only [Array.toList_map, hmin, List.map_take]
    · have : ((byteCells ⟨List.toArray s'⟩).drop (i * Ty.sz (.int .u8))).take (Ty.sz (.int .u8)) = [Value.int .u8 z.toNat] := by
        show ((byteCells ⟨List.toArray s'⟩).drop (i * 1)).take 1 = _
        rw [hlen, Nat.mul_one, List.take_one, List.head?_drop, List.getElem?_map, hz]
        rfl
      exact this
  · rename_i s' hns
    obtain ⟨A', σ', F', m, v, cs, Fv, k1, k2, k3, k4, kr, k5, k6⟩ := use_ok h hs hk
    obtain ⟨xa, cap, news, Fi, r1, r2, r3, r4, r5, r6, r7, r8⟩ := slc_elems k6
    rw [r1, mkV_one _ _ rfl] at k5
    subst k5
    have hcells : ∀ ad, xa = some ad → ∀ j u, news[j]? = some u → w.cell? (ad.add j) = some u := fun ad e1 j u hu => by
      obtain ⟨g1, g2⟩ := r3 ad e1
      have hj := (List.getElem?_eq_some_iff.1 hu).1
      have hpos : 0 < cap := by
        rcases Nat.eq_zero_or_pos cap with h0 | h0
        · have : List.length v = 0 := by have := r2.1; omega
          rw [r4, this, Nat.zero_mul] at hj; omega
        · exact h0
      obtain ⟨b, off, sp⟩ := ad
      have := g1 hpos
      simp only at this
      subst this
      rw [addr_add]
      exact ce_cell (g2 j u hu) (r5 u (List.mem_of_getElem? hu))
    refine ⟨A', σ', F', m.e, v, news, Fv, Fi, k1, k2, k3, kr, ?_, ?_, r6, r7⟩
    rotate_left
    · intro k hk
      cases xa with
      | none =>
        have h0 := r2.2 rfl
        have hn : news = [] := List.eq_nil_of_length_eq_zero (by rw [r4, h0, Nat.zero_mul])
        subst hn
        simp only [List.take_nil]
        exact run_firstCells_none w e.sz k (List.length v) cap
      | some ad =>
        have hc := hcells ad rfl
        have hle : k * e.sz ≤ List.length v * e.sz := Nat.mul_le_mul_right _ hk
        have := run_firstCells_some (P := P) w e.sz k ad (List.length v) cap (news.take (k * e.sz)) (by simp; omega) (fun j u hu => by
          rw [List.getElem?_take] at hu
          split at hu
          · exact hc j u hu
          · cases hu)
        simpa [Builtin.firstCells] using this
    cases xa with
    | none =>
      have h0 := r2.2 rfl
      have hn : news = [] := List.eq_nil_of_length_eq_zero (by rw [r4, h0, Nat.zero_mul])
      subst hn
      rw [h0]
      exact ⟨hkind, fun _ => rfl, run_firstCells_none w e.sz 0 0 cap, run_firstCells_none w.drew e.sz 0 0 cap, by simp, fun u hu => by cases hu⟩
    | some ad =>
      have hc := hcells ad rfl
      exact ⟨hkind, fun _ => rfl, run_firstCells_some w e.sz (List.length v) ad (List.length v) cap news r4 hc, run_firstCells_some w.drew e.sz (List.length v) ad (List.length v) cap news r4 (by simpa using hc), r4, r5⟩

/-- Elements of two rows, side by side. -/
theorem two_rows {e : Ty} {me : Md} {v y : List e.den} {olds news : List Value} {Fi Gi : Nat → FP} (hl : olds.length = List.length v * e.sz)
    (h1 : ∀ (i : Nat) (z : e.den), v[i]? = some z → Rep P w A e me [] z ((olds.drop (i * e.sz)).take e.sz) (Fi i)) (h2 : ∀ (i : Nat) (z : e.den), y[i]? = some z → Rep P w A e me [] z ((news.drop (i * e.sz)).take e.sz) (Gi i)) :
    ∀ (i : Nat) (z : e.den), (v ++ y)[i]? = some z → Rep P w A e me [] z (((olds ++ news).drop (i * e.sz)).take e.sz) (if i < List.length v then Fi i else Gi (i - List.length v)) := by
  intro i z hz
  by_cases hi : i < List.length v
  · rw [if_pos hi]
    rw [List.getElem?_append_left hi] at hz
    have h6 : i * e.sz + e.sz ≤ List.length v * e.sz := by rw [← Nat.succ_mul]; exact Nat.mul_le_mul_right _ (by omega)
    rw [List.drop_append_of_le_length (by omega), List.take_append_of_le_length (by simp; omega)]
    exact h1 i z hz
  · rw [if_neg hi]
    rw [List.getElem?_append_right (by omega)] at hz
    have h6 : List.length v * e.sz ≤ i * e.sz := Nat.mul_le_mul_right _ (by omega)
    rw [List.drop_append, List.drop_of_length_le (by omega), List.nil_append, hl, ← Nat.sub_mul]
    exact h2 _ z hz
theorem two_sums (n m : Nat) (Fi Gi : Nat → FP) (b i : Nat) : sumF (n + m) (fun i => if i < n then Fi i else Gi (i - n)) b i = sumF n Fi b i + sumF m Gi b i := by
  rw [sumF_add]
  congr 1
  · have := sumF_congr (n := n) (f := fun i => if i < n then Fi i else Gi (i - n)) (g := Fi) (fun j hj => by simp only [if_pos hj]); rw [this]
  · have := sumF_congr (n := m) (f := fun j => (fun i => if i < n then Fi i else Gi (i - n)) (n + j)) (g := Gi) (fun j hj => by
      simp only; rw [if_neg (by omega), Nat.add_sub_cancel_left]); rw [this]

theorem step_append (h : Rel0 P C A σ a w F) (hti : ∀ i T, E.TI i = some T → layB P T (.inl i) = true) {t tx : Nat} {y z : Operand} (ho : o.op = .call { callee := .builtin .append, args := #[y, z], argTypes := #[t, tx] }) (hok : opdOk P y = true ∧ opdOk P z = true)
    (hkind : (∃ e', P.underlying tx = some (.slice e')) ∨ P.underlying tx = some .string) {mv : Bool} {K : St → Option R} (hk : appendK E σ t (opd σ y) z mv o.dst K = some x) : o.wp P a w (Nx P C K x) Q := by
  unfold appendK at hk
  obtain ⟨T, hT, hk⟩ := tiK_some hk
  have hlay := hti _ _ hT
  split at hk
  · rename_i e
    have hl := hlay
    simp only [layB, Bool.and_eq_true] at hl
    have h2 := hl.2
    split at h2
    rotate_left
    · cases h2
    rename_i el hu
    simp only [Bool.and_eq_true, Nat.ble_eq] at h2
    obtain ⟨hsz, hel⟩ := h2
    obtain ⟨inf, zv, i1, i2, i3, i4, i5, _⟩ := infoOk_zero (layB_info hel)
    rcases opd_ok h hok.1 with hs | ⟨xs, e'⟩
    rotate_left
    · rw [e'] at hk; simp [useK] at hk
    obtain ⟨A1, σ1, F1, m, v, cs, Fv, k1, k2, k3, k4, kr, k5, k6⟩ := use_ok h hs hk
    split at k1
    rotate_left
    · cases k1
    rename_i hown
    rcases opd_ok k3 hok.2 with hs2 | ⟨xs, e'⟩
    rotate_left
    · rw [e'] at k1; simp [tailK, useK] at k1
    obtain ⟨A2, σ2, F2, me, yv, news, Fw, Gi, q1, q2, q3, qr, q4, _, q5, q6⟩ := tail_ok k3 hs2 hkind k1
    split at q1
    rotate_left
    · cases q1
    rename_i hcap
    obtain ⟨xa, cap, olds, Fi, r1, r2, r3, r4, r5, r6, r7, r8⟩ := slc_elems k6
    obtain ⟨c1, c2, c3, c4⟩ := r8 hown
    rw [r1, mkV_one _ _ rfl] at k5
    have r6' : ∀ (i : Nat) (z : e.den), v[i]? = some z → Rep P w A2 e m.e [] z ((olds.drop (i * e.sz)).take e.sz) (Fi i) := fun i z hz => Rep.mono (P := P) (A' := A2) q2 (fun _ _ _ _ h => h) (fun _ _ h => h) e (r6 i z hz) (fun _ _ => Nat.le_refl _) (fun _ _ _ _ h => h)
    -- the elements as they are then
    have hnew : ∃ (A3 : Cells) (X3 : FP) (Hi : Nat → FP), Rel P C A3 X3 σ2 a w F2 ∧ (∀ (i : Nat) (z : e.den), (v ++ yv)[i]? = some z → Rep P w A3 e (if me = m.e then me else roMd e) [] z (((olds ++ news).drop (i * e.sz)).take e.sz) (Hi i)) ∧
        (∀ b i, sumF (List.length v + List.length yv) Hi b i ≤ X3 b i) ∧ ∀ ad, xa = some ad → ∀ b i, rng ad.block 0 (cap * e.sz) b i + sumF (List.length v + List.length yv) Hi b i ≤ X3 b i := by
      by_cases hme : me = m.e
      · subst hme
        refine ⟨A2, _, _, q3, by simp only [if_true]; exact two_rows r4 r6' q5, fun b i => ?_, fun ad had b i => ?_⟩
        · rw [two_sums]; have := r7 b i; have := q6 b i; omega
        · rw [two_sums]; have := (c4 ad had).2.2.2 b i; have := q6 b i; omega
      · simp only [if_neg hme]
        -- what the block itself has
        obtain ⟨B, hB1, hB2, hB3⟩ : ∃ B : FP, (∀ b i, B b i + sumF (List.length v) Fi b i ≤ Fv b i) ∧ (∀ ad, xa = some ad → ∀ b i, rng ad.block 0 (cap * e.sz) b i = B b i) ∧ ∀ b i, B b i ≤ 1 := by
          cases xa with
          | none => exact ⟨fun _ _ => 0, fun b i => by show 0 + _ ≤ _; have := r7 b i; omega, (fun ad e => by cases e), fun _ _ => Nat.zero_le _⟩
          | some ad => exact ⟨rng ad.block 0 (cap * e.sz), (c4 ad rfl).2.2.2, (fun ad' e => by injection e with e; subst e; exact fun _ _ => rfl), fun b i => by simp only [rng]; split <;> omega⟩
        obtain ⟨A3, hA3⟩ : ∃ A3 : Cells, ∀ b i, A3 b i ↔ (A2 b i ∨ (1 ≤ 0 + Fv b i + Fw b i ∧ B b i = 0)) := ⟨fun b i => A2 b i ∨ (1 ≤ 0 + Fv b i + Fw b i ∧ B b i = 0), fun _ _ => Iff.rfl⟩
        refine ⟨A3, B, fun _ _ _ => 0, q3.giveUp (fun b i h => (hA3 b i).2 (.inl h)) (fun b i ha => (hA3 b i).1 ha) (fun b i => by have := hB1 b i; omega), ?_, fun b i => by rw [sumF_zero]; exact Nat.zero_le _, fun ad had b i => by rw [sumF_zero, hB2 ad had]; exact Nat.le_refl _⟩
        have htot : ∀ b i, (0 + Fv b i + Fw b i) + sumF σ2.n F2 b i ≤ 1 := fun b i => q3.tot b i
        have hv3 : ∀ (i : Nat) (z : e.den), v[i]? = some z → Rep P w A3 e (roMd e) [] z ((olds.drop (i * e.sz)).take e.sz) (fun _ _ => 0) := fun i z hz => Ro.rep _ _ (roMd_noOwn _) (Rep.toRo (fun b i h => (hA3 b i).2 (.inl h)) e (r6' i z hz) fun b k hp => (hA3 b k).2 (.inr (by
          have h1 := le_sumF Fi (List.getElem?_eq_some_iff.1 hz).1 b k
          have h2 := hB1 b k; have h3 := htot b k
          constructor <;> omega)))
        have hy3 : ∀ (i : Nat) (z : e.den), yv[i]? = some z → Rep P w A3 e (roMd e) [] z ((news.drop (i * e.sz)).take e.sz) (fun _ _ => 0) := fun i z hz => Ro.rep _ _ (roMd_noOwn _) (Rep.toRo (fun b i h => (hA3 b i).2 (.inl h)) e (q5 i z hz) fun b k hp => (hA3 b k).2 (.inr (by
          have h1 := le_sumF Gi (List.getElem?_eq_some_iff.1 hz).1 b k
          have h2 := hB1 b k; have h3 := htot b k; have h4 := q6 b k
          constructor <;> omega)))
        exact fun i z hz => by simpa using two_rows (Fi := fun _ _ _ => 0) (Gi := fun _ _ _ => 0) r4 hv3 hy3 i z hz
    obtain ⟨A3, X3, Hi, n1, n2, n3, n4⟩ := hnew
    have hvl : List.length (v ++ yv) = List.length v + List.length yv := by simp
    by_cases hroom : List.length v + List.length yv ≤ cap
    · cases xa with
      | none =>
        have hc0 := c3 rfl
        have hv0 : v = [] := List.eq_nil_of_length_eq_zero (by omega)
        have hy0 : yv = [] := List.eq_nil_of_length_eq_zero (by omega)
        subst hv0; subst hy0
        have hcl : (Builtin.firstCells e.sz 0 (a.eval z)).run P w = .ok news.toArray w := by have := q4.cells; simpa using this
        have hrun : (execOp a.eval o).run P w = .ok (.value (.slice none 0 cap)) w := by
          rcases q4.kind with ⟨e', hk'⟩ | hk' <;>
            simp [execOp, ho, resolve, invoke, builtin, Builtin.append_, k5, run_underlying hu, run_underlying hk', Go.sizeOf, typeInfo, i1, q4.len, i2, hcl]
        refine wp_val hrun (fin_val n1 q1 (Fd := fun _ _ => 0) ⟨[.slice none 0 cap], (mkV_one _ _ rfl).symm, ?_⟩ (fun _ _ => Nat.zero_le _) (fun _ _ _ _ e => by cases e))
        simp only [Rep, hole, List.any_nil, Bool.false_eq_true, if_false, Md.own, if_true]
        exact ⟨none, cap, rfl, Nat.zero_le _, c2, c3, fun ad e => by cases e⟩
      | some ad =>
        obtain ⟨d1, d4, d2, d3⟩ := c4 ad rfl
        obtain ⟨_, d5⟩ := r3 ad rfl
        obtain ⟨b, off, sp⟩ := ad
        simp only at d1 d2 d3 d4 d5
        subst d1; subst d4
        have n4' : ∀ b' i, rng b 0 (cap * e.sz) b' i + sumF (List.length v + List.length yv) Hi b' i ≤ X3 b' i := n4 _ rfl
        have hnl := q4.newsLen
        have hfit : List.length v * e.sz + news.length ≤ cap * e.sz := by rw [hnl, ← Nat.add_mul]; exact Nat.mul_le_mul_right _ hroom
        have hcell : ∀ j, j < cap * e.sz → (w.cell? ⟨b, j, none⟩).isSome = true := fun j hj => by
          obtain ⟨c, e', fr, w1, w2, w3⟩ := d2
          unfold World.cell?
          simp only [w1, Option.isSome_none, Bool.false_eq_true, if_false]
          rw [Array.getElem?_eq_getElem (by omega)]; rfl
        have hrun := run_append_room_src (P := P) w t tx o.type el inf hu i1 b 0 (List.length v) cap (a.eval z) (List.length yv) news (by rw [i2]; exact q4) hroom (fun j hj => by rw [i2, Nat.zero_add]; exact hcell _ (by omega)) (fun j hj => by rw [i2, Nat.zero_add]; exact d2.frozen (by omega))
        rw [i2, Nat.zero_add] at hrun
        have hrun' : (execOp a.eval o).run P w = .ok (.value (.slice (some ⟨b, 0, none⟩) (List.length v + List.length yv) cap)) (w.setCells b (List.length v * e.sz) news) := by
          simp [execOp, ho, resolve, invoke, builtin, k5, hrun]
        have hext := ext_setCells (b := b) (o := List.length v * e.sz) news w (List.length v * e.sz)
        have hX1 : ∀ b' i, 1 ≤ rng b (List.length v * e.sz) news.length b' i → 1 ≤ rng b 0 (cap * e.sz) b' i := fun b' i hp => by
          simp only [rng] at hp ⊢
          split at hp
          · rw [if_pos (by omega)]; exact Nat.le_refl _
          · omega
        have hn' := n1.world hext (fun b' i hp => by have := hX1 b' i hp; have := n4' b' i; omega)
        refine wp_val hrun' (fin_val hn' q1 (Fd := X3) ⟨[.slice (some ⟨b, 0, none⟩) (List.length v + List.length yv) cap], (mkV_one _ _ rfl).symm, ?_⟩ (fun _ _ => Nat.le_refl _) (fun _ _ _ _ e => by cases e))
        simp only [Rep, hole, List.any_nil, Bool.false_eq_true, if_false, Md.own, if_true, Md.e]
        refine ⟨some ⟨b, 0, none⟩, cap, by rw [hvl], by omega, c2, (fun e => by cases e), fun ad' e' => ?_⟩
        injection e' with e'; subst e'
        refine ⟨rfl, rfl, hext.blk _ _ d2, Hi, fun b' i => by rw [hvl]; exact n4' b' i, fun i zz hz => ?_⟩
        have hrep := n2 i zz hz
        have hilt : i < List.length v + List.length yv := by have := (List.getElem?_eq_some_iff.1 hz).1; omega
        refine ⟨_, Rep.length _ hrep, ?_, ?_⟩
        · -- the cells
          have hall : Has (w.setCells b (List.length v * e.sz) news) b 0 (olds ++ news) := fun j u hu => by
            rw [Nat.zero_add]
            by_cases hj : j < olds.length
            · rw [List.getElem?_append_left hj] at hu
              have hold := d5 j u hu
              rw [Nat.zero_add] at hold
              refine hext.cell b j (by obtain ⟨c, e', fr, w1, _⟩ := d2; exact (Array.getElem?_eq_some_iff.1 w1).1) ?_ u hold
              simp only [rng]; rw [if_neg (by omega)]
            · rw [List.getElem?_append_right (by omega)] at hu
              have := has_setCells (w := w) (b := b) (o := List.length v * e.sz) (L := news) (fun k hk => hcell _ (by omega)) q4.one _ u hu
              rw [← this]; congr 1; omega
          intro j u hu
          rw [List.getElem?_take] at hu
          split at hu
          · rw [List.getElem?_drop] at hu
            have := hall _ u hu
            rw [Nat.zero_add] at this
            exact this
          · cases hu
        · simp only [List.filterMap_nil]
          refine Rep.mono (P := P) (fun _ _ h => h) (fun b' k ha u hu => hext.cell b' k (n1.bnd b' k (.inr ha)) ?_ u hu) hext.blk e hrep (fun _ _ => Nat.le_refl _) (fun b' k hp u hu => hext.cell b' k ?_ ?_ u hu)
          · rcases Nat.eq_zero_or_pos (rng b (List.length v * e.sz) news.length b' k) with h0 | h0
            · exact h0
            · exact absurd ha (n1.dis b' k (by have := hX1 b' k h0; have := n4' b' k; omega))
          · exact n1.bnd b' k (.inl (by have := le_sumF Hi hilt b' k; have := n3 b' k; omega))
          · rcases Nat.eq_zero_or_pos (rng b (List.length v * e.sz) news.length b' k) with h0 | h0
            · exact h0
            · have h1 := hX1 b' k h0; have h2 := n4' b' k; have h3 := le_sumF Hi hilt b' k; have h4 := n1.tot b' k; omega
    · -- a new row
      have hbase : (Builtin.firstCells inf.size (List.length v) (.slice xa (List.length v) cap)).run P w.drew = .ok olds.toArray w.drew := by
        cases xa with
        | none =>
          have h0 := r2.2 rfl
          have : olds = [] := List.eq_nil_of_length_eq_zero (by rw [r4, h0, Nat.zero_mul])
          subst this
          exact run_firstCells_none w.drew inf.size (List.length v) (List.length v) cap
        | some ad =>
          obtain ⟨_, d4, _, _⟩ := c4 ad rfl
          obtain ⟨_, d5⟩ := r3 ad rfl
          obtain ⟨b, off, sp⟩ := ad
          simp only at d4 d5
          subst d4
          exact run_firstCells_some w.drew inf.size (List.length v) ⟨b, off, none⟩ (List.length v) cap olds (by rw [i2]; exact r4) (fun j u hu => by rw [addr_add]; exact ce_cell (d5 j u hu) (r5 u (List.mem_of_getElem? hu)))
      simp only [CAP] at hcap
      have hrun := run_append_grow_src (P := P) w t tx o.type el inf zv hu i1 i4 xa (List.length v) cap olds hbase (a.eval z) (List.length yv) news (by rw [i2]; exact q4) (by omega) (by omega)
        (growslice_fits (by omega) (Nat.le_trans (Nat.mul_le_mul hcap i3) (by decide)))
      have hrun' : (execOp a.eval o).run P w = .ok (.value (.slice (some ⟨w.heap.size, 0, none⟩) (List.length v + List.length yv) (grownCap w (List.length v + List.length yv) cap el)))
          (w.drew.alloc (.cells ((olds ++ news).toArray ++ Builtin.zeroCells zv.cells (grownCap w (List.length v + List.length yv) cap el - (List.length v + List.length yv))) el)) := by
        simp [execOp, ho, resolve, invoke, builtin, k5, hrun]
      have hge := grownCap_ge w (List.length v + List.length yv) cap el
      have hgm := grownCap_le_maxLen w (List.length v + List.length yv) cap el (by simp only [maxLen]; omega)
      have hnl := q4.newsLen
      have hsn := slc_new n1.drew (K := K) (x := x) (d := o.dst) (e := e) (m := if me = m.e then me else roMd e) (v := v ++ yv) (c := (olds ++ news).toArray ++ Builtin.zeroCells zv.cells (grownCap w (List.length v + List.length yv) cap el - (List.length v + List.length yv)))
        (cap := grownCap w (List.length v + List.length yv) cap el) (el := el) (fr := (0, 0)) (Fi := Hi) (.inr (Nat.le_refl _)) q1
        (by
          rw [Array.size_append, size_zeroCells, i5, List.size_toArray, List.length_append, r4, hnl, ← Nat.add_mul, ← Nat.add_mul]
          congr 1; omega) hgm (by rw [hvl]; exact hge)
        (fun b i => by rw [hvl]; exact n3 b i) (fun i zz hz => by
          have hrep := n2 i zz hz
          refine ⟨_, Rep.length _ hrep, fun j u hu => ?_, Rep.mono (P := P) (w := w) (w' := w.drew) (A := A3) (A' := A3) (fun _ _ h => h) (fun _ _ _ _ h => h) (fun b n hn => hn) e hrep (fun _ _ => Nat.le_refl _) (fun _ _ _ _ h => h)⟩
          rw [List.getElem?_take] at hu
          split at hu
          · rw [List.getElem?_drop] at hu
            have hlt := (List.getElem?_eq_some_iff.1 hu).1
            rw [Array.getElem?_append_left (by simpa using hlt)]
            simpa using hu
          · cases hu)
      rw [hvl] at hsn
      exact wp_val hrun' hsn
  · cases hk
end
end OT
