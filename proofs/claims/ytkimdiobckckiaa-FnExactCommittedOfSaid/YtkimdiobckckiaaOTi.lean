/- Steps of the machine's state and the interpreter's. -/
import Derived.Test.YtkimdiobckckiaaOTh
set_option linter.unusedVariables false
set_option linter.unusedSimpArgs false
namespace OT
open Go

theorem lookN_cons {α : Type} (k : Nat) (x : α) (l : List (Nat × α)) (i : Nat) : lookN ((k, x) :: l) i = if k = i then some x else lookN l i := by
  simp only [lookN]
  by_cases h : k = i
  · simp [h]
  · rw [if_neg h, if_neg (by simpa using h)]
theorem get_put (σ : St) (d : Nat) (s : Slot) (i : Nat) : (σ.put d s).get i = if d = i ∧ i < σ.n then s else σ.get i := by
  simp only [St.get, St.put, lookN_cons, Nat.blt_eq]
  by_cases hi : i < σ.n
  · by_cases hd : d = i <;> simp [hi, hd]
  · simp [hi]
theorem get_upd (σ : St) (d : Nat) (s : Slot) (i : Nat) : (σ.upd d s).get i = if d = i ∧ i < σ.n then s else σ.get i := by
  simp only [St.get, St.upd, lookN_cons, Nat.blt_eq]
  by_cases hi : i < σ.n
  · by_cases hd : d = i <;> simp [hi, hd]
  · simp [hi]
theorem ver_put (σ : St) (d : Nat) (s : Slot) (i : Nat) : (σ.put d s).ver i = if d = i then bumpBase (σ.ver d) else σ.ver i := by
  simp only [St.ver, St.put, lookN_cons]
  by_cases hd : d = i <;> simp [hd]
theorem ver_setVer (σ : St) (d : Nat) (f : List Nat → List Nat) (i : Nat) : (σ.setVer d f).ver i = if d = i then f (σ.ver d) else σ.ver i := by
  simp only [St.ver, St.setVer, lookN_cons]
  by_cases hd : d = i <;> simp [hd]
theorem ver_upd (σ : St) (d : Nat) (s : Slot) (i : Nat) : (σ.upd d s).ver i = σ.ver i := rfl
theorem mem_unlend {l : List (Nat × Nat × Bool)} {d : Nat} {e : Nat × Nat × Bool} (h : e ∈ unlend l d) : e ∈ l ∧ e.1 ≠ d := by
  induction l with
  | nil => cases h
  | cons x l ih =>
    obtain ⟨k, b⟩ := x
    simp only [unlend] at h
    split at h
    · exact ⟨List.mem_cons_of_mem _ (ih h).1, (ih h).2⟩
    · rename_i hk
      rcases List.mem_cons.1 h with rfl | h
      · exact ⟨List.mem_cons_self, by simpa using hk⟩
      · exact ⟨List.mem_cons_of_mem _ (ih h).1, (ih h).2⟩
theorem unlend_mem {l : List (Nat × Nat × Bool)} {d : Nat} {e : Nat × Nat × Bool} (h : e ∈ l) (hd : e.1 ≠ d) : e ∈ unlend l d := by
  induction l with
  | nil => cases h
  | cons x l ih =>
    obtain ⟨k, b⟩ := x
    simp only [unlend]
    rcases List.mem_cons.1 h with rfl | h
    · rw [if_neg (by simpa using hd)]; exact List.mem_cons_self
    · split
      · exact ih h
      · exact List.mem_cons_of_mem _ (ih h)
theorem unhead_mem {l : List (Nat × Nat × Bool)} {d j k : Nat} (h : (j, k, false) ∈ l) : (j, k, false) ∈ unhead l d := by
  induction l with
  | nil => cases h
  | cons x l ih =>
    obtain ⟨k', n, b⟩ := x
    simp only [unhead]
    rcases List.mem_cons.1 h with h | h
    · injection h with h1 h2
      injection h2 with h2 h3
      subst h3
      simp [h1, h2]
    · split
      · exact ih h
      · exact List.mem_cons_of_mem _ (ih h)
theorem mem_unhead {l : List (Nat × Nat × Bool)} {d : Nat} {e : Nat × Nat × Bool} (h : e ∈ unhead l d) : e ∈ l ∧ ¬ (e.1 = d ∧ e.2.2 = true) := by
  induction l with
  | nil => cases h
  | cons x l ih =>
    obtain ⟨k, n, b⟩ := x
    simp only [unhead] at h
    split at h
    · exact ⟨List.mem_cons_of_mem _ (ih h).1, (ih h).2⟩
    · rename_i hk
      rcases List.mem_cons.1 h with rfl | h
      · exact ⟨List.mem_cons_self, by simpa using hk⟩
      · exact ⟨List.mem_cons_of_mem _ (ih h).1, (ih h).2⟩
theorem mem_ungh {l : List (Nat × Nat × Path × List Nat)} {d : Nat} {e : Nat × Nat × Path × List Nat} (h : e ∈ ungh l d) : e ∈ l ∧ e.1 ≠ d := by
  induction l with
  | nil => cases h
  | cons x l ih =>
    obtain ⟨k, b⟩ := x
    simp only [ungh] at h
    split at h
    · exact ⟨List.mem_cons_of_mem _ (ih h).1, (ih h).2⟩
    · rename_i hk
      rcases List.mem_cons.1 h with rfl | h
      · exact ⟨List.mem_cons_self, by simpa using hk⟩
      · exact ⟨List.mem_cons_of_mem _ (ih h).1, (ih h).2⟩

theorem below_bumpBase (v : List Nat) : Below v (bumpBase v) := fun j x hj => ⟨x + 1, by simp [bumpBase, hj], by omega⟩
theorem len5 {v : List Nat} (h : v.length = 5) : ∃ b x y z w, v = [b, x, y, z, w] := by
  match v, h with
  | [b, x, y, z, w], _ => exact ⟨b, x, y, z, w, rfl⟩
theorem below5 {b x y z w b' x' y' z' w' : Nat} (h0 : b ≤ b') (h1 : x ≤ x') (h2 : y ≤ y') (h3 : z ≤ z') (h4 : w ≤ w') : Below [b, x, y, z, w] [b', x', y', z', w'] := by
  intro j n hj
  match j, hj with
  | 0, hj => exact ⟨b', rfl, by simp at hj; omega⟩
  | 1, hj => exact ⟨x', rfl, by simp at hj; omega⟩
  | 2, hj => exact ⟨y', rfl, by simp at hj; omega⟩
  | 3, hj => exact ⟨z', rfl, by simp at hj; omega⟩
  | 4, hj => exact ⟨w', rfl, by simp at hj; omega⟩
  | n + 5, hj => simp at hj
theorem below_bumpAt (d : Nat) {v : List Nat} (h : v.length = 5) : Below v (bumpAt d v) := by
  obtain ⟨b, x, y, z, w, rfl⟩ := len5 h
  match d with
  | 0 | 1 | 2 | n + 3 => exact below5 (by omega) (by omega) (by omega) (by omega) (by omega)
theorem below_bumpW {v : List Nat} (h : v.length = 5) : Below v (bumpW v) := by
  obtain ⟨b, x, y, z, w, rfl⟩ := len5 h
  exact below5 (by omega) (by omega) (by omega) (by omega) (by omega)
theorem len_bumpBase {v : List Nat} : (bumpBase v).length = v.length := by simp [bumpBase]
theorem len_bumpAt (d : Nat) {v : List Nat} (h : v.length = 5) : (bumpAt d v).length = 5 := by
  obtain ⟨b, x, y, z, w, rfl⟩ := len5 h
  match d with
  | 0 | 1 | 2 | n + 3 => rfl
theorem len_bumpW {v : List Nat} (h : v.length = 5) : (bumpW v).length = 5 := by
  obtain ⟨b, x, y, z, w, rfl⟩ := len5 h
  rfl
/-- How long a snapshot may be that still holds. -/
theorem ok_len {s v v' : List Nat} (hs : Below s v) (hv : Below v v') (h : preB s v' = true) {j : Nat} (hj : v[j]? ≠ v'[j]?) : s.length ≤ j := by
  rcases Nat.lt_or_ge j s.length with h' | h'
  · exact absurd ((ok_back hs hv h).2 j h') hj
  · exact h'
theorem ok_bumpBase {s v : List Nat} (hl : v.length = 5) (hs : Below s v) (h : preB s (bumpBase v) = true) : s.length = 0 := by
  obtain ⟨b, x, y, z, w, rfl⟩ := len5 hl
  have := ok_len hs (below_bumpBase _) h (j := 0) (by simp [bumpBase])
  omega
theorem ok_bumpAt {s v : List Nat} (d : Nat) (hl : v.length = 5) (hs : Below s v) (h : preB s (bumpAt d v) = true) : s.length ≤ min 4 (1 + d) := by
  have h4 : s.length ≤ 4 := by
    refine ok_len hs (below_bumpAt d hl) h ?_
    obtain ⟨b, x, y, z, w, rfl⟩ := len5 hl
    match d with
    | 0 | 1 | 2 | n + 3 => simp [bumpAt]
  have hd : s.length ≤ 1 + d := by
    rcases Nat.lt_or_ge d 3 with hd | hd
    · refine ok_len hs (below_bumpAt d hl) h ?_
      obtain ⟨b, x, y, z, w, rfl⟩ := len5 hl
      match d, hd with
      | 0, _ | 1, _ | 2, _ => simp [bumpAt]
    · omega
  omega
theorem ok_bumpW {s v : List Nat} (hl : v.length = 5) (hs : Below s v) (h : preB s (bumpW v) = true) : s.length ≤ 4 := by
  refine ok_len hs (below_bumpW hl) h ?_
  obtain ⟨b, x, y, z, w, rfl⟩ := len5 hl
  simp [bumpW]

section
variable {P : Program} {C : Ctx} {A A2 : Cells} {X : FP} {σ : St} {a : Act} {w w2 : World} {F : Nat → FP}

theorem tmp_put (a : Act) (d : Nat) (v : Value) (i : Nat) : tmp (a.put (some d) v) i = if d = i ∧ i < a.tmps.size then v else tmp a i := by
  simp only [tmp, Act.put, Array.getD_eq_getD_getElem?, Array.getElem?_setIfInBounds]
  by_cases hd : d = i
  · subst hd
    by_cases hs : d < a.tmps.size <;> simp [hs]
  · simp [hd]

theorem rootPl_rep {tv : Value} {s : Slot} {G : FP} {R : Pl} (h : SlotRel P A σ a w tv s G) (hR : rootPl w tv s = some R) :
    ∃ (m : Md) (v : R.t.den) (F1 : FP), Rep P w A R.t m R.H v R.cs F1 ∧ (∀ b i, F1 b i ≤ G b i) ∧
      (∀ b o, R.ad = some (b, o) → Has w b o R.cs ∧ (∀ x i, rng b o R.t.sz x i + F1 x i ≤ G x i) ∧ ∀ j, j < R.t.sz → w.frozen? ⟨b, o + j, none⟩ = false) ∧
      ((∃ v', s = .own R.t m R.H v' ∧ HEq v v' ∧ R.ad = none) ∨ (∃ v', s = .box R.t m R.H v' ∧ HEq v v' ∧ R.ad.isSome = true)) := by
  cases s with
  | own t m H v =>
    simp only [rootPl, Option.some.injEq] at hR
    subst hR
    obtain ⟨cs, h1, h2⟩ := h
    refine ⟨m, v, G, ?_, fun _ _ => Nat.le_refl _, (fun b o h => by cases h), .inl ⟨v, rfl, HEq.rfl, rfl⟩⟩
    rw [h1, mkV_cells (Rep.length t h2) (Rep.one t h2)]; exact h2
  | box t m H v =>
    obtain ⟨b, o, L, F1, h1, h2, h3, h4, h5, h6⟩ := h
    subst h1
    simp only [rootPl, Option.some.injEq] at hR
    subst hR
    refine ⟨m, v, F1, by rw [rd_of_has h3 h2]; exact h6, fun x i => by have := h5 x i; omega, ?_, .inr ⟨v, rfl, HEq.rfl, rfl⟩⟩
    intro b' o' hbo
    simp only [Option.some.injEq, Prod.mk.injEq] at hbo
    obtain ⟨rfl, rfl⟩ := hbo
    exact ⟨by rw [rd_of_has h3 h2]; exact h3, h5, h4⟩
  | _ => simp [rootPl] at hR

theorem rootPl_frame {tv : Value} {s : Slot} {G : FP} {R : Pl} (h : SlotRel P A σ a w tv s G) (hc : ∀ b i, 1 ≤ G b i → ∀ u, ce w b i = some u → ce w2 b i = some u)
    (hR : rootPl w tv s = some R) : rootPl w2 tv s = some R := by
  cases s with
  | own t m H v => exact hR
  | box t m H v =>
    obtain ⟨b, o, L, F1, h1, h2, h3, h4, h5, h6⟩ := h
    subst h1
    simp only [rootPl, Option.some.injEq] at hR ⊢
    have : Has w2 b o L := fun j u hu => hc _ _ (by
      have hj : j < t.sz := h2 ▸ (List.getElem?_eq_some_iff.1 hu).1
      have := h5 b (o + j); simp [rng, hj] at this; omega) u (h3 j u hu)
    rw [rd_of_has this h2, ← hR, rd_of_has h3 h2]
  | _ => simp [rootPl] at hR

theorem place_frame {σ' : St} {a' : Act} {r : Nat} {p : Path} {G : FP} {pl : Pl} (h : SlotRel P A σ a w (tmp a r) (σ.get r) G) (hg : σ'.get r = σ.get r) (ht : tmp a' r = tmp a r)
    (hA : ∀ b i, A b i → ∀ u, ce w b i = some u → ce w2 b i = some u) (hc : ∀ b i, 1 ≤ G b i → ∀ u, ce w b i = some u → ce w2 b i = some u)
    (hp : place σ a w r p = some pl) : place σ' a' w2 r p = some pl := by
  unfold place at hp ⊢
  rw [hg, ht]
  cases hR : rootPl w (tmp a r) (σ.get r) with
  | none => rw [hR] at hp; cases hp
  | some R =>
    rw [hR] at hp
    rw [rootPl_frame h hc hR]
    obtain ⟨m, v, F1, h1, h2, _⟩ := rootPl_rep h hR
    exact plc_frame hA p R.t h1 (fun b i hh => hc b i (Nat.le_trans hh (h2 b i))) hp

theorem get_out {σ : St} {i : Nat} (h : ¬ i < σ.n) : σ.get i = .dead := by simp [St.get, h]
theorem place_lt {r : Nat} {p : Path} {pl : Pl} (h : place σ a w r p = some pl) : r < σ.n := by
  rcases Nat.lt_or_ge r σ.n with h' | h'
  · exact h'
  · simp [place, get_out (Nat.not_lt.2 h'), rootPl] at h

/-- Another slot is laid. -/
theorem Rel.put (h : Rel P C A X σ a w F) {d : Nat} (hd : d < σ.n) {s : Slot} {v : Value} {Fd X' : FP} (hs : SlotRel P A σ a w v s Fd) (ht : ∀ b i, X' b i + Fd b i ≤ X b i + F d b i)
    (hwh : ∀ t m H v', s = .box t m H v' → ∃ b, v = .pointer (some ⟨b, 0, none⟩) ∧ OwnBlk w b t.sz) :
    Rel P C A X' (σ.put d s) (a.put (some d) v) w (updF F d Fd) := by
  have hsz := h.size
  have hpres : Pres σ a w (σ.put d s) (a.put (some d) v) w := by
    intro r p snap hb
    rw [ver_put, St.ok, ver_put]
    by_cases hr : d = r
    · subst hr
      simp only [if_true]
      refine ⟨hb.trans (below_bumpBase _), fun hok => ?_⟩
      have h0 := ok_bumpBase (h.vlen d) hb hok
      exact ⟨(ok_back hb (below_bumpBase _) hok).1, fun hl => by omega⟩
    · simp only [if_neg hr]
      refine ⟨hb, fun hok => ⟨hok, fun hl pl hpl => ⟨pl.H, pl.cs, ?_, fun _ => rfl⟩⟩⟩
      exact place_frame (h.slots r (place_lt hpl)) (by rw [get_put, if_neg (fun h => hr h.1)]) (by rw [tmp_put, if_neg (fun h => hr h.1)]) (fun _ _ _ _ h => h) (fun _ _ _ _ h => h) hpl
  have htot : ∀ b i, X' b i + sumF σ.n (updF F d Fd) b i ≤ X b i + sumF σ.n F b i := fun b i => by
    have := sumF_upd F hd Fd b i; have := ht b i; omega
  refine ⟨by simp [Act.put, hsz, St.put], by simpa [Act.put] using h.defers, fun i hi => ?_, ?_, fun b i => Nat.le_trans (htot b i) (h.tot b i), fun b i hp => h.dis b i (Nat.le_trans hp (htot b i)),
    fun b i hp => h.bnd b i (hp.imp (fun hp => Nat.le_trans hp (htot b i)) id), fun i => ?_, h.ext, fun b i hp => h.own b i (Nat.le_trans hp (htot b i)), h.a0, h.a1, ?_, ?_, ?_⟩
  · have hi : i < σ.n := hi
    rw [get_put, tmp_put, hsz]
    by_cases hdi : d = i
    · subst hdi
      rw [if_pos ⟨rfl, hi⟩, if_pos ⟨rfl, hi⟩]
      simp only [updF, if_true]
      exact SlotRel.pres hpres (fun _ _ h => h) (fun _ _ _ _ h => h) (fun _ _ h => h) (fun _ _ _ => ⟨fun _ h => h, rfl⟩) hs
    · rw [if_neg (fun h => hdi h.1), if_neg (fun h => hdi h.1)]
      simp only [updF, if_neg (fun h : i = d => hdi h.symm)]
      exact SlotRel.pres hpres (fun _ _ h => h) (fun _ _ _ _ h => h) (fun _ _ h => h) (fun _ _ _ => ⟨fun _ h => h, rfl⟩) (h.slots i hi)
  · intro d' r p snap hm
    obtain ⟨hm, hne⟩ := mem_ungh hm
    rw [tmp_put, if_neg (fun h => hne h.1.symm)]
    exact RefRel.pres hpres (h.gh d' r p snap hm)
  · rw [ver_put]
    split
    · rw [len_bumpBase]; exact h.vlen d
    · exact h.vlen i
  · intro j k hm
    obtain ⟨hm, hne⟩ := mem_unlend hm
    rw [tmp_put, if_neg (fun h => hne h.1.symm)]
    exact h.lentP j k hm
  · intro r t m H v' hg hl
    rw [get_put] at hg
    rw [tmp_put, hsz]
    by_cases hdr : d = r ∧ r < σ.n
    · rw [if_pos hdr] at hg ⊢
      exact hwh t m H v' hg
    · rw [if_neg hdr] at hg ⊢
      refine h.whole r t m H v' hg fun k hm => hl k (unlend_mem hm fun e => hdr ⟨e.symm, ?_⟩)
      rcases Nat.lt_or_ge r σ.n with hr | hr
      · exact hr
      · rw [get_out (Nat.not_lt.2 hr)] at hg; cases hg
  · intro j k hm R hR
    obtain ⟨hm, hne⟩ := mem_unlend hm
    rw [tmp_put, if_neg (fun h => hne h.1.symm), get_put, if_neg (fun h => hne h.1.symm)] at hR
    exact h.lentS j k hm R hR

/-- What floats becomes less. -/
theorem Rel.less (h : Rel P C A X σ a w F) {X' : FP} (ht : ∀ b i, X' b i ≤ X b i) : Rel P C A X' σ a w F :=
  { h with
    tot := fun b i => by have := h.tot b i; have := ht b i; omega
    dis := fun b i hp => h.dis b i (by have := ht b i; omega)
    bnd := fun b i hp => h.bnd b i (hp.imp (fun hp => by have := ht b i; omega) id)
    own := fun b i hp => h.own b i (by have := ht b i; omega) }

theorem Ext.refl (w : World) (F : FP) : Ext w w F := ⟨Nat.le_refl _, fun _ _ _ _ _ h => h, fun _ _ h => h, fun _ _ _ => rfl, rfl, rfl, rfl, fun _ _ _ => rfl⟩
theorem Ext.mono {F F' : FP} (h : Ext w w2 F) (hF : ∀ b i, F' b i = 0 → F b i = 0) : Ext w w2 F' := { h with cell := fun b i hb hz => h.cell b i hb (hF b i hz), obj := fun b hb hz => h.obj b hb fun i => hF b i (hz i) }
theorem Ext.trans {w3 : World} {F G : FP} (h : Ext w w2 F) (h2 : Ext w2 w3 G) (hG : ∀ b i, b < w.heap.size → F b i = 0 → G b i = 0) : Ext w w3 F :=
  ⟨Nat.le_trans h.size h2.size, fun b i hb hz u hu => h2.cell b i (Nat.lt_of_lt_of_le hb h.size) (hG b i hb hz) u (h.cell b i hb hz u hu), fun b n hn => h2.blk b n (h.blk b n hn),
    fun b i hb => (h2.froz b i (Nat.lt_of_lt_of_le hb h.size)).trans (h.froz b i hb), h2.os.trans h.os, h2.tape.trans h.tape, h2.output.trans h.output,
    fun b hb hz => (h2.obj b (Nat.lt_of_lt_of_le hb h.size) fun i => hG b i hb (hz i)).trans (h.obj b hb hz)⟩

/-- The content of one root turns. -/
theorem Rel.chg (h : Rel P C A X σ a w F) {r : Nat} (hr : r < σ.n) {σ' : St} (hn : σ'.n = σ.n) (hget : ∀ i, i ≠ r → σ'.get i = σ.get i) (hver : ∀ i, i ≠ r → σ'.ver i = σ.ver i)
    (hvr : Below (σ.ver r) (σ'.ver r)) (hvl : (σ'.ver r).length = 5) (hlent : ∀ e, e ∈ σ'.lent → e ∈ σ.lent) (hlentF : ∀ j k, (j, k, false) ∈ σ.lent → (j, k, false) ∈ σ'.lent) (hgh : ∀ e, e ∈ σ'.gh → e ∈ σ.gh)
    {X2 Fr2 : FP} {R : Pl} {H2 : List Path} {cs2 : List Value} (hs : SlotRel P A2 σ' a w2 (tmp a r) (σ'.get r) Fr2) (hR : rootPl w (tmp a r) (σ.get r) = some R)
    (hR2 : rootPl w2 (tmp a r) (σ'.get r) = some ⟨R.t, H2, cs2, R.ad⟩)
    (hst : ∀ (p : Path) (snap : List Nat), Below snap (σ.ver r) → σ'.ok r snap = true → (snap.length = min 5 (1 + nidx p) ∨ snap.length = min 5 (2 + nidx p) ∨ snap.length = 5) →
      ∃ D full, nidx p ≤ D ∧ (snap.length = min 5 (2 + nidx p) → nidx p < D ∨ full) ∧ (snap.length = 5 → full) ∧ Stab D full w R.t R.H R.cs R.ad w2 H2 cs2)
    (hA : ∀ b i, A b i → A2 b i) (hA2 : ∀ b i, A2 b i → A b i ∨ (1 ≤ X b i + F r b i ∧ X2 b i + Fr2 b i = 0))
    (hx : ∀ b i, X2 b i + Fr2 b i ≤ X b i + F r b i) (hw : Ext w w2 fun b i => X b i + F r b i) (hbox : ∀ t m H v, σ'.get r = .box t m H v → ∃ m0 H0 v0, σ.get r = .box t m0 H0 v0) (hlS : ∀ k, (r, k, true) ∈ σ'.lent → cs2 = R.cs) :
    Rel P C A2 X2 σ' a w2 (updF F r Fr2) := by
  have hle : ∀ b i, X b i + F r b i ≤ X b i + sumF σ.n F b i := fun b i => by have := le_sumF F hr b i; omega
  have hcA : ∀ b i, A b i → ∀ u, ce w b i = some u → ce w2 b i = some u := fun b i ha u hu => by
    refine hw.cell b i (h.bnd b i (.inr ha)) ?_ u hu
    rcases Nat.eq_zero_or_pos (X b i + F r b i) with h0 | h0
    · exact h0
    · exact absurd ha (h.dis b i (Nat.le_trans h0 (hle b i)))
  have hcF : ∀ j, j < σ.n → j ≠ r → ∀ b i, 1 ≤ F j b i → (∀ u, ce w b i = some u → ce w2 b i = some u) ∧ w2.frozen? ⟨b, i, none⟩ = w.frozen? ⟨b, i, none⟩ := fun j hj hjr b i hp => by
    have h1 := le_sumF2 F hj hr hjr b i
    have h2 := h.tot b i
    have hb := h.bnd b i (.inl (by have := le_sumF F hj b i; omega))
    exact ⟨fun u hu => hw.cell b i hb (by show X b i + F r b i = 0; omega) u hu, hw.froz b i hb⟩
  have hpres : Pres σ a w σ' a w2 := by
    intro r' p snap hb
    by_cases hrr : r' = r
    · subst hrr
      refine ⟨hb.trans hvr, fun hok => ?_⟩
      refine ⟨(ok_back hb hvr hok).1, fun hl pl hpl => ?_⟩
      obtain ⟨D, full, h1, h2, h3, h4⟩ := hst p snap hb hok hl
      unfold place at hpl ⊢
      rw [hR] at hpl
      rw [hR2]
      obtain ⟨H', cs', h5, h6⟩ := h4 p pl h1 hpl
      refine ⟨H', cs', h5, fun h7 => h6 ?_⟩
      rcases h7 with ⟨h7, h8⟩ | h7
      · exact (h2 h8).imp (fun h => ⟨h, h7⟩) id
      · exact .inr (h3 h7)
    · rw [St.ok, hver r' hrr]
      refine ⟨hb, fun hok => ⟨hok, fun hl pl hpl => ⟨pl.H, pl.cs, ?_, fun _ => rfl⟩⟩⟩
      have hlt := place_lt hpl
      exact place_frame (h.slots r' hlt) (hget r' hrr) rfl hcA (fun b i hp => (hcF r' hlt hrr b i hp).1) hpl
  have htot : ∀ b i, X2 b i + sumF σ.n (updF F r Fr2) b i ≤ X b i + sumF σ.n F b i := fun b i => by
    have := sumF_upd F hr Fr2 b i; have := hx b i; omega
  refine ⟨by rw [hn]; exact h.size, h.defers, fun i hi => ?_, fun d r' p snap hm => RefRel.pres hpres (h.gh d r' p snap (hgh _ hm)), fun b i => by rw [hn]; exact Nat.le_trans (htot b i) (h.tot b i), fun b i hp ha => ?_,
    fun b i hp => ?_, fun i => ?_, h.ext.trans hw fun b i hb hz => ?_, fun b i hp => by rw [hn] at hp; exact h.own b i (Nat.le_trans hp (htot b i)), fun b i ha => hA b i (h.a0 b i ha), fun b i ha => ?_,
    fun j k hm => h.lentP j k (hlent _ hm), fun r' t m H v hg hl => ?_, fun j k hm R' hR' => ?_⟩
  · rw [hn] at hi
    by_cases hir : i = r
    · subst hir; simp only [updF, if_true]; exact hs
    · simp only [updF, if_neg hir]
      rw [hget i hir]
      exact SlotRel.pres hpres hA hcA hw.blk (hcF i hi hir) (h.slots i hi)
  · rw [hn] at hp
    rcases hA2 b i ha with ha | ⟨h1, h2⟩
    · exact h.dis b i (Nat.le_trans hp (htot b i)) ha
    · have h3 := h.tot b i
      have h4 := sumF_upd F hr Fr2 b i
      omega
  · rw [hn] at hp
    refine Nat.lt_of_lt_of_le (h.bnd b i ?_) hw.size
    rcases hp with hp | ha
    · exact .inl (Nat.le_trans hp (htot b i))
    · rcases hA2 b i ha with ha | ⟨h1, _⟩
      · exact .inr ha
      · exact .inl (Nat.le_trans h1 (hle b i))
  · by_cases hir : i = r
    · subst hir; exact hvl
    · rw [hver i hir]; exact h.vlen i
  · rcases Nat.eq_zero_or_pos (X b i + F r b i) with h0 | h0
    · exact h0
    · have := h.own b i (Nat.le_trans h0 (hle b i)); omega
  · rcases hA2 b i ha with ha | ⟨h1, _⟩
    · exact h.a1 b i ha
    · exact .inr (h.own b i (Nat.le_trans h1 (hle b i)))
  · have : ∃ m0 H0 v0, σ.get r' = .box t m0 H0 v0 := by
      by_cases hrr : r' = r
      · subst hrr; exact hbox t m H v hg
      · rw [hget r' hrr] at hg; exact ⟨m, H, v, hg⟩
    obtain ⟨m0, H0, v0, hg0⟩ := this
    obtain ⟨b, h1, h2⟩ := h.whole r' t m0 H0 v0 hg0 fun k hm => hl k (hlentF _ _ hm)
    exact ⟨b, h1, hw.blk _ _ h2⟩
  · by_cases hjr : j = r
    · subst hjr
      rw [hR2] at hR'
      injection hR' with hR'
      subst hR'
      show mkV R.t cs2 = _
      rw [hlS k hm]
      exact h.lentS j k (hlent _ hm) R hR
    · rcases Nat.lt_or_ge j σ.n with hj | hj
      · rw [hget j hjr] at hR'
        have hsl := h.slots j hj
        cases hR0 : rootPl w (tmp a j) (σ.get j) with
        | none => exfalso; cases hg : σ.get j <;> rw [hg] at hR0 hR' <;> simp only [rootPl] at hR0 hR' <;> first | (cases hR'; done) | (cases hR0; done) | (split at hR0 <;> simp_all)
        | some R0 =>
          rw [rootPl_frame hsl (fun b i hp => (hcF j hj hjr b i hp).1) hR0] at hR'
          injection hR' with hR'
          subst hR'
          exact h.lentS j k (hlent _ hm) _ hR0
      · rw [get_out (by rw [hn]; omega)] at hR'; cases hR'
end
end OT
