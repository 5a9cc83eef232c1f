/- What data of the pure interpreter are in the machine's memory. -/
import Derived.Test.YtkimdiobckckiaaOTc
import Derived.Laws.IdiomCopy
import Derived.Laws.Cells
import Derived.Laws.AppendOwn
set_option linter.unusedVariables false
set_option linter.unusedSimpArgs false
namespace OT
open Go

/-- How often each cell is owned. -/
abbrev FP := Nat → Nat → Nat
/-- Cells that nobody turns. -/
abbrev Cells := Nat → Nat → Prop

def isAgg : Ty → Bool
  | .unit | .pair _ _ | .arr _ _ => true
  | _ => false
def mkV (t : Ty) (cs : List Value) : Value := if isAgg t then .agg cs.toArray else cs.headD undef
/-- What a map holds, as a value. -/
def mapV (kvs : List (Value × Value)) : Value := .tuple (kvs.map fun kv => Value.tuple #[kv.1, kv.2]).toArray
def entriesOf (es : Array MapEntry) : List (Value × Value) := es.toList.map fun e => (e.key, e.val)
def oneV (u : Value) : Option Value := if u.oneCell' then some u else none
/-- What a block holds at a place: a cell, or a map. -/
def ce (w : World) (b i : Nat) : Option Value := match w.heap[b]? with
  | some (.map es _) => if i = 0 then some (mapV (entriesOf es)) else none
  | _ => (w.cell? ⟨b, i, none⟩).bind oneV
theorem ce_block {w w2 : World} {b : Nat} (h : w2.heap[b]? = w.heap[b]?) (i : Nat) : ce w2 b i = ce w b i := by simp only [ce, World.cell?, h]
theorem oneV_some {u v : Value} (h : oneV u = some v) : v = u ∧ u.oneCell' = true := by
  unfold oneV at h
  split at h
  · rename_i hu; injection h with h; exact ⟨h.symm, hu⟩
  · cases h
theorem ce_cell {w : World} {b i : Nat} {u : Value} (h : ce w b i = some u) (hu : u.oneCell' = true) : w.cell? ⟨b, i, none⟩ = some u := by
  unfold ce at h
  split at h
  · split at h
    · injection h with h; subst h; cases hu
    · cases h
  · cases hc : w.cell? ⟨b, i, none⟩ with
    | none => rw [hc] at h; cases h
    | some v =>
      rw [hc] at h
      have := oneV_some h
      rw [this.1]
theorem cell_ce {w : World} {b i : Nat} {u : Value} (h : w.cell? ⟨b, i, none⟩ = some u) (hu : u.oneCell' = true) : ce w b i = some u := by
  have h' := h
  unfold World.cell? at h
  unfold ce
  split at h
  · rename_i heq; simp only at heq; simp only [heq, h', Option.bind_some, oneV, hu, if_true]
  · cases h
theorem mapV_inj : ∀ {a b : List (Value × Value)}, mapV a = mapV b → a = b := by
  have main : ∀ (a b : List (Value × Value)), (a.map fun kv => Value.tuple #[kv.1, kv.2]) = (b.map fun kv => Value.tuple #[kv.1, kv.2]) → a = b := by
    intro a
    induction a with
    | nil => intro b h; cases b with
      | nil => rfl
      | cons _ _ => cases h
    | cons x a ih =>
      intro b h
      cases b with
      | nil => cases h
      | cons y b =>
        simp only [List.map_cons, List.cons.injEq] at h
        obtain ⟨h1, h2⟩ := h
        injection h1 with h1
        have h3 := congrArg Array.toList h1
        simp only [List.cons.injEq, and_true] at h3
        rw [ih b h2, Prod.ext h3.1 h3.2]
  intro a b h
  unfold mapV at h
  injection h with h
  exact main a b (by simpa using congrArg Array.toList h)
theorem ce_map {w : World} {r : Nat} {kvs : List (Value × Value)} (h : ce w r 0 = some (mapV kvs)) : ∃ es clock, w.heap[r]? = some (.map es clock) ∧ entriesOf es = kvs := by
  unfold ce at h
  split at h
  · rename_i es clock heq
    simp only [if_true] at h
    injection h with h
    exact ⟨es, clock, heq, mapV_inj h⟩
  · cases hc : w.cell? ⟨r, 0, none⟩ with
    | none => rw [hc] at h; cases h
    | some v =>
      rw [hc] at h
      have := oneV_some h
      have h2 := this.2
      rw [← this.1] at h2
      cases h2
theorem map_ce {w : World} {r : Nat} {es : Array MapEntry} {clock : Nat} (h : w.heap[r]? = some (.map es clock)) : ce w r 0 = some (mapV (entriesOf es)) := by
  simp only [ce, h, if_true]
def Has (w : World) (b o : Nat) (L : List Value) : Prop := ∀ j u, L[j]? = some u → ce w b (o + j) = some u
def OwnBlk (w : World) (b n : Nat) : Prop := ∃ c e fr, w.heap[b]? = some (.cells c e fr) ∧ c.size = n ∧ ∀ i, i < n → ¬ (fr.1 ≤ i ∧ i < fr.2)
def rng (b o n : Nat) : FP := fun b' i => if b' = b ∧ o ≤ i ∧ i < o + n then 1 else 0
def sumF : Nat → (Nat → FP) → FP
  | 0, _ => fun _ _ => 0
  | n + 1, f => fun b i => sumF n f b i + f n b i
def updF (f : Nat → FP) (j : Nat) (g : FP) : Nat → FP := fun i => if i = j then g else f i

theorem sumF_congr {n : Nat} {f g : Nat → FP} (h : ∀ j, j < n → f j = g j) : sumF n f = sumF n g := by
  induction n with
  | zero => rfl
  | succ n ih =>
    funext b i
    simp only [sumF]
    rw [ih (fun j hj => h j (by omega)), h n (by omega)]
theorem sumF_upd {n : Nat} (f : Nat → FP) {j : Nat} (hj : j < n) (g : FP) (b i : Nat) : sumF n (updF f j g) b i + f j b i = sumF n f b i + g b i := by
  induction n with
  | zero => omega
  | succ n ih =>
    simp only [sumF]
    by_cases h : j = n
    · subst h
      have : sumF j (updF f j g) = sumF j f := sumF_congr fun k hk => by simp [updF]; omega
      rw [this]
      simp [updF]
      omega
    · have := ih (by omega)
      have e : updF f j g n = f n := by simp [updF]; omega
      rw [e]; omega
theorem sumF_upd_out {n : Nat} (f : Nat → FP) {j : Nat} (hj : n ≤ j) (g : FP) : sumF n (updF f j g) = sumF n f :=
  sumF_congr fun k hk => by simp [updF]; omega
theorem le_sumF {n : Nat} (f : Nat → FP) {j : Nat} (hj : j < n) (b i : Nat) : f j b i ≤ sumF n f b i := by
  induction n with
  | zero => omega
  | succ n ih =>
    simp only [sumF]
    by_cases h : j = n
    · subst h; omega
    · have := ih (by omega); omega
theorem le_sumF2 {n : Nat} (f : Nat → FP) {j k : Nat} (hj : j < n) (hk : k < n) (hne : j ≠ k) (b i : Nat) : f j b i + f k b i ≤ sumF n f b i := by
  have h1 := sumF_upd f hj (fun _ _ => 0) b i
  have h2 := le_sumF (updF f j fun _ _ => 0) hk b i
  have e : updF f j (fun _ _ => 0) k = f k := by simp [updF]; omega
  rw [e] at h2
  simp at h1
  omega
theorem sumF_zero (n : Nat) (b i : Nat) : sumF n (fun _ _ _ => 0) b i = 0 := by
  induction n with
  | zero => rfl
  | succ n ih => simp [sumF, ih]
theorem sumF_add (n m : Nat) (f : Nat → FP) (b i : Nat) : sumF (n + m) f b i = sumF n f b i + sumF m (fun j => f (n + j)) b i := by
  induction m with
  | zero => simp [sumF]
  | succ m ih => rw [← Nat.add_assoc]; simp only [sumF]; rw [ih]; omega
theorem sumF_le {n : Nat} {f g : Nat → FP} (b i : Nat) (h : ∀ j, j < n → f j b i ≤ g j b i) : sumF n f b i ≤ sumF n g b i := by
  induction n with
  | zero => exact Nat.le_refl _
  | succ n ih =>
    simp only [sumF]
    have := ih fun j hj => h j (by omega)
    have := h n (by omega)
    omega
/-- A part of the places. -/
theorem sumF_part (n : Nat) (f : Nat → FP) (k m : Nat) (h : k + m ≤ n) (b i : Nat) : sumF m (fun j => f (k + j)) b i ≤ sumF n f b i := by
  have e : n = k + (m + (n - k - m)) := by omega
  rw [e, sumF_add, sumF_add]
  omega
theorem sumF_pos {n : Nat} {f : Nat → FP} {b i : Nat} (h : 1 ≤ sumF n f b i) : ∃ j, j < n ∧ 1 ≤ f j b i := by
  induction n with
  | zero => simp [sumF] at h
  | succ n ih =>
    simp only [sumF] at h
    by_cases h1 : 1 ≤ sumF n f b i
    · obtain ⟨j, hj, hh⟩ := ih h1
      exact ⟨j, by omega, hh⟩
    · exact ⟨n, by omega, by omega⟩

section
variable (P : Program) (w : World) (A : Cells)

/-- Data in memory that nobody turns. -/
def Ro : (t : Ty) → t.den → List Value → Prop
  | .int k, v, cs => cs = [.int k (toI k v)]
  | .bool, v, cs => cs = [.bool v]
  | .str, v, cs => cs = [.string ⟨List.toArray v⟩]
  | .unit, _, cs => cs = []
  | .pair a b, v, cs => Ro a v.1 (cs.take a.sz) ∧ Ro b v.2 (cs.drop a.sz)
  | .arr n e, v, cs => e.flat = true ∧ List.length v = n ∧ cs.length = n * e.sz ∧ ∀ (i : Nat) (x : e.den), v[i]? = some x → Ro e x ((cs.drop (i * e.sz)).take e.sz)
  | .slc e, v, cs => ∃ a cap, cs = [.slice a (List.length v) cap] ∧ List.length v ≤ cap ∧ (a = none → List.length v = 0) ∧ ∀ ad, a = some ad → (0 < cap → ad.spot = none) ∧
      ∀ (i : Nat) (x : e.den), v[i]? = some x → ∃ L : List Value, L.length = e.sz ∧ (∀ j u, L[j]? = some u → ce w ad.block (ad.off + i * e.sz + j) = some u ∧ A ad.block (ad.off + i * e.sz + j)) ∧ Ro e x L
  | .ptr e, v, cs => ∃ ad, cs = [.pointer (some ad)] ∧ ad.spot = none ∧
      ∃ L : List Value, L.length = e.sz ∧ (∀ j u, L[j]? = some u → ce w ad.block (ad.off + j) = some u ∧ A ad.block (ad.off + j)) ∧ Ro e v L
  | .fn, v, cs => ∃ caps, cs = [.func (.func v.1) #[] caps] ∧ ∃ fn, P.funcs[v.1]? = some fn ∧
      ((fn.nfree = 0 ∧ caps = #[]) ∨ (fn.nfree = 1 ∧ ∃ ad : Addr, caps = #[.pointer (some ad)] ∧ ad.spot = none ∧ ce w ad.block ad.off = some (.int .i64 v.2) ∧ A ad.block ad.off))
  | .map k v, x, cs => k.flat = true ∧ v.flat = true ∧ ∃ (r : Nat) (kvs : List (Value × Value)), cs = [.map (some r)] ∧ ce w r 0 = some (mapV kvs) ∧ A r 0 ∧ kvs.length = List.length x ∧ 
      ∀ (i : Nat) (y : k.den × v.den), x[i]? = some y → ∃ (kc vc : List Value), kvs[i]? = some (mkV k kc, mkV v vc) ∧ Ro k y.1 kc ∧ Ro v y.2 vc

def hole (H : List Path) : Bool := H.any (·.isEmpty)
def stripI (i : Nat) : Path → Option Path
  | .idx j :: p => if i = j then some p else none
  | _ => none

/-- Data in memory, some of it owned. 'F': (no fewer than) the cells that are owned. -/
def Rep : (t : Ty) → Md → List Path → t.den → List Value → FP → Prop
  | .pair a b, m, H, v, cs, F => hole H = false ∧ ∃ F1 F2 : FP, (∀ x i, F1 x i + F2 x i ≤ F x i) ∧
      Rep a m.l (H.filterMap stripF) v.1 (cs.take a.sz) F1 ∧ Rep b m.r (H.filterMap stripS) v.2 (cs.drop a.sz) F2
  | .slc e, m, H, v, cs, F =>
      if hole H then ∃ x : Value, cs = [x] ∧ x.oneCell' = true
      else if m.own then ∃ a cap, cs = [.slice a (List.length v) cap] ∧ List.length v ≤ cap ∧ cap ≤ maxLen ∧ (a = none → cap = 0) ∧ ∀ ad, a = some ad → ad.off = 0 ∧ ad.spot = none ∧
        OwnBlk w ad.block (cap * e.sz) ∧ ∃ Fi : Nat → FP, (∀ x i, rng ad.block 0 (cap * e.sz) x i + sumF (List.length v) Fi x i ≤ F x i) ∧
        ∀ (i : Nat) (x : e.den), v[i]? = some x → ∃ L : List Value, L.length = e.sz ∧ Has w ad.block (i * e.sz) L ∧ Rep e m.e (H.filterMap (stripI i)) x L (Fi i)
      else H = [] ∧ m.e.noOwn = true ∧ Ro P w A (.slc e) v cs
  | .ptr e, m, H, v, cs, F =>
      if hole H then ∃ x : Value, cs = [x] ∧ x.oneCell' = true
      else if m.own then ∃ b, cs = [.pointer (some ⟨b, 0, none⟩)] ∧ OwnBlk w b e.sz ∧ ∃ (L : List Value) (F1 : FP), L.length = e.sz ∧ Has w b 0 L ∧
        (∀ x i, rng b 0 e.sz x i + F1 x i ≤ F x i) ∧ Rep e m.e [] v L F1
      else H = [] ∧ m.e.noOwn = true ∧ Ro P w A (.ptr e) v cs
  | .int k, _, _, v, cs, _ => Ro P w A (.int k) v cs
  | .bool, _, _, v, cs, _ => Ro P w A .bool v cs
  | .str, _, _, v, cs, _ => Ro P w A .str v cs
  | .unit, _, _, v, cs, _ => Ro P w A .unit v cs
  | .arr n e, _, H, v, cs, _ => H = [] ∧ Ro P w A (.arr n e) v cs
  | .fn, _, _, v, cs, _ => Ro P w A .fn v cs
  | .map k v, m, H, x, cs, F =>
      if hole H then ∃ x : Value, cs = [x] ∧ x.oneCell' = true
      else if m.own then k.flat = true ∧ v.flat = true ∧ ∃ (r : Nat) (kvs : List (Value × Value)), cs = [.map (some r)] ∧ ce w r 0 = some (mapV kvs) ∧ 1 ≤ F r 0 ∧ kvs.length = List.length x ∧
        ∀ (i : Nat) (y : k.den × v.den), x[i]? = some y → ∃ (kc vc : List Value), kvs[i]? = some (mkV k kc, mkV v vc) ∧ Ro P w A k y.1 kc ∧ Ro P w A v y.2 vc
      else H = [] ∧ m.e.noOwn = true ∧ Ro P w A (.map k v) x cs
end

theorem Ro.length {P : Program} {w : World} {A : Cells} : ∀ (t : Ty) {v : t.den} {cs : List Value}, Ro P w A t v cs → cs.length = t.sz := by
  intro t
  induction t with
  | pair a b iha ihb =>
    intro v cs h
    have h1 := iha h.1
    have h2 := ihb h.2
    simp only [List.length_take, List.length_drop] at h1 h2
    simp only [Ty.sz]; omega
  | arr n e ih => intro v cs h; exact h.2.2.1
  | slc e ih => rintro v cs ⟨a, cap, rfl, _⟩; rfl
  | ptr e ih => rintro v cs ⟨a, rfl, _⟩; rfl
  | fn => rintro v cs ⟨a, rfl, _⟩; rfl
  | map k v => rintro v cs ⟨_, _, r, kvs, rfl, _⟩; rfl
  | unit => intro v cs h; simp only [Ro] at h; subst h; rfl
  | _ => intro v cs h; simp only [Ro] at h; subst h; rfl

theorem Rep.length {P : Program} {w : World} {A : Cells} : ∀ (t : Ty) {m : Md} {H : List Path} {v : t.den} {cs : List Value} {F : FP}, Rep P w A t m H v cs F → cs.length = t.sz := by
  intro t
  induction t with
  | pair a b iha ihb =>
    intro m H v cs F h
    obtain ⟨_, F1, F2, _, h1, h2⟩ := h
    have h1 := iha h1
    have h2 := ihb h2
    simp only [List.length_take, List.length_drop] at h1 h2
    simp only [Ty.sz]; omega
  | slc e ih =>
    intro m H v cs F h
    simp only [Rep] at h
    split at h
    · obtain ⟨x, rfl, _⟩ := h; rfl
    · split at h
      · obtain ⟨a, cap, rfl, _⟩ := h; rfl
      · exact Ro.length _ h.2.2
  | ptr e ih =>
    intro m H v cs F h
    simp only [Rep] at h
    split at h
    · obtain ⟨x, rfl, _⟩ := h; rfl
    · split at h
      · obtain ⟨a, rfl, _⟩ := h; rfl
      · exact Ro.length _ h.2.2
  | arr n e ih => intro m H v cs F h; exact Ro.length _ h.2
  | map k v =>
    intro m H v cs F h
    simp only [Rep] at h
    split at h
    · obtain ⟨x, rfl, _⟩ := h; rfl
    · split at h
      · obtain ⟨_, _, r, kvs, rfl, _⟩ := h; rfl
      · exact Ro.length _ h.2.2
  | _ => intro m H v cs F h; exact Ro.length _ h

/-- The world may be another where it is not looked at. -/
structure Agr (w w' : World) (S : Nat → Nat → Prop) : Prop where
  cell : ∀ b i, S b i → ∀ u, ce w b i = some u → ce w' b i = some u
  blk : ∀ b n, OwnBlk w b n → OwnBlk w' b n

theorem Ro.mono {P : Program} {w w' : World} {A A' : Cells} (hc : ∀ b i, A b i → ∀ u, ce w b i = some u → ce w' b i = some u) (hA : ∀ b i, A b i → A' b i) :
    ∀ (t : Ty) {v : t.den} {cs : List Value}, Ro P w A t v cs → Ro P w' A' t v cs := by
  intro t
  induction t with
  | pair a b iha ihb => intro v cs h; exact ⟨iha h.1, ihb h.2⟩
  | arr n e ih => intro v cs h; exact ⟨h.1, h.2.1, h.2.2.1, fun i x hx => ih (h.2.2.2 i x hx)⟩
  | slc e ih =>
    rintro v cs ⟨a, cap, h1, h2, h3, h4⟩
    refine ⟨a, cap, h1, h2, h3, fun ad had => ⟨(h4 ad had).1, fun i x hx => ?_⟩⟩
    obtain ⟨L, hl, hL, hr⟩ := (h4 ad had).2 i x hx
    exact ⟨L, hl, fun j u hu => ⟨hc _ _ (hL j u hu).2 u (hL j u hu).1, hA _ _ (hL j u hu).2⟩, ih hr⟩
  | ptr e ih =>
    rintro v cs ⟨ad, h1, h2, L, hl, hL, hr⟩
    exact ⟨ad, h1, h2, L, hl, fun j u hu => ⟨hc _ _ (hL j u hu).2 u (hL j u hu).1, hA _ _ (hL j u hu).2⟩, ih hr⟩
  | fn =>
    rintro v cs ⟨caps, h1, fn, h2, h3⟩
    refine ⟨caps, h1, fn, h2, ?_⟩
    rcases h3 with h3 | ⟨h3, ad, h4, h5, h6, h7⟩
    · exact .inl h3
    · exact .inr ⟨h3, ad, h4, h5, hc _ _ h7 _ h6, hA _ _ h7⟩
  | map k v ihk ihv =>
    rintro x cs ⟨h1, h2, r, kvs, h3, h4, h5, h6, h7⟩
    refine ⟨h1, h2, r, kvs, h3, hc _ _ h5 _ h4, hA _ _ h5, h6, fun i y hy => ?_⟩
    obtain ⟨kc, vc, g1, g2, g3⟩ := h7 i y hy
    exact ⟨kc, vc, g1, ihk g2, ihv g3⟩
  | _ => intro v cs h; exact h

theorem Rep.mono {P : Program} {w w' : World} {A A' : Cells} (hA : ∀ b i, A b i → A' b i) (hc : ∀ b i, A b i → ∀ u, ce w b i = some u → ce w' b i = some u) (hb : ∀ b n, OwnBlk w b n → OwnBlk w' b n) :
    ∀ (t : Ty) {m : Md} {H : List Path} {v : t.den} {cs : List Value} {F F' : FP}, Rep P w A t m H v cs F → (∀ b i, F b i ≤ F' b i) → (∀ b i, 1 ≤ F b i → ∀ u, ce w b i = some u → ce w' b i = some u) → Rep P w' A' t m H v cs F' := by
  intro t
  induction t with
  | pair a b iha ihb =>
    intro m H v cs F F' h hF hc'
    obtain ⟨h0, F1, F2, hs, h1, h2⟩ := h
    exact ⟨h0, F1, F2, fun x i => Nat.le_trans (hs x i) (hF x i), iha h1 (fun _ _ => Nat.le_refl _) (fun b i hp => hc' b i (by have := hs b i; omega)),
      ihb h2 (fun _ _ => Nat.le_refl _) (fun b i hp => hc' b i (by have := hs b i; omega))⟩
  | slc e ih =>
    intro m H v cs F F' h hF hc'
    simp only [Rep] at h ⊢
    split at h
    · rename_i hh; rw [if_pos hh]; exact h
    · rename_i hh; rw [if_neg hh]
      split at h
      · rename_i hm; rw [if_pos hm]
        obtain ⟨a, cap, h1, h2, h3, h4, h5⟩ := h
        refine ⟨a, cap, h1, h2, h3, h4, fun ad had => ?_⟩
        obtain ⟨g1, g2, g3, Fi, g4, g5⟩ := h5 ad had
        refine ⟨g1, g2, hb _ _ g3, Fi, fun x i => Nat.le_trans (g4 x i) (hF x i), fun i x hx => ?_⟩
        obtain ⟨L, hl, hL, hr⟩ := g5 i x hx
        have hi : i < List.length v := (List.getElem?_eq_some_iff.1 hx).1
        refine ⟨L, hl, fun j u hu => hc' _ _ ?_ u (hL j u hu), ih hr (fun _ _ => Nat.le_refl _) (fun b k hp => hc' b k ?_)⟩
        · have := g4 ad.block (i * e.sz + j)
          have hj : j < e.sz := hl ▸ (List.getElem?_eq_some_iff.1 hu).1
          have : i * e.sz + j < cap * e.sz := by
            have h1 : (i + 1) * e.sz ≤ cap * e.sz := Nat.mul_le_mul_right _ (by omega)
            rw [Nat.add_mul] at h1; omega
          simp [rng, this] at *
          omega
        · have h1 := g4 b k
          have h2 := le_sumF Fi hi b k
          omega
      · rename_i hm; rw [if_neg hm]; exact ⟨h.1, h.2.1, Ro.mono hc hA _ h.2.2⟩
  | ptr e ih =>
    intro m H v cs F F' h hF hc'
    simp only [Rep] at h ⊢
    split at h
    · rename_i hh; rw [if_pos hh]; exact h
    · rename_i hh; rw [if_neg hh]
      split at h
      · rename_i hm; rw [if_pos hm]
        obtain ⟨b, h1, h2, L, F1, h3, h4, h5, h6⟩ := h
        refine ⟨b, h1, hb _ _ h2, L, F1, h3, fun j u hu => hc' _ _ ?_ u (h4 j u hu), fun x i => Nat.le_trans (h5 x i) (hF x i), ih h6 (fun _ _ => Nat.le_refl _) (fun b' k hp => hc' b' k ?_)⟩
        · have := h5 b (0 + j)
          have hj : j < e.sz := h3 ▸ (List.getElem?_eq_some_iff.1 hu).1
          simp [rng, hj] at *
          omega
        · have := h5 b' k; omega
      · rename_i hm; rw [if_neg hm]; exact ⟨h.1, h.2.1, Ro.mono hc hA _ h.2.2⟩
  | arr n e ih => intro m H v cs F F' h hF hc'; exact ⟨h.1, Ro.mono hc hA _ h.2⟩
  | map k v ihk ihv =>
    intro m H x cs F F' h hF hc'
    simp only [Rep] at h ⊢
    split at h
    · rename_i hh; rw [if_pos hh]; exact h
    · rename_i hh; rw [if_neg hh]
      split at h
      · rename_i hm; rw [if_pos hm]
        obtain ⟨h1, h2, r, kvs, h3, h4, h5, h6, h7⟩ := h
        refine ⟨h1, h2, r, kvs, h3, hc' _ _ h5 _ h4, Nat.le_trans h5 (hF r 0), h6, fun i y hy => ?_⟩
        obtain ⟨kc, vc, g1, g2, g3⟩ := h7 i y hy
        exact ⟨kc, vc, g1, Ro.mono hc hA k g2, Ro.mono hc hA v g3⟩
      · rename_i hm; rw [if_neg hm]; exact ⟨h.1, h.2.1, Ro.mono hc hA _ h.2.2⟩
  | _ => intro m H v cs F F' h hF hc'; exact Ro.mono hc hA _ h

theorem Rep.le {P : Program} {w : World} {A : Cells} {t : Ty} {m : Md} {H : List Path} {v : t.den} {cs : List Value} {F F' : FP} (h : Rep P w A t m H v cs F) (hF : ∀ b i, F b i ≤ F' b i) : Rep P w A t m H v cs F' :=
  Rep.mono (fun _ _ h => h) (fun _ _ _ _ h => h) (fun _ _ h => h) t h hF (fun _ _ _ _ h => h)

/-- What is owned is taken for what nobody turns, as long as it is lent. -/
theorem Rep.toRo {P : Program} {w : World} {A A' : Cells} (hA : ∀ b i, A b i → A' b i) :
    ∀ (t : Ty) {m : Md} {v : t.den} {cs : List Value} {F : FP}, Rep P w A t m [] v cs F → (∀ b i, 1 ≤ F b i → A' b i) → Ro P w A' t v cs := by
  intro t
  induction t with
  | pair a b iha ihb =>
    intro m v cs F h hF
    obtain ⟨h0, F1, F2, hs, h1, h2⟩ := h
    exact ⟨iha h1 (fun b i hp => hF b i (by have := hs b i; omega)), ihb h2 (fun b i hp => hF b i (by have := hs b i; omega))⟩
  | slc e ih =>
    intro m v cs F h hF
    simp only [Rep, hole, List.any_nil, Bool.false_eq_true, if_false] at h
    split at h
    · obtain ⟨a, cap, h1, h2, h3, h4, h5⟩ := h
      refine ⟨a, cap, h1, h2, fun hn => by have := h4 hn; omega, fun ad had => ?_⟩
      obtain ⟨g1, g2, g3, Fi, g4, g5⟩ := h5 ad had
      refine ⟨fun _ => g2, fun i x hx => ?_⟩
      obtain ⟨L, hl, hL, hr⟩ := g5 i x hx
      have hi : i < List.length v := (List.getElem?_eq_some_iff.1 hx).1
      refine ⟨L, hl, fun j u hu => ?_, ih hr fun b k hp => hF b k ?_⟩
      · rw [g1, Nat.zero_add]
        refine ⟨hL j u hu, hF _ _ ?_⟩
        have := g4 ad.block (i * e.sz + j)
        have hj : j < e.sz := hl ▸ (List.getElem?_eq_some_iff.1 hu).1
        have : i * e.sz + j < cap * e.sz := by
          have h1 : (i + 1) * e.sz ≤ cap * e.sz := Nat.mul_le_mul_right _ (by omega)
          rw [Nat.add_mul] at h1; omega
        simp [rng, this] at *
        omega
      · have h1 := g4 b k
        have h2 := le_sumF Fi hi b k
        omega
    · exact Ro.mono (fun _ _ _ _ h => h) hA _ h.2.2
  | ptr e ih =>
    intro m v cs F h hF
    simp only [Rep, hole, List.any_nil, Bool.false_eq_true, if_false] at h
    split at h
    · obtain ⟨b, h1, h2, L, F1, h3, h4, h5, h6⟩ := h
      refine ⟨_, h1, rfl, L, h3, fun j u hu => ⟨h4 j u hu, hF _ _ ?_⟩, ih h6 fun b' k hp => hF _ _ ?_⟩
      · have := h5 b (0 + j)
        have hj : j < e.sz := h3 ▸ (List.getElem?_eq_some_iff.1 hu).1
        simp [rng, hj] at *
        omega
      · have := h5 b' k; omega
    · exact Ro.mono (fun _ _ _ _ h => h) hA _ h.2.2
  | arr n e ih => intro m v cs F h hF; exact Ro.mono (fun _ _ _ _ h => h) hA _ h.2
  | map k v ihk ihv =>
    intro m x cs F h hF
    simp only [Rep, hole, List.any_nil, Bool.false_eq_true, if_false] at h
    split at h
    · obtain ⟨h1, h2, r, kvs, h3, h4, h5, h6, h7⟩ := h
      refine ⟨h1, h2, r, kvs, h3, h4, hF _ _ h5, h6, fun i y hy => ?_⟩
      obtain ⟨kc, vc, g1, g2, g3⟩ := h7 i y hy
      exact ⟨kc, vc, g1, Ro.mono (fun _ _ _ _ h => h) hA k g2, Ro.mono (fun _ _ _ _ h => h) hA v g3⟩
    · exact Ro.mono (fun _ _ _ _ h => h) hA _ h.2.2
  | _ => intro m v cs F h hF; exact Ro.mono (fun _ _ _ _ h => h) hA _ h

end OT
