/- Operations, seventh part: new blocks. -/
import Derived.Test.YtkimdiobckckiaaOTt
import Derived.Laws.MakeOwn
import Derived.Laws.IdiomStrings
set_option linter.unusedVariables false
set_option linter.unusedSimpArgs false
namespace OT
open Go

section
variable {P : Program} {C : Ctx} {A : Cells} {X : FP} {σ : St} {a : Act} {w : World} {F : Nat → FP} {R : Type} {x : R} {Q : Exit → Act → World → Prop} {o : Oper} {E : Env}

theorem ext_alloc (w : World) (ob : Obj) : Ext w (w.alloc ob) (fun _ _ => 0) := by
  refine ⟨by simp, fun b i hb _ u hu => ?_, fun b n hn => ?_, fun b i hb => World.frozen?_alloc_old w ob _ (by simp; omega), rfl, rfl, rfl, fun b hb _ => ?_⟩
  · rw [ce_block (w := w) (by simp only [World.alloc, Array.getElem?_push]; rw [if_neg (by omega)])]; exact hu
  · obtain ⟨c, e, fr, h1, h2, h3⟩ := hn
    refine ⟨c, e, fr, ?_, h2, h3⟩
    have hb := (Array.getElem?_eq_some_iff.1 h1).1
    simp only [World.alloc, Array.getElem?_push]
    rw [if_neg (by omega)]; exact h1
  · simp only [World.alloc, Array.getElem?_push]
    rw [if_neg (by omega)]
theorem ext_drew (w : World) : Ext w w.drew (fun _ _ => 0) := ⟨Nat.le_refl _, fun _ _ _ _ _ h => h, fun _ _ h => h, fun _ _ _ => rfl, rfl, rfl, rfl, fun _ _ _ => rfl⟩

theorem own_alloc (w : World) (c : Array Value) (e : TypeId) (fr : Nat × Nat) (hfr : c.size ≤ fr.1 ∨ fr.2 ≤ fr.1) : OwnBlk (w.alloc (.cells c e fr)) w.heap.size c.size :=
  ⟨c, e, fr, heap_alloc_new w _, rfl, fun i hi => by omega⟩
theorem has_alloc (w : World) (c : Array Value) (e : TypeId) (fr : Nat × Nat) {k : Nat} {L : List Value} (hL : ∀ j u, L[j]? = some u → c[k + j]? = some u) (hone : ∀ u ∈ L, u.oneCell' = true) : Has (w.alloc (.cells c e fr)) w.heap.size k L := by
  intro j u hu
  have := hL j u hu
  refine cell_ce ?_ (hone u (List.mem_of_getElem? hu))
  unfold World.cell?
  simp only [heap_alloc_new, Option.isSome_none, Bool.false_eq_true, if_false, this]

theorem Rel.alloc (h : Rel P C A X σ a w F) (c : Array Value) (e : TypeId) (fr : Nat × Nat) : Rel P C A (fun b i => X b i + rng w.heap.size 0 c.size b i) σ a (w.alloc (.cells c e fr)) F := by
  refine h.grow (ext_alloc w _) (fun _ _ h => h) (fun _ _ h => .inl h) (fun b i => ?_)
  by_cases hb : b = w.heap.size
  · subst hb
    right
    have hx : X w.heap.size i = 0 := by
      rcases Nat.eq_zero_or_pos (X w.heap.size i) with h0 | h0
      · exact h0
      · have := h.bnd w.heap.size i (.inl (by omega)); omega
    exact ⟨Nat.le_refl _, by simp, by rw [hx]; simp only [rng]; split <;> omega⟩
  · left
    simp [rng, hb]
theorem Rel.drew (h : Rel P C A X σ a w F) : Rel P C A X σ a w.drew F := h.grow (ext_drew w) (fun _ _ h => h) (fun _ _ h => .inl h) (fun _ _ => .inl (Nat.le_refl _))

theorem Rep.alloc (h : Rel P C A X σ a w F) {t : Ty} {m : Md} {H : List Path} {v : t.den} {cs : List Value} {G : FP} (hr : Rep P w A t m H v cs G) (hG : ∀ b i, 1 ≤ G b i → b < w.heap.size) {w' : World} (hw : Ext w w' (fun _ _ => 0)) : Rep P w' A t m H v cs G :=
  Rep.mono (fun _ _ h => h) (fun b i ha u hu => hw.cell b i (h.bnd b i (.inr ha)) rfl u hu) hw.blk t hr (fun _ _ => Nat.le_refl _) (fun b i hp u hu => hw.cell b i (hG b i hp) rfl u hu)

/-- A box that is new. -/
theorem box_new (h : Rel P C A X σ a w F) {K : St → Option R} {d : Option Tmp} {t : Ty} {m : Md} {v : t.den} {cs : List Value} {Fv : FP} (e : TypeId) (hk : K (σ.putD d (.box t m [] v)) = some x)
    (hr : Rep P w A t m [] v cs Fv) (hX : ∀ b i, Fv b i ≤ X b i) : ∃ A' F', Rel P C A' (fun _ _ => 0) (σ.putD d (.box t m [] v)) (a.put d (.pointer (some ⟨w.heap.size, 0, none⟩))) (w.alloc (.cells cs.toArray e)) F' := by
  have hl := Rep.length t hr
  have h1 := h.alloc cs.toArray e (0, 0)
  have hown := own_alloc w cs.toArray e (0, 0) (.inr (Nat.le_refl _))
  simp only [List.size_toArray, hl] at hown h1
  have hr1 := Rep.alloc h hr (fun b i hp => h.bnd b i (.inl (by have := hX b i; omega))) (ext_alloc w (.cells cs.toArray e))
  obtain ⟨F', hF⟩ := h1.putD d (s := .box t m [] v) (v := .pointer (some ⟨w.heap.size, 0, none⟩)) (Fd := fun b i => rng w.heap.size 0 t.sz b i + Fv b i) (X' := fun _ _ => 0)
    ⟨w.heap.size, 0, cs, Fv, rfl, hl, has_alloc w cs.toArray e (0, 0) (fun j u hu => by simpa using hu) (Rep.one _ hr), fun j hj => by rw [Nat.zero_add]; exact hown.frozen hj, fun _ _ => Nat.le_refl _, hr1⟩
    (fun b i => by have := hX b i; omega) (fun t' m' H' v' e' => by injection e' with e1; subst e1; exact ⟨_, rfl, hown⟩)
  exact ⟨A, F', hF⟩

theorem zok_some : ∀ (t : Ty), t.zok = true → ∃ L, zc t = some L := by
  intro t
  induction t with
  | pair a b iha ihb =>
    intro h
    simp only [Ty.zok, Bool.and_eq_true] at h
    obtain ⟨x, hx⟩ := iha h.1
    obtain ⟨y, hy⟩ := ihb h.2
    exact ⟨x ++ y, by simp [zc, hx, hy]⟩
  | arr n e ih =>
    intro h
    obtain ⟨x, hx⟩ := ih h
    exact ⟨(List.replicate n x).flatten, by simp only [zc, hx]⟩
  | ptr e ih => intro h; cases h
  | fn => intro h; cases h
  | map k v => intro h; cases h
  | _ => intro h; exact ⟨_, rfl⟩

theorem new_alloc (h : Rel0 P C A σ a w F) (hti : ∀ i T, E.TI i = some T → layB P T (.inl i) = true) {t : Nat} (ho : o.op = .alloc t) {K : St → Option R}
    (hk : (tiK E t fun T => if T.zok then K (σ.putD o.dst (.box T (ownMd T) [] T.zero)) else none) = some x) : o.wp P a w (fun a' w' => Nx P C K x a' w' ∧ Ext w w' (fun _ _ => 0)) Q := by
  obtain ⟨T, hT, hk⟩ := tiK_some hk
  split at hk
  · rename_i hzk
    have hlay := hti _ _ hT
    obtain ⟨L, hL⟩ := zok_some T hzk
    obtain ⟨z, hz1, hz2⟩ := run_zeroValue (P := P) (w := w) hlay hL
    obtain ⟨r1, r2, r3⟩ := zc_ok (P := P) (w := w) (A := A) T hL hlay
    refine wp_val (v := .pointer (some ⟨w.heap.size, 0, none⟩)) (w' := w.alloc (.cells L.toArray t)) ?_ ?_
    · have : z.cells = L.toArray := by apply Array.ext'; simpa using hz2
      unfold execOp
      simp [ho, Instr.alloc, hz1, newVar, newRow, this]
    · obtain ⟨A', F', hF⟩ := box_new h t hk r1 (fun _ _ => Nat.le_refl _)
      exact ⟨⟨_, hk, A', F', hF⟩, ext_alloc w _⟩
  · cases hk
end
end OT
