/- One operation. -/
import Derived.Test.YtkimdiobckckiaaOVb
import Derived.OrdersHeld
set_option linter.unusedVariables false
set_option linter.unusedSimpArgs false
namespace OT
open Go

/-- The tables and contracts hold. -/
structure EnvOk (P : Program) (E : Env) : Prop where
  ti : ∀ i T, E.TI i = some T → layB P T (.inl i) = true
  eq : eqTab P E
  fn : ∀ f g, E.G f = some g → Sound P f g ∧ EnterOk P f g.cap

def kindB (P : Program) (t : TypeId) : Bool := match P.underlying t with
  | some (.slice _) => true
  | some .string => true
  | _ => false
theorem kindB_some {P : Program} {t : TypeId} (h : kindB P t = true) : (∃ e', P.underlying t = some (.slice e')) ∨ P.underlying t = some .string := by
  unfold kindB at h
  split at h
  · rename_i e he; exact .inl ⟨e, he⟩
  · rename_i he; exact .inr he
  · cases h

/-- What the program's own tables have to say of an operation. -/
def callOk (P : Program) (c : Call) : Bool := match c.callee with
  | .builtin .append | .builtin .copy => match c.argTypes.toList with
    | [_, tx] => kindB P tx
    | _ => false
  | _ => true
def opOk (P : Program) : Op → Bool
  | .move x | .assign x | .nilCheck x | .box _ x | .load _ x | .unOp _ _ x | .convert _ _ x | .fieldAddr _ x _ | .field _ x _ => opdOk P x
  | .pick c a b => opdOk P c && opdOk P a && opdOk P b
  | .mapUpdate _ m k v => opdOk P m && opdOk P k && opdOk P v
  | .lookup _ a x _ | .store _ a x | .binOp _ _ a x _ | .indexAddr _ a x | .index _ a x | .makeSlice _ a x => opdOk P a && opdOk P x
  | .build _ ps | .buildSlice _ _ ps => ps.toList.all fun p => opdOk P p.2
  | .slice _ x lo hi _ => opdOk P x && lo.all (opdOk P) && hi.all (opdOk P)
  | .makeFunc (.func f) _ cs => (P.funcs[f]?).any fun fn => fn.nfree == cs.size
  | .call c => c.args.toList.all (opdOk P) && callOk P c
  | _ => true

section
variable {P : Program} {C : Ctx} {A : Cells} {X : FP} {σ : St} {a : Act} {w : World} {F : Nat → FP} {R : Type} {x : R} {Q : Exit → Act → World → Prop} {o : Oper} {E : Env}

theorem arr_of {α : Type} {l : Array α} {m : List α} (h : l.toList = m) : l = m.toArray := by apply Array.ext'; simpa using h

/-- An operation that may be taken first, whatever else comes. -/
def tkOp (E : Env) : Op → Bool
  | .move _ | .assign _ | .pick .. | .build .. | .load .. | .nilCheck _ | .binOp .. | .unOp .. | .fieldAddr .. | .field .. | .indexAddr .. | .index .. | .slice .. | .extract .. | .makeFunc .. => true
  | .convert _ t _ => match E.TI t with
    | some T => T.flat
    | none => false
  | .call c => match c.callee with
    | .builtin .len => match c.argTypes.toList with
      | [t] => !isMapT (E.TI t)
      | _ => false
    | _ => false
  | _ => false

theorem tk_ok (hE : EnvOk P E) (h : Rel0 P C A σ a w F) {rid i : Nat} (hst : opOk P o.op = true) (htk : tkOp E o.op = true) {K : St → Option R} (hk : stepK E rid i o σ K = some x) : Tk P o a w (Nx P C K x) := by
  unfold stepK at hk
  cases ho : o.op with
  | move y => rw [ho] at hk hst; exact take_move h ho hst hk
  | assign y => rw [ho] at hk hst; exact take_assign h ho hst hk
  | pick c y z =>
    rw [ho] at hk hst
    simp only [opOk, Bool.and_eq_true] at hst
    exact take_pick h ho ⟨hst.1.1, hst.1.2, hst.2⟩ hk
  | build t ps => rw [ho] at hk hst; exact take_build h hE.ti ho hst hk
  | load t y => rw [ho] at hk hst; exact take_load h hE.ti ho hst hk
  | nilCheck y => rw [ho] at hk hst; exact take_nilCheck h ho hst hk
  | binOp op t y z t2 =>
    rw [ho] at hk hst
    simp only [opOk, Bool.and_eq_true] at hst
    exact take_binOp h hE.ti hE.eq ho hst hk
  | unOp op t y =>
    rw [ho] at hk hst
    refine take_unOp h ho hst (K := K) ?_
    clear hst htk
    revert hk
    simp only
    generalize opd σ y = s
    cases op <;> cases s <;> first
      | exact id
      | (rename_i t v; cases t <;> exact id)
  | convert s t y =>
    rw [ho] at hk hst htk
    refine take_convert h hE.ti ho hst (fun T hT => ?_) hk
    simp only [tkOp, hT] at htk
    exact htk
  | fieldAddr t y j => rw [ho] at hk hst; exact take_fieldAddr h hE.ti ho hst hk
  | field t y j => rw [ho] at hk hst; exact take_field h hE.ti ho hst hk
  | indexAddr t y z =>
    rw [ho] at hk hst
    simp only [opOk, Bool.and_eq_true] at hst
    exact take_indexAddr h hE.ti ho hst hk
  | index t y z =>
    rw [ho] at hk hst
    simp only [opOk, Bool.and_eq_true] at hst
    exact take_index h hE.ti ho hst hk
  | slice t y lo hi mx =>
    rw [ho] at hk hst
    cases mx with
    | none =>
      simp only [opOk, Bool.and_eq_true] at hst
      refine take_slice h hE.ti ho ⟨hst.1.1, fun z hz => ?_, fun z hz => ?_⟩ hk
      · have := hst.1.2; rw [hz] at this; exact this
      · have := hst.2; rw [hz] at this; exact this
    | some m => cases hk
  | extract y j =>
    rw [ho] at hk
    cases y with
    | tmp i => exact take_extract h ho hk
    | _ => cases hk
  | makeFunc fn first cs =>
    rw [ho] at hk hst
    cases fn with
    | func f => exact take_makeFunc h ho hst hk
    | _ => cases hk
  | call c =>
    rw [ho] at hk hst htk
    simp only [opOk, Bool.and_eq_true] at hst
    obtain ⟨hargs, hc⟩ := hst
    obtain ⟨callee, args, ts⟩ := c
    cases callee with
    | builtin b =>
      cases b with
      | len =>
        simp only at hk
        split at hk
        · rename_i y t h1 h2
          have e1 := arr_of h1; have e2 := arr_of h2
          subst e1; subst e2
          simp only [List.all_cons, Bool.and_eq_true] at hargs
          simp only [tkOp, Bool.not_eq_true'] at htk
          rw [htk] at hk
          exact take_len h hE.ti ho hargs.1 hk
        · cases hk
      | _ => simp [tkOp] at htk
    | _ => simp [tkOp] at htk
  | _ => rw [ho] at htk; simp [tkOp] at htk

/-- An operation that turns nothing that there is. -/
def quiet (E : Env) : Op → Bool
  | .alloc _ | .box .. | .buildSlice .. | .makeSlice .. | .convert .. | .makeMap .. | .lookup .. => true
  | .call c => match c.callee with
    | .value (.func f) => match E.G f with
      | some g => noMut g.ps
      | none => false
    | _ => false
  | _ => false

theorem not_tk (hE : EnvOk P E) (h : Rel0 P C A σ a w F) {rid i : Nat} (hst : opOk P o.op = true) (htk : tkOp E o.op = false) {K : St → Option R} (hk : stepK E rid i o σ K = some x) :
    o.wp P a w (fun a' w' => Nx P C K x a' w' ∧ (quiet E o.op = true → Ext w w' (fun _ _ => 0))) Q := by
  have wq : ∀ {N : Act → World → Prop}, o.wp P a w (fun a' w' => N a' w' ∧ Ext w w' (fun _ _ => 0)) Q → o.wp P a w (fun a' w' => N a' w' ∧ (quiet E o.op = true → Ext w w' (fun _ _ => 0))) Q := fun h => Oper.wp_mono (fun a' w' h => ⟨h.1, fun _ => h.2⟩) h
  have wn : ∀ {N : Act → World → Prop}, quiet E o.op = false → o.wp P a w N Q → o.wp P a w (fun a' w' => N a' w' ∧ (quiet E o.op = true → Ext w w' (fun _ _ => 0))) Q := fun hq h => Oper.wp_mono (fun a' w' h => ⟨h, fun e => by rw [hq] at e; cases e⟩) h
  unfold stepK at hk
  cases ho : o.op with
  | alloc t => rw [ho] at hk; rw [← ho]; exact wq (new_alloc h hE.ti ho hk)
  | box t y => rw [ho] at hk hst; rw [← ho]; exact wq (new_box h ho hst hk)
  | buildSlice t n ps => rw [ho] at hk hst; rw [← ho]; exact wq (new_buildSlice h hE.ti ho hst hk)
  | store t y z =>
    rw [ho] at hk hst
    simp only [opOk, Bool.and_eq_true] at hst
    rw [← ho]
    refine wn (by rw [ho]; rfl) ?_
    cases hd : o.dst with
    | none => rw [hd] at hk; exact step_store h hE.ti ho hd hst hk
    | some d => rw [hd] at hk; cases hk
  | convert s t y => rw [ho] at hk hst; rw [← ho]; exact wq (new_convert h hE.ti ho hst hk)
  | makeMap t rv =>
    rw [ho] at hk
    rw [← ho]
    cases rv with
    | none => exact wq (new_makeMap h hE.ti ho hk)
    | some _ => cases hk
  | lookup t y z ok =>
    rw [ho] at hk hst
    simp only [opOk, Bool.and_eq_true] at hst
    rw [← ho]
    exact wq (step_lookup h hE.ti ho hst hk)
  | mapUpdate t y z u =>
    rw [ho] at hk hst
    simp only [opOk, Bool.and_eq_true] at hst
    rw [← ho]
    refine wn (by rw [ho]; rfl) ?_
    cases hd : o.dst with
    | none => rw [hd] at hk; exact step_mapUpdate h hE.ti ho hd ⟨hst.1.1, hst.1.2, hst.2⟩ hk
    | some d => rw [hd] at hk; cases hk
  | makeSlice t y z =>
    rw [ho] at hk hst
    simp only [opOk, Bool.and_eq_true] at hst
    rw [← ho]
    exact wq (new_makeSlice h hE.ti ho hst hk)
  | call c =>
    rw [ho] at hk hst htk
    simp only [opOk, Bool.and_eq_true] at hst
    obtain ⟨hargs, hc⟩ := hst
    obtain ⟨callee, args, ts⟩ := c
    rw [← ho]
    cases callee with
    | builtin b =>
      cases b with
      | len =>
        simp only at hk
        split at hk
        · rename_i y t h1 h2
          have e1 := arr_of h1; have e2 := arr_of h2
          subst e1; subst e2
          simp only [List.all_cons, Bool.and_eq_true] at hargs
          simp only [tkOp, Bool.not_eq_false'] at htk
          rw [htk] at hk
          exact wn (by rw [ho]; rfl) (step_mapLen h hE.ti ho hargs.1 hk)
        · cases hk
      | append =>
        simp only at hk
        split at hk
        · rename_i y z t ts' h1 h2
          have e1 := arr_of h1
          subst e1
          simp only [callOk] at hc
          split at hc
          · rename_i t0 tx h3
            rw [h3] at h2
            injection h2 with h2 h4
            subst h2
            have e2 := arr_of h3
            subst e2
            simp only [List.all_cons, Bool.and_eq_true] at hargs
            exact wn (by rw [ho]; rfl) (step_append h hE.ti ho ⟨hargs.1, hargs.2.1⟩ (kindB_some hc) hk)
          · cases hc
        · cases hk
      | copy =>
        simp only at hk
        split at hk
        · rename_i y z t ts' h1 h2
          have e1 := arr_of h1
          subst e1
          simp only [callOk] at hc
          split at hc
          · rename_i t0 tx h3
            rw [h3] at h2
            injection h2 with h2 h4
            subst h2
            have e2 := arr_of h3
            subst e2
            simp only [List.all_cons, Bool.and_eq_true] at hargs
            exact wn (by rw [ho]; rfl) (step_copy h hE.ti ho ⟨hargs.1, hargs.2.1⟩ (kindB_some hc) hk)
          · cases hc
        · cases hk
      | _ => cases hk
    | value y =>
      cases y with
      | func f =>
        simp only at hk
        split at hk
        · rename_i g hg
          split at hk
          · rename_i hcap
            obtain ⟨h1, h2⟩ := hE.fn f g hg
            rw [hcap] at h2
            refine Oper.wp_mono (fun a' w' h => ⟨h.1, fun e => h.2 ?_⟩) (step_call_f h ho hargs h1 h2 hk)
            rw [ho] at e
            simp only [quiet, hg] at e
            exact e
          · cases hk
        · cases hk
      | tmp i =>
        refine wn (by rw [ho]; rfl) ?_
        simp only at hk
        split at hk
        · rename_i f n hsl
          split at hk
          · rename_i g hg
            obtain ⟨h1, h2⟩ := hE.fn f g hg
            refine Oper.wp_mono (fun a' w' h => h.1) (step_call_t h ho hargs hsl h1 h2 (K := K) (x := x) ?_)
            cases hcap : g.cap with
            | true => rw [hcap] at hk; exact hk
            | false => rw [hcap] at hk; exact hk
          · cases hk
        · cases hk
      | _ => cases hk
    | _ => cases hk
  | _ => rw [ho] at hk htk; first | (cases hk; done) | (simp [tkOp] at htk; done)

theorem step_ok (hE : EnvOk P E) (h : Rel0 P C A σ a w F) {rid i : Nat} (hst : opOk P o.op = true) {K : St → Option R} (hk : stepK E rid i o σ K = some x) : o.wp P a w (Nx P C K x) Q := by
  cases htk : tkOp E o.op with
  | true => exact (tk_ok hE h hst htk hk).wp
  | false => exact Oper.wp_mono (fun a' w' h => h.1) (not_tk hE h hst htk hk)
end
end OT
