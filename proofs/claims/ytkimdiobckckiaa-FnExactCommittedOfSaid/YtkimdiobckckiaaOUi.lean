/- Functions: a body that is run on data gives the contract. -/
import Derived.Test.YtkimdiobckckiaaOUh
set_option linter.unusedVariables false
set_option linter.unusedSimpArgs false
namespace OT
open Go

section
variable {P : Program} {w : World} {A : Cells} {R : Type} {x : R} {E : Env}

theorem init_len : ∀ (ps : List (PM × Ty)) (v : (tupT (ps.map (·.2))).den), (initSlots ps v).length = ps.length
  | [], _ => rfl
  | (.ro, t) :: ps, v => by cases t <;> simp [initSlots, init_len ps v.2]
  | (.fix f, t) :: ps, v => by cases t <;> simp [initSlots, init_len ps v.2]
  | (.mutp m, t) :: ps, v => by simp [initSlots, init_len ps v.2]
  | (.muts m, t) :: ps, v => by simp [initSlots, init_len ps v.2]

theorem args_len : ∀ (ps : List (PM × Ty)) {v : (tupT (ps.map (·.2))).den} {xs : List Value} {G : FP}, ArgsRel P w A ps v xs G → xs.length = ps.length
  | [], _, _, _, h => by have h : _ = [] := h; rw [h]; rfl
  | (pm, t) :: ps, _, _, _, h => by
    obtain ⟨y, ys, F1, F2, rfl, _, _, h2⟩ := h
    simp [args_len ps h2]

/-- The slots of the parameters. -/
theorem init_ok : ∀ (ps : List (PM × Ty)) {v : (tupT (ps.map (·.2))).den} {xs : List Value} {G : FP}, ArgsRel P w A ps v xs G → psOk ps = true →
    ∃ Fi : Nat → FP, (∀ b k, sumF ps.length Fi b k ≤ G b k) ∧ ∀ i s, (initSlots ps v)[i]? = some s → ∃ y, xs[i]? = some y ∧ (∀ σ a, SlotRel P A σ a w y s (Fi i)) ∧ (∀ t m H v, s = .box t m H v → (i, i, false) ∈ lentOf 0 ps) ∧
      ((i, i, true) ∈ lentOf 0 ps → ∃ t m H v, s = .own t m H v) := by
  -- with the numbers anywhere
  have main : ∀ (ps : List (PM × Ty)) (n : Nat) {v : (tupT (ps.map (·.2))).den} {xs : List Value} {G : FP}, ArgsRel P w A ps v xs G → psOk ps = true →
      ∃ Fi : Nat → FP, (∀ b k, sumF ps.length Fi b k ≤ G b k) ∧ ∀ i s, (initSlots ps v)[i]? = some s → ∃ y, xs[i]? = some y ∧ (∀ σ a, SlotRel P A σ a w y s (Fi i)) ∧ (∀ t m H v, s = .box t m H v → (n + i, n + i, false) ∈ lentOf n ps) ∧
        ((n + i, n + i, true) ∈ lentOf n ps → ∃ t m H v, s = .own t m H v) := by
    have hlt : ∀ (ps : List (PM × Ty)) (n j k : Nat) (c : Bool), (j, k, c) ∈ lentOf n ps → n ≤ j ∧ j = k := by
      intro ps
      induction ps with
      | nil => intro n j k c h; cases h
      | cons p ps ih =>
        intro n j k c h
        obtain ⟨pm, t⟩ := p
        cases pm with
        | ro => have := ih (n + 1) j k c h; omega
        | fix f => have := ih (n + 1) j k c h; omega
        | mutp m =>
          rcases List.mem_cons.1 h with e | h
          · injection e with e1 e2; injection e2 with e2 e3; omega
          · have := ih (n + 1) j k c h; omega
        | muts m =>
          rcases List.mem_cons.1 h with e | h
          · injection e with e1 e2; injection e2 with e2 e3; omega
          · have := ih (n + 1) j k c h; omega
    intro ps
    induction ps with
    | nil => intro n v xs G h _; exact ⟨fun _ _ _ => 0, fun b k => Nat.zero_le _, fun i s hs => by cases hs⟩
    | cons p ps ih =>
      intro n v xs G h hp
      obtain ⟨pm, t⟩ := p
      obtain ⟨y, ys, F1, F2, rfl, hs, ha, hr⟩ := h
      have hp' : psOk ps = true := hp
      obtain ⟨Fi, g1, g2⟩ := ih (n + 1) hr hp'
      -- the first slot
      obtain ⟨s0, hs0, hrel, hbox, hown⟩ : ∃ s0, initSlots ((pm, t) :: ps) v = s0 :: initSlots ps v.2 ∧ (∀ σ a, SlotRel P A σ a w y s0 F1) ∧ (∀ t' m' H' v', s0 = .box t' m' H' v' → ∃ m, pm = .mutp m) ∧ ((∃ m, pm = .muts m) → ∃ t' m H v, s0 = .own t' m H v) := by
        cases pm with
        | ro =>
          obtain ⟨cs, h1, h2⟩ := ha
          cases t with
          | ptr e =>
            refine ⟨.cp e v.1, rfl, fun σ a => ?_, (fun _ _ _ _ e => by cases e), fun ⟨m, e⟩ => by cases e⟩
            have hl := Ro.length _ h2
            match cs, hl with
            | [u], _ =>
              rw [mkV_one _ _ rfl] at h1
              subst h1
              exact h2
          | _ => exact ⟨.val _ v.1, rfl, fun σ a => ⟨cs, h1, h2⟩, (fun _ _ _ _ e => by cases e), fun ⟨m, e⟩ => by cases e⟩
        | fix f =>
          obtain ⟨⟨cs, h1, h2⟩, h3⟩ := ha
          cases t with
          | fn =>
            refine ⟨.val .fn (f, v.1.2), rfl, fun σ a => ⟨cs, h1, ?_⟩, (fun _ _ _ _ e => by cases e), fun ⟨m, e⟩ => by cases e⟩
            have e : v.1 = (f, v.1.2) := by have := h3 rfl; rw [← this]
            rw [← e]; exact h2
          | _ => exact ⟨.dead, rfl, fun σ a => trivial, (fun _ _ _ _ e => by cases e), fun ⟨m, e⟩ => by cases e⟩
        | mutp m =>
          obtain ⟨b, o, L, F3, h1, h2, h3, h4, h5, h6⟩ := ha
          exact ⟨.box t m [] v.1, rfl, fun σ a => ⟨b, o, L, F3, h1, h2, h3, h4, h5, h6⟩, fun _ _ _ _ _ => ⟨m, rfl⟩, fun ⟨m, e⟩ => by cases e⟩
        | muts m =>
          obtain ⟨cs, h1, h2⟩ := ha
          exact ⟨.own t m [] v.1, rfl, fun σ a => ⟨cs, h1, h2⟩, (fun _ _ _ _ e => by cases e), fun _ => ⟨_, _, _, _, rfl⟩⟩
      refine ⟨fun k => match k with | 0 => F1 | k + 1 => Fi k, fun b k => ?_, fun i s hi => ?_⟩
      · have : sumF (ps.length + 1) (fun k => match k with | 0 => F1 | k + 1 => Fi k) b k = F1 b k + sumF ps.length Fi b k := by
          rw [Nat.add_comm, sumF_add]
          congr 1
          · simp [sumF]
          · refine congrFun (congrFun (sumF_congr fun j hj => ?_) b) k
            rw [Nat.add_comm]
        show sumF (ps.length + 1) _ b k ≤ G b k
        rw [this]
        have := hs b k; have := g1 b k; omega
      · rw [hs0] at hi
        cases i with
        | zero =>
          injection hi with hi
          subst hi
          refine ⟨y, rfl, hrel, fun t' m' H' v' e => ?_, fun hm => ?_⟩
          · obtain ⟨m, rfl⟩ := hbox t' m' H' v' e
            exact List.mem_cons_self
          · refine hown ?_
            cases pm with
            | muts m => exact ⟨m, rfl⟩
            | ro => have := hlt ps (n + 1) _ _ _ hm; omega
            | fix f => have := hlt ps (n + 1) _ _ _ hm; omega
            | mutp m =>
              rcases List.mem_cons.1 hm with e | hm
              · injection e with e1 e2; injection e2 with e2 e3; cases e3
              · have := hlt ps (n + 1) _ _ _ hm; omega
        | succ i =>
          obtain ⟨y', q1, q2, q3, q4⟩ := g2 i s hi
          have hidx : n + 1 + i = n + (i + 1) := by omega
          rw [hidx] at q3 q4
          refine ⟨y', q1, q2, fun t' m' H' v' e => ?_, fun hm => q4 ?_⟩
          · have := q3 t' m' H' v' e
            cases pm with
            | ro => exact this
            | fix f => exact this
            | mutp m => exact List.mem_cons_of_mem _ this
            | muts m => exact List.mem_cons_of_mem _ this
          · cases pm with
            | ro => exact hm
            | fix f => exact hm
            | mutp m =>
              rcases List.mem_cons.1 hm with e | hm
              · injection e with e1 e2; omega
              · exact hm
            | muts m =>
              rcases List.mem_cons.1 hm with e | hm
              · injection e with e1 e2; omega
              · exact hm
  intro ps v xs G h hp
  obtain ⟨Fi, g1, g2⟩ := main ps 0 h hp
  exact ⟨Fi, g1, fun i s hi => by simpa using g2 i s hi⟩

theorem lent_idx : ∀ (ps : List (PM × Ty)) (n j k : Nat) (c : Bool), (j, k, c) ∈ lentOf n ps → n ≤ j ∧ j = k ∧ j < n + ps.length := by
  intro ps
  induction ps with
  | nil => intro n j k c h; cases h
  | cons p ps ih =>
    intro n j k c h
    obtain ⟨pm, t⟩ := p
    simp only [List.length_cons]
    cases pm with
    | ro => have := ih (n + 1) j k c h; omega
    | fix f => have := ih (n + 1) j k c h; omega
    | mutp m =>
      rcases List.mem_cons.1 h with e | h
      · injection e with e1 e2; injection e2 with e2 e3; omega
      · have := ih (n + 1) j k c h; omega
    | muts m =>
      rcases List.mem_cons.1 h with e | h
      · injection e with e1 e2; injection e2 with e2 e3; omega
      · have := ih (n + 1) j k c h; omega

theorem look_num : ∀ (ss : List Slot) (n i : Nat), lookN (numbered n ss) i = if n ≤ i then ss[i - n]? else none
  | [], n, i => by simp [numbered, lookN]
  | s :: ss, n, i => by
    simp only [numbered, lookN, look_num ss (n + 1) i]
    by_cases hi : n = i
    · subst hi; simp
    · have : Nat.beq n i = false := by
        cases hb : Nat.beq n i with
        | false => rfl
        | true => exact absurd (Nat.eq_of_beq_eq_true hb) hi
      simp only [this, Bool.false_eq_true, if_false]
      by_cases hle : n ≤ i
      · rw [if_pos (by omega), if_pos hle]
        have e : i - n = (i - (n + 1)) + 1 := by omega
        rw [e, List.getElem?_cons_succ]
      · rw [if_neg (by omega), if_neg hle]

/-- The state at the beginning. -/
theorem begin_ok {g : Sig} {v : (tupT (g.ps.map (·.2))).den} {xs : List Value} {F0 : FP} {n : Nat} (h : ArgsRel P w A g.ps v xs F0) (hp : psOk g.ps = true) (hn : g.ps.length ≤ n) (h1 : ∀ b i, F0 b i ≤ 1) (h2 : ∀ b i, 1 ≤ F0 b i → ¬ A b i) (h3 : ∀ b i, 1 ≤ F0 b i ∨ A b i → b < w.heap.size) :
    ∃ F, Rel0 P { w0 := w, A0 := A, F0 := F0, args := xs.toArray } A (initSt g.ps v n) { tmps := xs.toArray ++ Array.replicate (n - xs.toArray.size) undef, defers := [] } w F := by
  obtain ⟨Fi, g1, g2⟩ := init_ok g.ps h hp
  have hlen := args_len g.ps h
  have hil := init_len g.ps v
  have hget : ∀ i, (initSt g.ps v n).get i = if i < n then (match (initSlots g.ps v)[i]? with | some s => s | none => .dead) else .dead := fun i => by
    unfold St.get initSt
    simp only [look_num, Nat.zero_le, if_true, Nat.sub_zero]
    by_cases hi : i < n
    · rw [if_pos (by simpa [Nat.blt_eq] using hi), if_pos hi]
      rfl
    · rw [if_neg (by simpa [Nat.blt_eq] using hi), if_neg hi]
  have htmp : ∀ i (y : Value), xs[i]? = some y → tmp { tmps := xs.toArray ++ Array.replicate (n - xs.toArray.size) undef, defers := [] } i = y := fun i y hy => by
    have hi := (List.getElem?_eq_some_iff.1 hy).1
    unfold tmp
    rw [Array.getD_eq_getD_getElem?, Array.getElem?_append_left (by simpa using hi)]
    simp [hy]
  have hsum : ∀ b k, sumF n (fun i => if i < g.ps.length then Fi i else fun _ _ => 0) b k ≤ F0 b k := fun b k => by
    have e : n = g.ps.length + (n - g.ps.length) := by omega
    rw [e, sumF_add]
    have e1 := congrFun (congrFun (sumF_congr (n := g.ps.length) (f := fun i => if i < g.ps.length then Fi i else fun _ _ => 0) (g := Fi) (fun j hj => by simp only [if_pos hj])) b) k
    have e2 := congrFun (congrFun (sumF_congr (n := n - g.ps.length) (f := fun j => (fun i => if i < g.ps.length then Fi i else fun _ _ => 0) (g.ps.length + j)) (g := fun _ _ _ => 0) (fun j hj => by simp only; rw [if_neg (by omega)])) b) k
    rw [e1, e2, sumF_zero]
    exact g1 b k
  refine ⟨fun i => if i < g.ps.length then Fi i else fun _ _ => 0, ?_, rfl, fun i hi => ?_, (fun d r p snap hm => by cases hm), fun b k => ?_, fun b k hp => ?_, fun b k hp => ?_, fun i => rfl, Ext.refl _ _, fun b k hp => ?_, fun _ _ h => h, fun _ _ h => .inl h, fun j k hm => ?_, fun r t m H v' hg hl => ?_, fun j k hm R hR => ?_⟩
  · simp only [Array.size_append, List.size_toArray, Array.size_replicate, hlen, initSt]; omega
  · rw [hget]
    have hi : i < n := hi
    rw [if_pos hi]
    cases hs : (initSlots g.ps v)[i]? with
    | none => trivial
    | some s =>
      obtain ⟨y, q1, q2, _⟩ := g2 i s hs
      have hlt : i < g.ps.length := by rw [← hil]; exact (List.getElem?_eq_some_iff.1 hs).1
      rw [htmp i y q1]
      simp only [if_pos hlt]
      exact q2 _ _
  · have := hsum b k; have := h1 b k; show 0 + sumF n _ b k ≤ 1; omega
  · have hp : 1 ≤ 0 + sumF n (fun i => if i < g.ps.length then Fi i else fun _ _ => 0) b k := hp
    have := hsum b k
    exact h2 b k (by omega)
  · refine h3 b k (hp.imp (fun hp => ?_) id)
    have hp : 1 ≤ 0 + sumF n (fun i => if i < g.ps.length then Fi i else fun _ _ => 0) b k := hp
    have := hsum b k
    omega
  · have hp : 1 ≤ 0 + sumF n (fun i => if i < g.ps.length then Fi i else fun _ _ => 0) b k := hp
    have := hsum b k
    left; show 1 ≤ F0 b k; omega
  · obtain ⟨_, rfl, hj⟩ := lent_idx g.ps 0 j k false hm
    have hj : j < xs.length := by omega
    rw [htmp j xs[j] (List.getElem?_eq_getElem hj)]
    simp [hj]
  · exfalso
    rw [hget] at hg
    split at hg
    · cases hs : (initSlots g.ps v)[r]? with
      | none => rw [hs] at hg; cases hg
      | some s =>
        rw [hs] at hg
        obtain ⟨y, _, _, q3, _⟩ := g2 r s hs
        exact hl r (q3 t m H v' hg)
    · cases hg
  · obtain ⟨_, rfl, hj⟩ := lent_idx g.ps 0 j k true hm
    have hj' : j < (initSlots g.ps v).length := by omega
    have hs := List.getElem?_eq_getElem hj'
    obtain ⟨y, q1, q2, _, q4⟩ := g2 j _ hs
    obtain ⟨t, m, H, v', e⟩ := q4 hm
    have hjn : j < n := by omega
    rw [hget, if_pos hjn, hs] at hR
    simp only [e, rootPl, Option.some.injEq] at hR
    subst hR
    rw [htmp j y q1]
    have h2 := q2 (initSt g.ps v n) { tmps := #[], defers := [] }
    rw [e] at h2
    obtain ⟨cs, c1, c2⟩ := h2
    have := mkV_cells (Rep.length _ c2) (Rep.one _ c2)
    show mkV t y.cells.toList = _
    rw [c1, this, ← c1]
    have hjx := (List.getElem?_eq_some_iff.1 q1)
    obtain ⟨hjx, e2⟩ := hjx
    simp [hjx, e2]

/-- The checks on a function that the program's own tables answer. -/
noncomputable def funOk (P : Program) (E : Env) (fn : Func) (ps : List (PM × Ty)) (rs : List (Ty × Md)) (es : List Nat) : Bool :=
  codeOk P E (bodyOf fn) && rvOk E rs fn.results.toList && psOk ps && Nat.ble ps.length fn.ntmps && decide es.Nodup

theorem sound_of_body (hE : EnvOk P E) {f : FuncId} {fn : Func} (hf : P.funcs[f]? = some fn) (hb : fn.body.isSome = true) {g : Sig} {es fr : List Nat} (hok : funOk P E fn g.ps g.rs es = true) (hF : ∀ v out, g.F v = some out → ∃ k, bodyK E k fn g.ps g.rs es fr v = some out) : Sound P f g := by
  intro w A F0 v xs hargs h1 h2 h3 out hout
  obtain ⟨k, hk⟩ := hF v out hout
  simp only [funOk, Bool.and_eq_true, Nat.ble_eq, decide_eq_true_eq] at hok
  obtain ⟨⟨⟨⟨hcode, hrv⟩, hps⟩, hnt⟩, hnd⟩ := hok
  obtain ⟨c, hc⟩ := Option.isSome_iff_exists.1 hb
  have hbo : bodyOf fn = c := by simp [bodyOf, hc]
  rw [hbo] at hcode
  obtain ⟨F, hrel⟩ := begin_ok hargs hps hnt h1 h2 h3
  unfold bodyK at hk
  rw [hbo] at hk
  have hxl := args_len g.ps hargs
  -- the end
  have hend : ∀ (a' : Act) (w' : World) (σ' : St), outK g.ps g.rs es fn.results.toList (mvs fr) σ' = some out → RelE P { w0 := w, A0 := A, F0 := F0, args := xs.toArray } σ' a' w' →
      a'.defers = [] ∧ ∃ rv, (results fn a'.tmps).run P w' = .ok rv w' ∧ (∃ rv', Ending.returned rv = .returned rv' ∧ Ext w w' F0 ∧ ∃ (A' : Cells) (G GR GM : FP), (∀ b i, A b i → A' b i) ∧ (∀ b i, A' b i → A b i ∨ 1 ≤ F0 b i ∨ w.heap.size ≤ b) ∧
        (∀ b i, 1 ≤ G b i → 1 ≤ F0 b i ∨ w.heap.size ≤ b) ∧ (∀ b i, G b i ≤ 1) ∧ (∀ b i, 1 ≤ G b i → ¬ A' b i) ∧ (∀ b i, 1 ≤ G b i ∨ A' b i → b < w'.heap.size) ∧ (∀ b i, GR b i + GM b i ≤ G b i) ∧
        RetRel P w' A' (splitR g.rs out).1 rv' GR ∧ MutsRel P w' A' g.ps (splitR g.rs out).2 xs GM) := by
    intro a' w' σ' ho hr
    obtain ⟨A1, F1, hr⟩ := hr
    unfold outK at ho
    obtain ⟨A2, σ2, X2, F2, vals, L, Fi, pre, r1, r2, r3, r4, r5, r6, r7, r8, r9⟩ := res_ok hE g.rs fn.results.toList 0 hrv hr ho
    obtain ⟨vs, us, Gi, m1, m2, m3, m4, m5, m6⟩ := muts_ok r2 0 g.ps es hps hnd (by simp [hxl]) r3
    have hpre : pre vs = out := Option.some.inj m1
    have hsp : splitR g.rs out = (L, vs) := by rw [← hpre, r4]
    have hGR : ∀ b i, sumF L.length Fi b i ≤ X2 b i := fun b i => by have := r8 b i; omega
    have hGM0 : ∀ b i, sumL Gi us b i ≤ sumL F2 us b i := fun b i => by
      have : ∀ l : List Nat, (∀ j ∈ l, j ∈ us) → sumL Gi l b i ≤ sumL F2 l b i := by
        intro l
        induction l with
        | nil => intro _; exact Nat.le_refl _
        | cons j l ih =>
          intro hl
          have := m5 j b i (hl j List.mem_cons_self)
          have := ih fun j' hj' => hl j' (List.mem_cons_of_mem _ hj')
          simp only [sumL]; omega
      exact this us fun _ h => h
    have hGM : ∀ b i, sumL Gi us b i ≤ sumF σ2.n F2 b i := fun b i => Nat.le_trans (hGM0 b i) (sumL_le us F2 m3 m4 b i)
    refine ⟨r2.defers, _, results_run (by rw [r6]) r7, _, rfl, r2.ext, ?_⟩
    -- what is nobody's in the end
    obtain ⟨A3, hA3⟩ : ∃ A3 : Cells, ∀ b i, A3 b i ↔ (A2 b i ∨ (1 ≤ X2 b i + sumF σ2.n F2 b i ∧ sumF L.length Fi b i + sumL Gi us b i = 0)) := ⟨fun b i => A2 b i ∨ (1 ≤ X2 b i + sumF σ2.n F2 b i ∧ sumF L.length Fi b i + sumL Gi us b i = 0), fun _ _ => Iff.rfl⟩
    have hA23 : ∀ b i, A2 b i → A3 b i := fun b i h => (hA3 b i).2 (.inl h)
    have htot : ∀ b i, X2 b i + sumF σ2.n F2 b i ≤ 1 := fun b i => r2.tot b i
    refine ⟨A3, fun b i => sumF L.length Fi b i + sumL Gi us b i, sumF L.length Fi, sumL Gi us, fun b i ha => hA23 b i (r2.a0 b i ha), fun b i ha => ?_, fun b i hp => ?_, fun b i => ?_, fun b i hp ha => ?_, fun b i hp => ?_, fun _ _ => Nat.le_refl _, ?_, ?_⟩
    · rcases (hA3 b i).1 ha with ha | ⟨hp, _⟩
      · exact r2.a1 b i ha
      · exact .inr (r2.own b i hp)
    · have hp : 1 ≤ sumF L.length Fi b i + sumL Gi us b i := hp
      exact r2.own b i (by have := hGR b i; have := hGM b i; omega)
    · show sumF L.length Fi b i + sumL Gi us b i ≤ 1
      have := hGR b i; have := hGM b i; have := htot b i; omega
    · have hp : 1 ≤ sumF L.length Fi b i + sumL Gi us b i := hp
      rcases (hA3 b i).1 ha with ha | ⟨_, hz⟩
      · exact r2.dis b i (by have := hGR b i; have := hGM b i; omega) ha
      · omega
    · rcases hp with hp | ha
      · have hp : 1 ≤ sumF L.length Fi b i + sumL Gi us b i := hp
        exact r2.bnd b i (.inl (by have := hGR b i; have := hGM b i; omega))
      · rcases (hA3 b i).1 ha with ha | ⟨hp, _⟩
        · exact r2.bnd b i (.inr ha)
        · exact r2.bnd b i (.inl hp)
    · rw [hsp]
      have hres := r9 A3 hA23 (fun b i hx _ hz => (hA3 b i).2 (.inr ⟨by omega, by
        have := hGM b i; have := htot b i; omega⟩))
      show RetRel P w' A3 L _ _
      match L, r5, hres with
      | [], _, _ => trivial
      | [y], hl, hres =>
        match vals, hl with
        | [u], _ =>
          obtain ⟨u', cs, e1, e2, e3⟩ := hres 0 y rfl
          injection e1 with e1
          subst e1
          refine ⟨cs, by simpa using e2, e3.le fun b i => by simp [sumF]⟩
      | y :: z :: L, hl, hres =>
        refine ⟨vals.toArray, Fi, ?_, fun _ _ => Nat.le_refl _, fun j q hq => ?_⟩
        · rw [dif_neg]
          simp only [List.size_toArray, hl, List.length_cons]; omega
        · obtain ⟨u, cs, e1, e2, e3⟩ := hres j q hq
          exact ⟨u, cs, by simpa using e1, e2, e3⟩
    · rw [hsp]
      refine m6 A3 hA23 fun i b k' hi hp hz => (hA3 b k').2 (.inr ⟨by have := le_sumF F2 (m4 i hi) b k'; omega, ?_⟩)
      have h4 := le_sumF F2 (m4 i hi) b k'
      have h5 := htot b k'
      have h6 := hGR b k'
      have h7 : sumL Gi us b k' = 0 := by
        rcases Nat.eq_zero_or_pos (sumL Gi us b k') with h0 | h0
        · exact h0
        · obtain ⟨j, hj, hpj⟩ := sumL_pos h0
          by_cases hij : j = i
          · subst hij; omega
          · have := m5 j b k' hj
            have := le_sumF2 F2 (m4 j hj) (m4 i hi) hij b k'
            omega
      omega
  refine calls_of_wp hf hc (wp_mono (code_ok hE c hcode hrel hk) fun e a' w' hq => ?_)
  cases e with
  | normal => obtain ⟨σ', h4, h5⟩ := hq; exact hend a' w' σ' h4 h5
  | ret => obtain ⟨σ', h4, h5⟩ := hq; exact hend a' w' σ' h4 h5
  | exit j => obtain ⟨σ', h4, h5⟩ := hq; cases h4
  | _ => exact hq.elim
end
end OT
