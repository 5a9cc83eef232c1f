/- Functions: results. -/
import Derived.Test.YtkimdiobckckiaaOUg
set_option linter.unusedVariables false
set_option linter.unusedSimpArgs false
namespace OT
open Go

section
variable {P : Program} {C : Ctx} {A : Cells} {X : FP} {σ : St} {a : Act} {w : World} {F : Nat → FP} {R : Type} {x : R} {E : Env}

/-- One result in the machine. -/
def rvRun (tmps : Array Value) : ResultVar → Sem Value
  | .tmp t => pure (tmps.getD t undef)
  | .cell a t => do loadVar t (← asAddr (tmps.getD a undef))

theorem mapM_run {α : Type} (f : α → Sem Value) : ∀ (l : List α) (vs : List Value), l.length = vs.length → (∀ (j : Nat) (y : α) (v : Value), l[j]? = some y → vs[j]? = some v → (f y).run P w = .ok v w) → (l.mapM f).run P w = .ok vs w
  | [], [], _, _ => rfl
  | y :: l, v :: vs, hl, h => by
    have h0 := h 0 y v rfl rfl
    have ih := mapM_run f l vs (by simpa using hl) (fun j y v hy hv => h (j + 1) y v hy hv)
    simp only [List.mapM_cons, Sem.run_bind, h0, Result.andThen_ok, ih, Sem.run_pure]
  | [], _ :: _, h, _ => by simp at h
  | _ :: _, [], h, _ => by simp at h

theorem results_run {fn : Func} {tmps : Array Value} {vs : List Value} (hl : fn.results.toList.length = vs.length) (h : ∀ (j : Nat) (y : ResultVar) (v : Value), fn.results.toList[j]? = some y → vs[j]? = some v → (rvRun tmps y).run P w = .ok v w) :
    (results fn tmps).run P w = .ok (if h : vs.toArray.size = 1 then vs.toArray[0] else .tuple vs.toArray) w := by
  have h1 := mapM_run (P := P) (w := w) (rvRun tmps) fn.results.toList vs hl h
  have h2 : (fn.results.mapM (rvRun tmps)).run P w = .ok vs.toArray w := by
    have e : fn.results = fn.results.toList.toArray := by simp
    rw [e, List.mapM_toArray, map_eq_pure_bind, Sem.run_bind, h1, Result.andThen_ok, Sem.run_pure]
  have e : results fn tmps = (do
    let vs ← fn.results.mapM (rvRun tmps)
    pure (if h : vs.size = 1 then vs[0] else .tuple vs)) := by
    unfold results
    congr 1
  rw [e, Sem.run_bind, h2, Result.andThen_ok, Sem.run_pure]

/-- The types of the cells that results are read from. -/
def rvOk (E : Env) : List (Ty × Md) → List ResultVar → Bool
  | [], [] => true
  | _ :: rs, .tmp _ :: xs => rvOk E rs xs
  | (t, _) :: rs, .cell _ ty :: xs => (match E.TI ty with
    | some T => decide (T = t)
    | none => false) && rvOk E rs xs
  | _, _ => false

/-- What a result holds. -/
theorem rv_ok (hE : EnvOk P E) (h : Rel P C A X σ a w F) {rv : ResultVar} {t : Ty} (hty : ∀ b ty, rv = .cell b ty → E.TI ty = some t) {mv : Bool} {K : Md → t.den → St → Option R} (hk : useK σ (rvSlot σ rv) mv t K = some x) :
    ∃ (tv : Value), (rvRun a.tmps rv).run P w = .ok tv w ∧ ∃ (A' : Cells) (σ' : St) (F' : Nat → FP) (m : Md) (v : t.den) (cs : List Value) (Fv : FP), K m v σ' = some x ∧ (∀ b i, A b i → A' b i) ∧ Rel P C A' (fun b i => X b i + Fv b i) σ' a w F' ∧ tv = mkV t cs ∧ Rep P w A' t m [] v cs Fv := by
  cases rv with
  | tmp i =>
    rcases opd_ok h (o := .tmp i) rfl with hs | ⟨xs, e⟩
    rotate_left
    · simp only [rvSlot] at hk; rw [e] at hk; simp [useK] at hk
    obtain ⟨A', σ', F', m, v, cs, Fv, k1, k2, k3, k4, kr, k5, k6⟩ := use_ok h hs hk
    exact ⟨_, rfl, A', σ', F', m, v, cs, Fv, k1, k2, k3, k5, k6⟩
  | cell i ty =>
    have hT := hty i ty rfl
    have hlay := hE.ti _ _ hT
    simp only [rvSlot] at hk
    split at hk
    · rename_i t0 m0 H0 v0 hg
      have hi : i < σ.n := by
        rcases Nat.lt_or_ge i σ.n with hi | hi
        · exact hi
        · rw [get_out (Nat.not_lt.2 hi)] at hg; cases hg
      have hs := h.slots i hi
      rw [hg] at hs
      obtain ⟨b, o, L, F1, s1, s2, s3, s4, s5, s6⟩ := hs
      have hpl : place σ a w i [] = some ⟨t0, H0, L, some (b, o)⟩ := by
        unfold place; rw [hg, s1]; simp only [rootPl, rd_of_has s3 s2, Option.bind_some, plc]
      have hslot : SlotRel P A σ a w (mkV t0 L) (.ref i [] (σ.ver i)) (fun _ _ => 0) := ⟨Below.refl _, fun _ => ⟨_, hpl, rfl, .inr (h.vlen i)⟩⟩
      have ht : t0 = t := by
        have hk' := hk
        simp only [useK] at hk'
        split at hk'
        · obtain ⟨_, t', m', H', v', cs', ad', F', h1, h2, h3, _⟩ := at_ok h hk'
          rw [hpl] at h3
          injection h3 with h3
          injection h3 with e1
          subst e1
          split at h1
          · exact (castK_some h1).1
          · cases h1
        · cases hk'
      subst ht
      obtain ⟨A', σ', F', m, v, cs, Fv, k1, k2, k3, k4, kr, k5, k6⟩ := use_ok h hslot hk
      refine ⟨mkV t0 L, ?_, A', σ', F', m, v, cs, Fv, k1, k2, k3, k5, k6⟩
      have e : a.tmps.getD i undef = .pointer (some ⟨b, o, none⟩) := s1
      have hrun := run_loadVar (P := P) hlay s3 s2 (Rep.one _ s6)
      simp only [rvRun, Sem.run_bind, e]
      show (Sem.run P (asAddr (.pointer (some ⟨b, o, none⟩))) w).andThen _ = _
      rw [show Sem.run P (asAddr (.pointer (some ⟨b, o, none⟩))) w = .ok ⟨b, o, none⟩ w from rfl, Result.andThen_ok, hrun]
    · simp [useK] at hk

/-- The results, one by one. -/
theorem res_ok (hE : EnvOk P E) {ts : List Ty} {mv : Nat → Bool} {fin : St → ((tupT ts).den → Option R) → Option R} : ∀ (rs : List (Ty × Md)) (rvs : List ResultVar) (j : Nat) {σ : St} {A : Cells} {X : FP} {F : Nat → FP} {K : (tupT (rs.map (·.1) ++ ts)).den → Option R},
    rvOk E rs rvs = true → Rel P C A X σ a w F → resK σ ts mv fin rs rvs j K = some x →
    ∃ (A' : Cells) (σ' : St) (X' : FP) (F' : Nat → FP) (vals : List Value) (L : List Res) (Fi : Nat → FP) (pre : (tupT ts).den → (tupT (rs.map (·.1) ++ ts)).den), (∀ b i, A b i → A' b i) ∧ Rel P C A' X' σ' a w F' ∧ fin σ' (fun y => K (pre y)) = some x ∧ (∀ y, splitR rs (pre y) = (L, y)) ∧
      vals.length = L.length ∧ vals.length = rvs.length ∧ (∀ (k : Nat) (y : ResultVar) (v : Value), rvs[k]? = some y → vals[k]? = some v → (rvRun a.tmps y).run P w = .ok v w) ∧ (∀ b i, X b i + sumF L.length Fi b i ≤ X' b i) ∧
      ∀ A2 : Cells, (∀ b i, A' b i → A2 b i) → (∀ b i, 1 ≤ X' b i → X b i = 0 → sumF L.length Fi b i = 0 → A2 b i) → ∀ k y, L[k]? = some y → ∃ v cs, vals[k]? = some v ∧ v = mkV y.t cs ∧ Rep P w A2 y.t y.m [] y.v cs (Fi k) := by
  intro rs
  induction rs with
  | nil =>
    intro rvs j σ A X F K hrv h hk
    cases rvs with
    | nil => exact ⟨A, σ, X, F, [], [], fun _ _ _ => 0, id, fun _ _ h => h, h, hk, fun y => rfl, rfl, rfl, (fun k y v hy => by cases hy), (fun b i => by simp [sumF]), fun A2 _ _ k y hy => by cases hy⟩
    | cons _ _ => cases hrv
  | cons p rs ih =>
    intro rvs j σ A X F K hrv h hk
    obtain ⟨t, m⟩ := p
    cases rvs with
    | nil => cases hk
    | cons rv rvs =>
      simp only [resK] at hk
      have hty : ∀ b ty, rv = .cell b ty → E.TI ty = some t := fun b ty e => by
        subst e
        simp only [rvOk, Bool.and_eq_true] at hrv
        have h1 := hrv.1
        split at h1
        · rename_i T hT; rw [hT]; simpa using h1
        · cases h1
      have hrv' : rvOk E rs rvs = true := by
        cases rv with
        | tmp i => exact hrv
        | cell b ty => simp only [rvOk, Bool.and_eq_true] at hrv; exact hrv.2
      obtain ⟨tv, hrun, A1, σ1, F1, m1, v1, cs, Fv, k1, k2, k3, k4, k5⟩ := rv_ok hE h hty hk
      split at k1
      · rename_i hm
        obtain ⟨A', σ', X', F', vals, L, Fi, pre, g1, g2, g3, g4, g5, g6, g7, g8, g9⟩ := ih rvs (j + 1) hrv' k3 k1
        have htot : ∀ b i, X' b i ≤ 1 := fun b i => by have := g2.tot b i; omega
        -- of the first one no more is owned than is asked
        have hfit : ∃ G : FP, (∀ b i, G b i ≤ Fv b i) ∧ ∀ A2 : Cells, (∀ b i, A1 b i → A2 b i) → (∀ b i, 1 ≤ Fv b i → G b i = 0 → A2 b i) → Rep P w A2 t m [] v1 cs G := by
          by_cases hmm : m1 = m
          · subst hmm
            exact ⟨Fv, fun _ _ => Nat.le_refl _, fun A2 hA _ => Rep.mono hA (fun _ _ _ _ h => h) (fun _ _ h => h) t k5 (fun _ _ => Nat.le_refl _) (fun _ _ _ _ h => h)⟩
          · rcases hm with hm | hm
            · exact absurd hm hmm
            · exact Rep.fits t hm k5 (fun b i => by have := g8 b i; have := htot b i; omega)
        obtain ⟨G, G1, G2⟩ := hfit
        have hsum : ∀ b i, sumF (L.length + 1) (fun k => match k with | 0 => G | k + 1 => Fi k) b i = G b i + sumF L.length Fi b i := fun b i => by
          rw [Nat.add_comm, sumF_add]
          congr 1
          · simp [sumF]
          · refine congrFun (congrFun (sumF_congr fun j hj => ?_) b) i
            rw [Nat.add_comm]
        refine ⟨A', σ', X', F', tv :: vals, ⟨t, m, v1⟩ :: L, fun k => match k with | 0 => G | k + 1 => Fi k, fun y => (v1, pre y), fun b i ha => g1 b i (k2 b i ha), g2, g3, fun y => by simp only [splitR, g4], by simp [g5], by simp [g6], fun k y v hy hv => ?_, fun b i => ?_, fun A2 hA hgv k y hy => ?_⟩
        · cases k with
          | zero => injection hy with hy; injection hv with hv; subst hy; subst hv; exact hrun
          | succ k => exact g7 k y v hy hv
        · show X b i + sumF (L.length + 1) _ b i ≤ X' b i
          rw [hsum]
          have := g8 b i; have := G1 b i; omega
        · have hgv' : ∀ b i, 1 ≤ X' b i → X b i = 0 → G b i + sumF L.length Fi b i = 0 → A2 b i := fun b i h1 h2 h3 => hgv b i h1 h2 (by show sumF (L.length + 1) _ b i = 0; rw [hsum]; exact h3)
          cases k with
          | zero =>
            injection hy with hy
            subst hy
            refine ⟨tv, cs, rfl, k4, G2 A2 (fun b i ha => hA b i (g1 b i ha)) fun b i hp hz => ?_⟩
            have h8 := g8 b i; have h9 := htot b i
            exact hgv' b i (by omega) (by omega) (by omega)
          | succ k =>
            refine g9 A2 hA (fun b i h1 h2 h3 => hgv' b i h1 (by omega) (by have := G1 b i; omega)) k y hy
      · cases k1

/-- The turned arguments in the end. -/
theorem lent_mem {l : List (Nat × Nat × Bool)} {i j : Nat} {c : Bool} (h : isLent l i j c = true) : (i, j, c) ∈ l := by
  induction l with
  | nil => cases h
  | cons y l ih =>
    obtain ⟨k, n, b⟩ := y
    simp only [isLent, Bool.or_eq_true, Bool.and_eq_true, Nat.beq_eq, beq_iff_eq] at h
    rcases h with ⟨⟨h1, h2⟩, h3⟩ | h
    · rw [h1, h2, h3]; exact List.mem_cons_self
    · exact List.mem_cons_of_mem _ (ih h)

def sumL (F : Nat → FP) : List Nat → FP
  | [] => fun _ _ => 0
  | i :: l => fun b k => F i b k + sumL F l b k

theorem sumL_upd (F : Nat → FP) (i : Nat) (G : FP) (b k : Nat) : ∀ (l : List Nat), i ∉ l → sumL (updF F i G) l b k = sumL F l b k
  | [], _ => rfl
  | j :: l, hj => by
    simp only [List.mem_cons, not_or] at hj
    simp only [sumL, sumL_upd F i G b k l hj.2]
    rw [show updF F i G j = F j by simp only [updF]; rw [if_neg (fun e => hj.1 e.symm)]]
theorem sumL_le : ∀ (l : List Nat) {n : Nat} (F : Nat → FP), l.Nodup → (∀ i ∈ l, i < n) → ∀ b k, sumL F l b k ≤ sumF n F b k
  | [], n, F, _, _, b, k => Nat.zero_le _
  | i :: l, n, F, hn, hl, b, k => by
    have hn' := List.nodup_cons.1 hn
    have h1 := sumL_le l (updF F i fun _ _ => 0) hn'.2 (fun j hj => hl j (List.mem_cons_of_mem _ hj)) b k
    have h2 := sumL_upd F i (fun _ _ => 0) b k l hn'.1
    have h3 := sumF_upd F (hl i List.mem_cons_self) (fun _ _ => 0) b k
    rw [h2] at h1
    simp only [sumL]
    omega
theorem sumL_pos {F : Nat → FP} {b k : Nat} : ∀ {l : List Nat}, 1 ≤ sumL F l b k → ∃ i ∈ l, 1 ≤ F i b k
  | [], h => by simp [sumL] at h
  | i :: l, h => by
    simp only [sumL] at h
    rcases Nat.eq_zero_or_pos (F i b k) with h0 | h0
    · obtain ⟨j, hj, hp⟩ := sumL_pos (F := F) (b := b) (k := k) (l := l) (by omega)
      exact ⟨j, List.mem_cons_of_mem _ hj, hp⟩
    · exact ⟨i, List.mem_cons_self, h0⟩

def psOk : List (PM × Ty) → Bool
  | [] => true
  | _ :: ps => psOk ps

theorem muts_ok (h : Rel P C A X σ a w F) : ∀ (j : Nat) (ps : List (PM × Ty)) (es : List Nat) {K : (tupT (mutTys ps)).den → Option R}, psOk ps = true → es.Nodup → j + ps.length ≤ C.args.size → mutsK σ j ps es K = some x →
    ∃ (vs : (tupT (mutTys ps)).den) (us : List Nat) (Gi : Nat → FP), K vs = some x ∧ (∀ i ∈ us, i ∈ es) ∧ us.Nodup ∧ (∀ i ∈ us, i < σ.n) ∧ (∀ i b k, i ∈ us → Gi i b k ≤ F i b k) ∧
      ∀ A2 : Cells, (∀ b k, A b k → A2 b k) → (∀ i b k, i ∈ us → 1 ≤ F i b k → Gi i b k = 0 → A2 b k) → MutsRel P w A2 ps vs (C.args.toList.drop j) (sumL Gi us) := by
  intro j ps
  induction ps generalizing j with
  | nil => intro es K _ _ _ hk; exact ⟨(), [], fun _ _ _ => 0, by cases es <;> exact hk, (fun i hi => by cases hi), List.nodup_nil, (fun i hi => by cases hi), (fun i b k hi => by cases hi), fun _ _ _ => trivial⟩
  | cons p ps ih =>
    intro es K hp hnd hj hk
    obtain ⟨pm, t⟩ := p
    have hj' : j + 1 + ps.length ≤ C.args.size := by simp only [List.length_cons] at hj; omega
    have htail : (C.args.toList.drop j).tail = C.args.toList.drop (j + 1) := by rw [List.tail_drop]
    have hhead : (C.args.toList.drop j).head? = some (C.args.getD j undef) := by
      simp only [List.length_cons] at hj
      rw [List.head?_drop, Array.getElem?_toList, Array.getElem?_eq_getElem (by omega)]
      simp [show j < C.args.size by omega]
    have hF1 : ∀ i, i < σ.n → ∀ b k, F i b k ≤ 1 := fun i hi b k => by have := h.tot b k; have := le_sumF F hi b k; omega
    cases pm with
    | ro =>
      obtain ⟨vs, us, Gi, g1, g2, g3, g4, g5, g6⟩ := ih (j + 1) es hp hnd hj' hk
      exact ⟨vs, us, Gi, g1, g2, g3, g4, g5, fun A2 hA hgv => by simp only [MutsRel, htail]; exact g6 A2 hA hgv⟩
    | fix f =>
      obtain ⟨vs, us, Gi, g1, g2, g3, g4, g5, g6⟩ := ih (j + 1) es hp hnd hj' hk
      exact ⟨vs, us, Gi, g1, g2, g3, g4, g5, fun A2 hA hgv => by simp only [MutsRel, htail]; exact g6 A2 hA hgv⟩
    | mutp m =>
      cases es with
      | nil => cases hk
      | cons i es =>
        have hnd' := List.nodup_cons.1 hnd
        simp only [mutsK] at hk
        split at hk
        · rename_i t' m' H v hg
          split at hk
          · rename_i hc
            simp only [Bool.and_eq_true, List.isEmpty_iff, Bool.or_eq_true, decide_eq_true_eq] at hc
            obtain ⟨⟨hH, hm⟩, hlent⟩ := hc
            subst hH
            obtain ⟨e, hk⟩ := castK_some hk
            subst e
            obtain ⟨vs, us, Gi, g1, g2, g3, g4, g5, g6⟩ := ih (j + 1) es hp hnd'.2 hj' hk
            have hi : i < σ.n := by
              rcases Nat.lt_or_ge i σ.n with hi | hi
              · exact hi
              · rw [get_out (Nat.not_lt.2 hi)] at hg; cases hg
            have hs := h.slots i hi
            rw [hg] at hs
            obtain ⟨b, o, L, F1, s1, s2, s3, s4, s5, s6⟩ := hs
            have hptr := h.lentP i j (lent_mem hlent)
            have hiu : i ∉ us := fun hu => hnd'.1 (g2 i hu)
            have hfit : ∃ G : FP, (∀ b k, G b k ≤ F1 b k) ∧ ∀ A2 : Cells, (∀ b i, A b i → A2 b i) → (∀ b i, 1 ≤ F1 b i → G b i = 0 → A2 b i) → Rep P w A2 t' m [] v L G := by
              rcases hm with hm | hm
              · subst hm
                exact ⟨F1, fun _ _ => Nat.le_refl _, fun A2 hA _ => Rep.mono hA (fun _ _ _ _ h => h) (fun _ _ h => h) t' s6 (fun _ _ => Nat.le_refl _) (fun _ _ _ _ h => h)⟩
              · exact Rep.fits t' hm s6 (fun b' k => by have := s5 b' k; have := hF1 i hi b' k; omega)
            obtain ⟨G, G1, G2⟩ := hfit
            refine ⟨(v, vs), i :: us, updF Gi i fun b' k => rng b o t'.sz b' k + G b' k, g1, fun i' hi' => ?_, List.nodup_cons.2 ⟨hiu, g3⟩, fun i' hi' => ?_, fun i' b' k hi' => ?_, fun A2 hA hgv => ?_⟩
            · rcases List.mem_cons.1 hi' with rfl | hi'
              · exact List.mem_cons_self
              · exact List.mem_cons_of_mem _ (g2 i' hi')
            · rcases List.mem_cons.1 hi' with rfl | hi'
              · exact hi
              · exact g4 i' hi'
            · by_cases hii : i' = i
              · subst hii
                simp only [updF, if_true]
                have := s5 b' k; have := G1 b' k; omega
              · simp only [updF, if_neg hii]
                exact g5 i' b' k ((List.mem_cons.1 hi').resolve_left hii)
            · refine ⟨fun b' k => rng b o t'.sz b' k + G b' k, sumL Gi us, fun b' k => ?_, ⟨b, o, L, G, by rw [hhead, ← hptr, s1], s2, s3, fun _ _ => Nat.le_refl _, G2 A2 hA fun b' k hp hz => ?_⟩, ?_⟩
              · simp only [sumL, sumL_upd Gi i _ b' k us hiu]
                simp only [updF, if_true]; exact Nat.le_refl _
              · refine hgv i b' k List.mem_cons_self (by have := s5 b' k; omega) ?_
                simp only [updF, if_true]
                have := s5 b' k; have := hF1 i hi b' k; omega
              · rw [htail]
                refine g6 A2 hA fun i' b' k hi' hp hz => hgv i' b' k (List.mem_cons_of_mem _ hi') hp ?_
                have hne : i' ≠ i := fun e => by subst e; exact hiu hi'
                simp only [updF, if_neg hne]; exact hz
          · cases hk
        · cases hk
    | muts m =>
      cases es with
      | nil => cases hk
      | cons i es =>
        have hnd' := List.nodup_cons.1 hnd
        simp only [mutsK] at hk
        -- what the slot leads to
        have main : ∀ (t' : Ty) (m' : Md) (H : List Path) (v : t'.den), (σ.get i = .own t' m' H v ∨ σ.get i = .box t' m' H v) → (if H.isEmpty && (decide (m' = m) || fits m' m) && isLent σ.lent i j true then castK t' t v fun v => mutsK σ (j + 1) ps es fun vs => K (v, vs) else none) = some x →
            ∃ (vs : (tupT (mutTys ((PM.muts m, t) :: ps))).den) (us : List Nat) (Gi : Nat → FP), K vs = some x ∧ (∀ i' ∈ us, i' ∈ i :: es) ∧ us.Nodup ∧ (∀ i ∈ us, i < σ.n) ∧ (∀ i b k, i ∈ us → Gi i b k ≤ F i b k) ∧
              ∀ A2 : Cells, (∀ b k, A b k → A2 b k) → (∀ i b k, i ∈ us → 1 ≤ F i b k → Gi i b k = 0 → A2 b k) → MutsRel P w A2 ((PM.muts m, t) :: ps) vs (C.args.toList.drop j) (sumL Gi us) := by
          intro t' m' H v hg hk
          split at hk
          · rename_i hc
            simp only [Bool.and_eq_true, List.isEmpty_iff, Bool.or_eq_true, decide_eq_true_eq] at hc
            obtain ⟨⟨hH, hm⟩, hlent⟩ := hc
            subst hH
            obtain ⟨e, hk⟩ := castK_some hk
            subst e
            obtain ⟨vs, us, Gi, g1, g2, g3, g4, g5, g6⟩ := ih (j + 1) es hp hnd'.2 hj' hk
            have hi : i < σ.n := by
              rcases Nat.lt_or_ge i σ.n with hi | hi
              · exact hi
              · rw [get_out (Nat.not_lt.2 hi)] at hg; rcases hg with hg | hg <;> cases hg
            have hs := h.slots i hi
            have hrep : ∃ (cs : List Value) (F1 : FP), mkV t' cs = C.args.getD j undef ∧ (∀ b k, F1 b k ≤ F i b k) ∧ Rep P w A t' m' [] v cs F1 := by
              have hl := h.lentS i j (lent_mem hlent)
              rcases hg with hg | hg
              · rw [hg] at hs hl
                obtain ⟨cs, h1, h2⟩ := hs
                have := hl _ rfl
                simp only [h1, mkV_cells (Rep.length _ h2) (Rep.one _ h2)] at this
                exact ⟨cs, F i, this, fun _ _ => Nat.le_refl _, h2⟩
              · rw [hg] at hs hl
                obtain ⟨b, o, L, F1, s1, s2, s3, s4, s5, s6⟩ := hs
                rw [s1] at hl
                have := hl _ rfl
                simp only [rd_of_has s3 s2] at this
                exact ⟨L, F1, this, fun b k => by have := s5 b k; omega, s6⟩
            obtain ⟨cs1, F1, hcs1, hF, s6⟩ := hrep
            have hiu : i ∉ us := fun hu => hnd'.1 (g2 i hu)
            have hfit : ∃ G : FP, (∀ b k, G b k ≤ F1 b k) ∧ ∀ A2 : Cells, (∀ b i, A b i → A2 b i) → (∀ b i, 1 ≤ F1 b i → G b i = 0 → A2 b i) → Rep P w A2 t' m [] v cs1 G := by
              rcases hm with hm | hm
              · subst hm
                exact ⟨F1, fun _ _ => Nat.le_refl _, fun A2 hA _ => Rep.mono hA (fun _ _ _ _ h => h) (fun _ _ h => h) t' s6 (fun _ _ => Nat.le_refl _) (fun _ _ _ _ h => h)⟩
              · exact Rep.fits t' hm s6 (fun b' k => by have := hF b' k; have := hF1 i hi b' k; omega)
            obtain ⟨G, G1, G2⟩ := hfit
            refine ⟨(v, vs), i :: us, updF Gi i G, g1, fun i' hi' => ?_, List.nodup_cons.2 ⟨hiu, g3⟩, fun i' hi' => ?_, fun i' b' k hi' => ?_, fun A2 hA hgv => ?_⟩
            · rcases List.mem_cons.1 hi' with rfl | hi'
              · exact List.mem_cons_self
              · exact List.mem_cons_of_mem _ (g2 i' hi')
            · rcases List.mem_cons.1 hi' with rfl | hi'
              · exact hi
              · exact g4 i' hi'
            · by_cases hii : i' = i
              · subst hii
                simp only [updF, if_true]
                have := hF b' k; have := G1 b' k; omega
              · simp only [updF, if_neg hii]
                exact g5 i' b' k ((List.mem_cons.1 hi').resolve_left hii)
            · refine ⟨G, sumL Gi us, fun b' k => ?_, ⟨cs1, by rw [hhead, hcs1], G2 A2 hA fun b' k hp hz => ?_⟩, ?_⟩
              · simp only [sumL, sumL_upd Gi i _ b' k us hiu]
                simp only [updF, if_true]; exact Nat.le_refl _
              · refine hgv i b' k List.mem_cons_self (by have := hF b' k; omega) ?_
                simp only [updF, if_true]; exact hz
              · rw [htail]
                refine g6 A2 hA fun i' b' k hi' hp hz => hgv i' b' k (List.mem_cons_of_mem _ hi') hp ?_
                have hne : i' ≠ i := fun e => by subst e; exact hiu hi'
                simp only [updF, if_neg hne]; exact hz
          · cases hk
        split at hk
        · rename_i t' m' H v hg; exact main t' m' H v (.inl hg) hk
        · rename_i t' m' H v hg; exact main t' m' H v (.inr hg) hk
        · cases hk
end
end OT
