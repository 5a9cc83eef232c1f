/- The pure interpreter of the model's code over owned trees: whole functions. Definitions alone, nothing is claimed here. -/
import Derived.Test.YtkimdiobckckiaaOTb
namespace OT
open Go
noncomputable section

def initSlots : (ps : List (PM × Ty)) → (tupT (ps.map (·.2))).den → List Slot
  | [], _ => []
  | (.ro, .ptr e) :: ps, v => .cp e v.1 :: initSlots ps v.2
  | (.fix f, .fn) :: ps, v => .val .fn (f, v.1.2) :: initSlots ps v.2
  | (.fix _, _) :: ps, v => .dead :: initSlots ps v.2
  | (.ro, t) :: ps, v => .val t v.1 :: initSlots ps v.2
  | (.mutp m, t) :: ps, v => .box t m [] v.1 :: initSlots ps v.2
  | (.muts m, t) :: ps, v => .own t m [] v.1 :: initSlots ps v.2

/-- The slots of the parameters. -/
def numbered : Nat → List Slot → List (Nat × Slot)
  | _, [] => []
  | i, s :: ss => (i, s) :: numbered (i + 1) ss
def lentOf : Nat → List (PM × Ty) → List (Nat × Nat × Bool)
  | _, [] => []
  | i, (.mutp _, _) :: ps => (i, i, false) :: lentOf (i + 1) ps
  | i, (.muts _, _) :: ps => (i, i, true) :: lentOf (i + 1) ps
  | i, _ :: ps => lentOf (i + 1) ps
def initSt (ps : List (PM × Ty)) (v : (tupT (ps.map (·.2))).den) (n : Nat) : St := { n := n, sl := numbered 0 (initSlots ps v), vr := [], lent := lentOf 0 ps }

section
variable {R : Type}

/-- What the turned arguments hold in the end. 'es': in which slots. -/
def mutsK (σ : St) : Nat → (ps : List (PM × Ty)) → List Nat → ((tupT (mutTys ps)).den → Option R) → Option R
  | _, [], _, K => K ()
  | j, (.ro, _) :: ps, es, K => mutsK σ (j + 1) ps es K
  | j, (.fix _, _) :: ps, es, K => mutsK σ (j + 1) ps es K
  | j, (.mutp m, t) :: ps, i :: es, K => match σ.get i with
    | .box t' m' H v => if H.isEmpty && (decide (m' = m) || fits m' m) && isLent σ.lent i j false then castK t' t v fun v => mutsK σ (j + 1) ps es fun vs => K (v, vs) else none
    | _ => none
  | j, (.muts m, t) :: ps, i :: es, K => match σ.get i with
    | .own t' m' H v | .box t' m' H v => if H.isEmpty && (decide (m' = m) || fits m' m) && isLent σ.lent i j true then castK t' t v fun v => mutsK σ (j + 1) ps es fun vs => K (v, vs) else none
    | _ => none
  | _, _, _, _ => none

def rvSlot (σ : St) : ResultVar → Slot
  | .tmp i => opd σ (.tmp i)
  | .cell a _ => match σ.get a with
    | .box _ _ _ _ => .ref a [] (σ.ver a)
    | _ => .dead

def resK (σ : St) (ts : List Ty) (mv : Nat → Bool) (fin : St → ((tupT ts).den → Option R) → Option R) :
    (rs : List (Ty × Md)) → List ResultVar → Nat → ((tupT (rs.map (·.1) ++ ts)).den → Option R) → Option R
  | [], [], _, K => fin σ K
  | (t, m) :: rs, x :: xs, j, K => useK σ (rvSlot σ x) (mv j) t fun m' v σ' =>
    if m' = m ∨ fits m' m = true then resK σ' ts mv fin rs xs (j + 1) fun vs => K (v, vs) else none
  | _, _, _, _ => none

end

def outK (ps : List (PM × Ty)) (rs : List (Ty × Md)) (es : List Nat) (rvs : List ResultVar) (mv : Nat → Bool) (σ : St) : Option (tupT (rs.map (·.1) ++ mutTys ps)).den :=
  resK σ (mutTys ps) mv (fun σ K => mutsK σ 0 ps es K) rs rvs 0 some

/-- Which results are moved: all but the listed ones, which are frozen. -/
def mvs (fr : List Nat) (j : Nat) : Bool := !(fr.any (Nat.beq j))

def endK {R : Type} (fin : St → Option R) : Ex → St → Option R
  | .normal, σ => fin σ
  | .exit _, _ => none

def bodyOf (fn : Func) : Code := match fn.body with
  | some c => c
  | none => .refuse ""

/-- A function's body run on data. 'fr': the results that are frozen, not moved. -/
def bodyK (E : Env) (k : Nat) (fn : Func) (ps : List (PM × Ty)) (rs : List (Ty × Md)) (es fr : List Nat) (v : (tupT (ps.map (·.2))).den) : Option (tupT (rs.map (·.1) ++ mutTys ps)).den :=
  codeK E k (outK ps rs es fn.results.toList (mvs fr)) (bodyOf fn) (initSt ps v fn.ntmps) (endK (outK ps rs es fn.results.toList (mvs fr)))

/-- What a function gives in the end, with ever more rounds. -/
def lift {R : Type} (f : Nat → Option R) : Option R := open Classical in if h : ∃ out, ∃ k, ∀ k', k ≤ k' → f k' = some out then some h.choose else none
theorem lift_eq {R : Type} {f : Nat → Option R} {out : R} {k : Nat} (h : ∀ k', k ≤ k' → f k' = some out) : lift f = some out := by
  have hex : ∃ out, ∃ k, ∀ k', k ≤ k' → f k' = some out := ⟨out, k, h⟩
  unfold lift
  rw [dif_pos hex]
  obtain ⟨k2, h2⟩ := hex.choose_spec
  have e1 := h (max k k2) (Nat.le_max_left _ _)
  have e2 := h2 (max k k2) (Nat.le_max_right _ _)
  rw [e1] at e2
  exact e2.symm
theorem lift_some {R : Type} {f : Nat → Option R} {out : R} (h : lift f = some out) : ∃ k, f k = some out := by
  unfold lift at h
  split at h
  · rename_i hex
    obtain ⟨k, hk⟩ := hex.choose_spec
    injection h with h
    exact ⟨k, by rw [← h]; exact hk k (Nat.le_refl _)⟩
  · cases h

abbrev i64 : Ty := .int .i64
abbrev u8 : Ty := .int .u8
def w64 (n : Int) : Int := IntKind.wrap .i64 n

end
end OT
