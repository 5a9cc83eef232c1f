/- The pure interpreter of the model's code over owned trees: operations, calls, code. Definitions alone, nothing is claimed here. -/
import Derived.Test.YtkimdiobckckiaaOTa
namespace OT
open Go
noncomputable section

/-- How a parameter is handed: read alone; a pointer behind which may be written; a slice whose elements may be written. -/
inductive PM where
  | ro
  | mutp (m : Md)
  | muts (m : Md)
  /-- a function value that has to be this function -/
  | fix (f : Nat)
  deriving DecidableEq

def tupT : List Ty → Ty
  | [] => .unit
  | t :: ts => .pair t (tupT ts)

def mutTys : List (PM × Ty) → List Ty
  | [] => []
  | (.mutp _, t) :: ps => t :: mutTys ps
  | (.muts _, t) :: ps => t :: mutTys ps
  | _ :: ps => mutTys ps

/-- What a function does: of its arguments its results, and what the turned arguments are then. -/
structure Sig where
  /-- takes a captured variable besides, as its last parameter -/
  cap : Bool := false
  ps : List (PM × Ty)
  rs : List (Ty × Md)
  F : (tupT (ps.map (·.2))).den → Option (tupT (rs.map (·.1) ++ mutTys ps)).den

structure Env where
  TI : Nat → Option Ty
  G : Nat → Option Sig
  /-- operands that are frozen, not moved -/
  fz : List (Nat × Nat × Nat)
  /-- slots that live at a loop's head, told by the loop's first region -/
  lv : List (Nat × List Nat)
  /-- slots that live behind a block, told by its number -/
  lx : List (Nat × List Nat)
  /-- slots that are frozen at a loop's head -/
  lf : List (Nat × List (Nat × Md))
  /-- in which order a region is run whose order is open -/
  od : List (Nat × List Nat) := []
  /-- of such a region: which of its operations read what nobody turns -/
  ar : List (Nat × List Nat) := []
  /-- of such a region: which variables nobody turns from there on -/
  bx : List (Nat × List Nat) := []
  /-- of such a region: which of its operations make something new that may come at any time -/
  pd : List (Nat × List Nat) := []

def isFz : List (Nat × Nat × Nat) → Nat → Nat → Nat → Bool
  | [], _, _, _ => false
  | (a, b, c) :: l, i, j, k => (Nat.beq a i && Nat.beq b j && Nat.beq c k) || isFz l i j k

/-- No slice longer than this is made. -/
def CAP : Nat := 274877906944

section
variable {R : Type}

def tiK (E : Env) (t : Nat) (K : Ty → Option R) : Option R :=
  match E.TI t with
  | some t => K t
  | none => none

/-- The steps to a struct's field, and its type. -/
def fldSteps : Nat → Path
  | 0 => [.fst]
  | n + 1 => .snd :: fldSteps n
def fldTy : Nat → Ty → Option Ty
  | 0, .pair a _ => some a
  | n + 1, .pair _ b => fldTy n b
  | _, _ => none
def fldK : Nat → (t : Ty) → t.den → ((t' : Ty) → t'.den → Option R) → Option R
  | 0, .pair a _, v, K => K a v.1
  | n + 1, .pair _ b, v, K => fldK n b v.2 K
  | _, _, _, _ => none

def rootTyOf (σ : St) (r : Nat) : Option Ty :=
  match σ.get r with
  | .own t _ _ _ | .box t _ _ _ => some t
  | _ => none
def tyOf (σ : St) (r : Nat) (p : Path) : Option Ty :=
  match rootTyOf σ r with
  | some t => tyAt p t
  | none => none

def loadK (E : Env) (σ : St) (T : Nat) (a : Slot) (d : Option Tmp) (K : St → Option R) : Option R :=
  tiK E T fun T =>
  match a with
  | .cp t v => if t = T then K (σ.putD d (.val t v)) else none
  | .ptr r p snap =>
    if σ.ok r snap then
      atK σ r p fun t m H v =>
        if t = T then
          if t.flat then (if H.isEmpty then K (σ.putD d (.val t v)) else none)
          else if m = roMd t then (if H.isEmpty then K (σ.putD d (.val t v)) else none)
          else K (σ.putD d (.ref r p (snapRef σ r p t)))
        else none
    else none
  | _ => none

def storeK (E : Env) (σ : St) (T : Nat) (a x : Slot) (mv : Bool) (K : St → Option R) : Option R :=
  tiK E T fun T =>
  match a with
  | .ptr r p snap =>
    if σ.ok r snap then
      if tyOf σ r p = some T then useK σ x mv T fun m v σ => setK σ r p T m v K else none
    else none
  | _ => none

def fieldAddrK (E : Env) (σ : St) (S : Nat) (x : Slot) (j : Nat) (d : Option Tmp) (K : St → Option R) : Option R :=
  tiK E S fun S =>
  match x with
  | .cp t v => if t = S then fldK j t v fun t' v' => K (σ.putD d (.cp t' v')) else none
  | .ptr r p snap => if σ.ok r snap then (if tyOf σ r p = some S then (if (fldTy j S).isSome then K (σ.putD d (.ptr r (p ++ fldSteps j) snap)) else none) else none) else none
  | _ => none

def fieldVK (E : Env) (σ : St) (S : Nat) (x : Slot) (j : Nat) (d : Option Tmp) (K : St → Option R) : Option R :=
  tiK E S fun S =>
  match x with
  | .val t v => if t = S then fldK j t v fun t' v' => K (σ.putD d (.val t' v')) else none
  | .ref r p snap =>
    if σ.ok r snap then
      if tyOf σ r p = some S then
        atK σ r (p ++ fldSteps j) fun t m H v =>
          if t.flat || (m = roMd t) then (if H.isEmpty then K (σ.putD d (.val t v)) else none)
          else K (σ.putD d (.ref r (p ++ fldSteps j) (snapRef σ r (p ++ fldSteps j) t)))
      else none
    else none
  | _ => none

/-- An index within bounds. -/
def inK (n : Int) (len : Nat) (K : Nat → Option R) : Option R :=
  if 0 ≤ n ∧ n < (len : Int) then K n.toNat else none

def indexAddrK (E : Env) (σ : St) (T : Nat) (x ix : Slot) (d : Option Tmp) (K : St → Option R) : Option R :=
  tiK E T fun T => intK ix fun n =>
  match x with
  | .val (.slc e) v => if T = .slc e then (if 0 ≤ n then (v[n.toNat]?).bind fun y => K (σ.putD d (.cp e y)) else none) else none
  | .cp (.arr m e) v => if T = .arr m e then (if 0 ≤ n then (v[n.toNat]?).bind fun y => K (σ.putD d (.cp e y)) else none) else none
  | .ref r p snap =>
    if σ.ok r snap then
      atK σ r p fun t m H v =>
        if H.any (·.isEmpty) then none else
        if t = T then
          match t, v with
          | .slc e, v =>
            if m.own then inK n v.length fun i => K (σ.putD d (.ptr r (p ++ [.idx i]) (snapPtr σ r (p ++ [.idx i]))))
            else if 0 ≤ n then (v[n.toNat]?).bind fun y => K (σ.putD d (.cp e y)) else none
          | _, _ => none
        else none
    else none
  | .sub r p snap lo hi =>
    if σ.ok r snap then
      atK σ r p fun t _ H _ => if H.any (·.isEmpty) then none else if t = T then inK n (hi - lo) fun i => K (σ.putD d (.ptr r (p ++ [.idx (lo + i)]) (snapPtr σ r (p ++ [.idx (lo + i)])))) else none
    else none
  | .ptr r p snap =>
    if σ.ok r snap then
      atK σ r p fun t _ _ v =>
        if t = T then
          match t, v with
          | .arr _ _, v => inK n v.length fun i => K (σ.putD d (.ptr r (p ++ [.aix i]) snap))
          | _, _ => none
        else none
    else none
  | _ => none

def indexK (E : Env) (σ : St) (T : Nat) (x ix : Slot) (d : Option Tmp) (K : St → Option R) : Option R :=
  tiK E T fun T => intK ix fun n =>
  match x with
  | .val .str s => if T = .str then (if 0 ≤ n then (s[n.toNat]?).bind fun c => K (σ.putD d (.val (.int .u8) c)) else none) else none
  | .val (.arr m e) v => if T = .arr m e then (if 0 ≤ n then (v[n.toNat]?).bind fun y => K (σ.putD d (.val e y)) else none) else none
  | _ => none

/-- The bounds of a piece. -/
def boundsK (len : Nat) (lo hi : Option Slot) (K : Nat → Nat → Option R) : Option R :=
  match lo, hi with
  | none, none => K 0 len
  | some l, none => intK l fun l => if 0 ≤ l ∧ l ≤ (len : Int) then K l.toNat len else none
  | none, some h => intK h fun h => if 0 ≤ h ∧ h ≤ (len : Int) then K 0 h.toNat else none
  | some l, some h => intK l fun l => intK h fun h => if 0 ≤ l ∧ l ≤ h ∧ h ≤ (len : Int) then K l.toNat h.toNat else none

def sliceK (E : Env) (σ : St) (T : Nat) (x : Slot) (lo hi : Option Slot) (d : Option Tmp) (K : St → Option R) : Option R :=
  tiK E T fun T =>
  match x with
  | .val .str s => if T = .str then boundsK s.length lo hi fun l h => K (σ.putD d (.val .str ((s.take h).drop l))) else none
  | .val (.slc e) v => if T = .slc e then boundsK v.length lo hi fun l h => K (σ.putD d (.val (.slc e) ((v.take h).drop l))) else none
  | .ref r p snap =>
    if σ.ok r snap then
      atK σ r p fun t m H v =>
        if H.any (·.isEmpty) then none else
        if t = T then
          match t, v with
          | .slc e, v =>
            if m.own then boundsK v.length lo hi fun l h => K (σ.putD d (.sub r p snap l h))
            else boundsK v.length lo hi fun l h => K (σ.putD d (.val (.slc e) ((v.take h).drop l)))
          | _, _ => none
        else none
    else none
  | .sub r p snap l0 h0 =>
    if σ.ok r snap then
      atK σ r p fun t _ H _ => if H.any (·.isEmpty) then none else if t = T then boundsK (h0 - l0) lo hi fun l h => K (σ.putD d (.sub r p snap (l0 + l) (l0 + h))) else none
    else none
  | _ => none

def lenK (E : Env) (σ : St) (t : Nat) (x : Slot) (K : Nat → Option R) : Option R :=
  tiK E t fun T =>
  match T with
  | .str => match x with
    | .val .str s => K s.length
    | _ => none
  | .slc _ => match x with
    | .val (.slc _) v => K v.length
    | .nils => K 0
    | .ref r p snap =>
      if σ.ok r snap then
        atK σ r p fun t _ H v => if H.any (·.isEmpty) then none else match t, v with
          | .slc _, v => K v.length
          | _, _ => none
      else none
    | .sub r _ snap lo hi => if σ.ok r snap then K (hi - lo) else none
    | _ => none
  | _ => none

/-- The bytes of a text, or the elements of a slice, to be appended. -/
def tailK (σ : St) (x : Slot) (e : Ty) (mv : Bool) (K : Md → List e.den → St → Option R) : Option R :=
  match x with
  | .val .str s => castK (.slc (.int .u8)) (.slc e) s fun s => K .leaf s σ
  | x => useK σ x mv (.slc e) fun m v σ => K m.e v σ

def appendK (E : Env) (σ : St) (T : Nat) (b : Slot) (x : Operand) (mv : Bool) (d : Option Tmp) (K : St → Option R) : Option R :=
  tiK E T fun T =>
  match T with
  | .slc e =>
    useK σ b true (.slc e) fun m v σ =>
      if m.own then
        tailK σ (opd σ x) e mv fun me y σ =>
          if v.length + y.length ≤ CAP then
            K (σ.putD d (.own (.slc e) (.slc true (if me = m.e then me else roMd e)) [] (v ++ y)))
          else none
      else none
  | _ => none

/-- What is laid over the beginning of a piece. -/
def over {α : Type} (v : List α) (lo n : Nat) (y : List α) : List α := v.take lo ++ y.take n ++ v.drop (lo + n)

def copyK (E : Env) (σ : St) (T : Nat) (b : Operand) (x : Slot) (d : Option Tmp) (K : St → Option R) : Option R :=
  tiK E T fun T =>
  match T with
  | .slc e =>
    if e.flat then
      tailK σ x e true fun _ y σ =>
        match opd σ b with
        | .sub r p snap lo hi =>
          if σ.ok r snap then
            atK σ r p fun t m H v =>
              if m.own && H.isEmpty then castK t (.slc e) v fun v =>
                setK σ r p (.slc e) m (over v lo (min y.length (hi - lo)) y) fun σ' =>
                  K (({ σ' with vr := (σ.setVer r bumpW).vr, lent := σ.lent }).putD d (.val (.int .i64) ((min y.length (hi - lo) : Nat) : Int)))
              else none
          else none
        | .ref r p snap =>
          if σ.ok r snap then
            atK σ r p fun t m H v =>
              if m.own && H.isEmpty then castK t (.slc e) v fun v =>
                setK σ r p (.slc e) m (over v 0 (min y.length v.length) y) fun σ' =>
                  K (({ σ' with vr := (σ.setVer r bumpW).vr, lent := σ.lent }).putD d (.val (.int .i64) ((min y.length v.length : Nat) : Int)))
              else none
          else none
        | _ => none
    else none
  | _ => none

/-- Parts of a struct laid into its zero. -/
def putFld : Nat → (t : Ty) → Md → t.den → (t' : Ty) → Md → t'.den → (Md → t.den → Option R) → Option R
  | 0, .pair a _, m, v, t', m', x, K => castK t' a x fun x => K (.pair m' m.r) (x, v.2)
  | n + 1, .pair _ b, m, v, t', m', x, K => putFld n b m.r v.2 t' m' x fun m'' y => K (.pair m.l m'') (v.1, y)
  | _, _, _, _, _, _, _, _ => none

def buildK (E : Env) (σ : St) (t : Ty) (fz : Nat → Bool) : List (Nat × Operand) → Nat → Md → t.den → (Md → t.den → St → Option R) → Option R
  | [], _, m, v, K => K m v σ
  | (j, x) :: ps, n, m, v, K =>
    match fldTy j t with
    | some t' => useK σ (opd σ x) (!fz n) t' fun m' y σ' => putFld j t m v t' m' y fun m v => buildK E σ' t fz ps (n + 1) m v K
    | none => none

def seqK (σ : St) (e : Ty) (fz : Nat → Bool) : List (Nat × Operand) → Nat → Md → List e.den → (Md → List e.den → St → Option R) → Option R
  | [], _, m, v, K => K m v σ
  | (j, x) :: ps, n, m, v, K =>
    if Nat.beq j n then
      useK σ (opd σ x) (!fz n) e fun m' y σ' => seqK σ' e fz ps (n + 1) (if m' = m then m else roMd e) (v ++ [y]) K
    else none

/-- An array's cells. -/
def arrK (σ : St) (e : Ty) (fz : Nat → Bool) : List (Nat × Operand) → Nat → List e.den → (List e.den → St → Option R) → Option R
  | [], _, v, K => K v σ
  | (j, x) :: ps, n, v, K =>
    useK σ (opd σ x) (!fz n) e fun _ y σ' => if j < v.length then arrK σ' e fz ps (n + 1) (v.set j y) K else none

def binI (op : BinOp) (k : IntKind) (a b : Int) (K : (t : Ty) → t.den → Option R) : Option R :=
  match op with
  | .add => K (.int k) (ofI k (a + b))
  | .sub => K (.int k) (ofI k (a - b))
  | .mul => K (.int k) (ofI k (a * b))
  | .quo => if b = 0 then none else K (.int k) (ofI k (a.tdiv b))
  | .rem => if b = 0 then none else K (.int k) (inI k (a.tmod b))
  | .and => K (.int k) (ofI k ((BitVec.ofInt k.bits a &&& BitVec.ofInt k.bits b).toNat : Int))
  | .or => K (.int k) (ofI k ((BitVec.ofInt k.bits a ||| BitVec.ofInt k.bits b).toNat : Int))
  | .xor => K (.int k) (ofI k ((BitVec.ofInt k.bits a ^^^ BitVec.ofInt k.bits b).toNat : Int))
  | .shl => if b < 0 then none else K (.int k) (ofI k (a * 2 ^ (min b.toNat k.bits)))
  | .shr => if b < 0 then none else K (.int k) (inI k (a.fdiv (2 ^ (min b.toNat k.bits))))
  | .eql => K .bool (decide (a = b))
  | .neq => K .bool (!decide (a = b))
  | .lss => K .bool (decide (a < b))
  | .leq => K .bool (decide (a ≤ b))
  | .gtr => K .bool (decide (b < a))
  | .geq => K .bool (decide (b ≤ a))
  | _ => none

def binS (op : BinOp) (a b : List UInt8) (K : (t : Ty) → t.den → Option R) : Option R :=
  match op with
  | .add => if a.length + b.length ≤ CAP then K .str (a ++ b) else none
  | .eql => K .bool (decide (a = b))
  | .neq => K .bool (!decide (a = b))
  | _ => none

/-- What comes of it either way. -/
def both (a b : Option R) : Option R := open Classical in if a = b then a else none
/-- A slice is compared with nil: an empty one may be it or not. -/
def nilB {α : Type} (v : List α) (a b : Option R) : Option R := match v with
  | [] => both a b
  | _ :: _ => b
def nilK {α : Type} (op : BinOp) (v : List α) (K : (t : Ty) → t.den → Option R) : Option R := match op with
  | .eql => nilB v (K .bool true) (K .bool false)
  | .neq => nilB v (K .bool false) (K .bool true)
  | _ => none

def binK (E : Env) (tid : Nat) (op : BinOp) (x y : Slot) (K : (t : Ty) → t.den → Option R) : Option R :=
  match x, y with
  | .val (.int k) a, .val (.int k') b =>
    match op with
    | .shl | .shr => binI op k (toI k a) (toI k' b) K
    | _ => if k = k' then binI op k (toI k a) (toI k' b) K else none
  | .val .str a, .val .str b => binS op a b K
  | .val t a, .val t' b =>
    match op with
    | .eql => if t.eqOk then tiK E tid fun T => if T = t then castK t' t b fun b => K .bool (t.eq a b) else none else none
    | .neq => if t.eqOk then tiK E tid fun T => if T = t then castK t' t b fun b => K .bool (!t.eq a b) else none else none
    | _ => none
  | .val (.slc e) v, .nils => tiK E tid fun T => if T = .slc e then nilK op v K else none
  | _, _ => none

def convK (E : Env) (σ : St) (S T : Nat) (x : Slot) (d : Option Tmp) (K : St → Option R) : Option R :=
  tiK E S fun S => tiK E T fun T =>
  match T with
  | .int k => match x with
    | .val (.int k') n => if S = .int k' then K (σ.putD d (.val (.int k) (ofI k (toI k' n)))) else none
    | _ => none
  | .str => match S with
    | .str => match x with
      | .val .str s => K (σ.putD d (.val .str s))
      | _ => none
    | .slc (.int .u8) => readK σ x (.slc (.int .u8)) fun v => K (σ.putD d (.val .str v))
    | _ => none
  | .slc (.int .u8) => match x with
    | .val .str s => if S = .str then (if s.length ≤ CAP then K (σ.putD d (.own (.slc (.int .u8)) (ownMd (.slc (.int .u8))) [] s)) else none) else none
    | _ => none
  | _ => none

/-- Data read that nobody owns. -/
def roK (σ : St) (s : Slot) (t : Ty) (K : t.den → Option R) : Option R :=
  match s with
  | .val t' v => castK t' t v K
  | .cp t' v => castK (.ptr t') t v K
  | .nils => match t with
    | .slc _ => K []
    | _ => none
  | .ref r p snap =>
    if σ.ok r snap then atK σ r p fun t' m H v => if H.isEmpty && (t'.flat || decide (m = roMd t')) then castK t' t v K else none
    else none
  | .sub r p snap lo hi =>
    if σ.ok r snap then
      atK σ r p fun t' m H v => if H.isEmpty && decide (m = roMd t') then castK t' t v fun v => match t, v with
        | .slc _, v => K ((v.take hi).drop lo)
        | _, _ => none
      else none
    else none
  | _ => none

/-- One argument: its data; of a turned one its place. 'ow': what is owned may be read. -/
def argK (σ : St) (ow : Bool) (pm : PM) (t : Ty) (s : Slot) (K : t.den → Option (Nat × Path) → Option R) : Option R :=
  match pm with
  | .ro => match ow with
    | true => readK σ s t fun v => K v none
    | false => roK σ s t fun v => K v none
  | .fix f => match s with
    | .val .fn v => if Nat.beq v.1 f then castK .fn t v fun v => K v none else none
    | _ => none
  | .mutp m => match s with
    | .ptr r p snap =>
      if σ.ok r snap then atK σ r p fun t' m' H v => if H.isEmpty && decide (m' = m) then castK t' t v fun v => K v (some (r, p)) else none
      else none
    | _ => none
  | .muts m => match s with
    | .ref r p snap =>
      if σ.ok r snap then atK σ r p fun t' m' H v => if H.isEmpty && decide (m' = m) then castK t' t v fun v => K v (some (r, p)) else none
      else none
    | _ => none

def slotRoot : Slot → List Nat
  | .ref r _ _ | .sub r _ _ _ _ | .ptr r _ _ => [r]
  | _ => []

def argsK (σ : St) (ow : Bool) : (ps : List (PM × Ty)) → List Slot → ((tupT (ps.map (·.2))).den → List (Nat × Path) → Option R) → Option R
  | [], [], K => K () []
  | (pm, t) :: ps, s :: ss, K => argK σ ow pm t s fun v w => argsK σ ow ps ss fun vs ws => K (v, vs) (match w with | some x => x :: ws | none => ws)
  | _, _, _ => none

/-- Of the turned arguments no more is owned than is asked. -/
def trimK (σ : St) : List (PM × Ty) → List Operand → (St → Option R) → Option R
  | (.mutp m, _) :: ps, x :: xs, K => match opd σ x with
    | .ptr r p snap => if σ.ok r snap then atK σ r p fun _ m' _ _ => if m' = m then trimK σ ps xs K else freezeToK σ r p m fun σ => trimK σ ps xs K else none
    | _ => none
  | (.muts m, _) :: ps, x :: xs, K => match opd σ x with
    | .ref r p snap => if σ.ok r snap then atK σ r p fun _ m' _ _ => if m' = m then trimK σ ps xs K else freezeToK σ r p m fun σ => trimK σ ps xs K else none
    | _ => none
  | _ :: ps, _ :: xs, K => trimK σ ps xs K
  | _, _, K => K σ

/-- What nobody may turn any more, as a result may lie in its memory. -/
def frzK (σ : St) : List (PM × Ty) → List Operand → (St → Option R) → Option R
  | (.ro, t) :: ps, x :: xs, K =>
    if t.flat then frzK σ ps xs K else
    match opd σ x with
    | .ref r p snap => if σ.ok r snap then freezeK σ r p fun σ => frzK σ ps xs K else none
    | .sub r p snap _ _ => if σ.ok r snap then freezeK σ r p fun σ => frzK σ ps xs K else none
    | .ptr r p snap => if σ.ok r snap then
        match p, σ.get r with
        | [], .box t m H v => if H.isEmpty && fits m (roMd t) then frzK ((σ.put r .dead).put r (.cp t v)) ps xs K else none
        | _, _ => none
      else none
    | _ => frzK σ ps xs K
  | _ :: ps, _ :: xs, K => frzK σ ps xs K
  | _, _, K => K σ

/-- No root is turned that another argument leads into. -/
def apart : List Nat → List (Nat × Path) → Bool
  | _, [] => true
  | all, (r, _) :: ws => Nat.ble (all.count r) 1 && apart all ws

/-- The turned arguments are laid back. -/
def backK (σ : St) : (ps : List (PM × Ty)) → List (Nat × Path) → (tupT (mutTys ps)).den → (St → Option R) → Option R
  | [], [], _, K => K σ
  | (.ro, _) :: ps, ws, v, K => backK σ ps ws v K
  | (.fix _, _) :: ps, ws, v, K => backK σ ps ws v K
  | (.mutp m, t) :: ps, (r, p) :: ws, v, K => setK σ r p t m v.1 fun σ => backK σ ps ws v.2 K
  | (.muts m, t) :: ps, (r, p) :: ws, v, K => setK σ r p t m v.1 fun σ' => backK { σ' with vr := (σ.setVer r (bumpAt (nidx p + 1))).vr, lent := σ.lent } ps ws v.2 K
  | _, _, _, _ => none

/-- The results apart from the turned arguments. -/
def splitR : (rs : List (Ty × Md)) → {ts : List Ty} → (tupT (rs.map (·.1) ++ ts)).den → List Res × (tupT ts).den
  | [], _, v => ([], v)
  | (t, m) :: rs, _, v => (⟨t, m, v.1⟩ :: (splitR rs v.2).1, (splitR rs v.2).2)

def resSlot : List Res → Slot
  | [] => .dead
  | [x] => laid x.t x.m x.v
  | xs => .tup xs

def allOwn : List (Ty × Md) → Bool
  | [] => true
  | (t, m) :: rs => (t.flat || decide (m = ownMd t)) && t.nofn && allOwn rs

def allOwnP : List (PM × Ty) → Bool
  | [] => true
  | (.mutp m, t) :: ps => (t.flat || decide (m = ownMd t)) && t.nofn && allOwnP ps
  | (.muts m, t) :: ps => (t.flat || decide (m = ownMd t)) && t.nofn && allOwnP ps
  | _ :: ps => allOwnP ps

def callGo (g : Sig) (ow : Bool) (σ : St) (xs : List Operand) (ex : List Slot) (d : Option Tmp) (K : St → Option R) : Option R :=
  trimK σ g.ps xs fun σ =>
    argsK σ ow g.ps (xs.map (opd σ) ++ ex) fun v ws =>
      if Nat.ble ws.length 1 && apart ((xs.map (opd σ) ++ ex).flatMap slotRoot) ws then
        (g.F v).bind fun out =>
          backK σ g.ps ws (splitR g.rs out).2 fun σ => K (σ.putD d (resSlot (splitR g.rs out).1))
      else none
/-- A call. 'ex': the captured variable. -/
def callK (g : Sig) (σ : St) (xs : List Operand) (ex : List Slot) (d : Option Tmp) (K : St → Option R) : Option R :=
  match allOwn g.rs && allOwnP g.ps with
  | true => callGo g true σ xs ex d K
  | false => frzK σ g.ps xs fun σ => callGo g false σ xs ex d K

/-- A variable is given what a slot holds: what the slot itself owns goes over into it. -/
def assignK (E : Env) (σ : St) (T : Nat) (x : Operand) (mv : Bool) (d : Option Tmp) (K : St → Option R) : Option R :=
  match opd σ x with
  | .dead => K (σ.putD d .dead)
  | .nils => tiK E T fun T => match T with
    | .slc e => K (σ.putD d (.own (.slc e) (ownMd (.slc e)) [] []))
    | _ => none
  | .tup [] => K (σ.putD d (.tup []))
  | .tup _ => none
  | .ref r p snap =>
    if σ.ok r snap then
      match tyOf σ r p with
      | some t => useK σ (.ref r p snap) mv t fun m v σ => K (σ.putD d (laid t m v))
      | none => none
    else none
  | .sub r p snap lo hi =>
    if σ.ok r snap then
      match tyOf σ r p with
      | some t => useK σ (.sub r p snap lo hi) mv t fun m v σ => K (σ.putD d (laid t m v))
      | none => none
    else none
  | .ptr r p snap =>
    match p, σ.get r with
    | [], .box t m H v => if σ.ok r snap && mv && !lentB σ.lent r then (match d with | some i => K ((σ.put r .dead).put i (.box t m H v)) | none => none) else K (σ.putD d (.ptr r [] snap))
    | p, _ => K (σ.putD d (.ptr r p snap))
  | s => K (σ.putD d s)

def moveK (σ : St) (x : Operand) (d : Option Tmp) (K : St → Option R) : Option R :=
  match opd σ x, x with
  | .tup xs, .tmp i => K ((σ.put i .dead).putD d (.tup xs))
  | .tup _, _ => none
  | s, _ => K (σ.putD d s)

/-- A lent value that is laid into a variable of its own stays lent there. -/
def relend (σ : St) (x : Operand) (d : Option Tmp) (σ' : St) : St :=
  match x, d with
  | .tmp i, some d => match σ.get i with
    | .own _ _ _ _ => match lentAs σ.lent i with
      | some n => { σ' with lent := (d, n, true) :: σ'.lent }
      | none => σ'
    | _ => σ'
  | _, _ => σ'

def slotFn : Slot → Option (Nat × Int)
  | .val .fn f => some f
  | _ => none

/-- What a map holds at a key. -/
def mapGet {α : Type} (k : Ty) (m : List (k.den × α)) (x : k.den) : Option α := (m.find? fun e => k.eq x e.1).map (·.2)
/-- A map with something laid at a key. -/
def mapPut {α : Type} (k : Ty) (m : List (k.den × α)) (x : k.den) (y : α) : List (k.den × α) := match m.findIdx? (fun e => k.eq x e.1) with
  | some i => m.set i (x, y)
  | none => m ++ [(x, y)]
def orZ {α : Type} (o : Option α) (z : α) : α := match o with
  | some x => x
  | none => z
def lookupK (E : Env) (σ : St) (T : Nat) (x ix : Slot) (ok : Bool) (d : Option Tmp) (K : St → Option R) : Option R :=
  tiK E T fun T =>
  match T with
  | .map k v =>
    if v.zok then
      match x with
      | .ref r p snap =>
        if σ.ok r snap then
          atK σ r p fun t _ H y =>
            if H.isEmpty then castK t (.map k v) y fun y =>
              match ix with
              | .val t2 i => castK t2 k i fun i =>
                match ok with
                | true => K (σ.putD d (.tup [⟨v, roMd v, orZ (mapGet k y i) v.zero⟩, ⟨.bool, .leaf, (mapGet k y i).isSome⟩]))
                | false => K (σ.putD d (.val v (orZ (mapGet k y i) v.zero)))
              | _ => none
            else none
        else none
      | _ => none
    else none
  | _ => none
def mapUpdK (E : Env) (σ : St) (T : Nat) (x ix y : Slot) (K : St → Option R) : Option R :=
  tiK E T fun T =>
  match T with
  | .map k v =>
    match x with
    | .ref r p snap =>
      if σ.ok r snap then
        atK σ r p fun t m H z =>
          if m.own && H.isEmpty then castK t (.map k v) z fun z =>
            match ix, y with
            | .val t2 i, .val t3 w => castK t2 k i fun i => castK t3 v w fun w =>
              setK σ r p (.map k v) m (mapPut k z i w) fun σ' => K { σ' with vr := (σ.setVer r bumpW).vr, lent := σ.lent }
            | _, _ => none
          else none
      else none
    | _ => none
  | _ => none

def isMapT : Option Ty → Bool
  | some (.map _ _) => true
  | _ => false
def mapLenK (E : Env) (σ : St) (T : Nat) (x : Slot) (K : Nat → Option R) : Option R :=
  tiK E T fun T =>
  match T with
  | .map k v =>
    match x with
    | .ref r p snap =>
      if σ.ok r snap then
        atK σ r p fun t _ H y => if H.isEmpty then castK t (.map k v) y fun y => K (List.length y) else none
      else none
    | _ => none
  | _ => none

/-- One operation of a region. -/
def stepK (E : Env) (rid i : Nat) (o : Oper) (σ : St) (K : St → Option R) : Option R :=
  let fz := isFz E.fz rid i
  let d := o.dst
  match o.op with
  | .move x => moveK σ x d K
  | .assign x => assignK E σ o.type x (!fz 0) d K
  | .pick c a b => boolK (opd σ c) fun c => match opd σ (bif c then a else b) with
    | .val .bool x => K (σ.putD d (.val .bool x))
    | _ => none
  | .alloc t => tiK E t fun t => if t.zok then K (σ.putD d (.box t (ownMd t) [] t.zero)) else none
  | .box t x => tiK E t fun t => useK σ (opd σ x) (!fz 0) t fun m v σ' => K (relend σ x d (σ'.putD d (.box t m [] v)))
  | .build t ps => tiK E t fun t => match t with
    | .arr n e => if e.zok then arrK σ e fz ps.toList 0 (Ty.arr n e).zero fun v σ => K (σ.putD d (laid (.arr n e) (ownMd (.arr n e)) v)) else none
    | .pair t1 t2 => if (Ty.pair t1 t2).zok then buildK E σ (.pair t1 t2) fz ps.toList 0 (ownMd (.pair t1 t2)) (Ty.pair t1 t2).zero fun m v σ => K (σ.putD d (laid (.pair t1 t2) m v)) else none
    | _ => none
  | .buildSlice t n ps => tiK E t fun t => match t with
    | .slc e => if Nat.beq n ps.size && e.zok && Nat.ble (n * e.sz) 16777216 then seqK σ e fz ps.toList 0 (ownMd e) [] fun m v σ => K (σ.putD d (.own (.slc e) (.slc true m) [] v)) else none
    | _ => none
  | .load t a => loadK E σ t (opd σ a) d K
  | .store t a x => match d with
    | none => storeK E σ t (opd σ a) (opd σ x) (!fz 1) K
    | some _ => none
  | .nilCheck x => match opd σ x with
    | .ptr r p snap => if σ.ok r snap then K (σ.putD d (.ptr r p snap)) else none
    | .cp t v => K (σ.putD d (.cp t v))
    | .val .fn f => K (σ.putD d (.val .fn f))
    | _ => none
  | .binOp op t x y _ => binK E t op (opd σ x) (opd σ y) fun t v => K (σ.putD d (.val t v))
  | .unOp op _ x => match op, opd σ x with
    | .not, .val .bool b => K (σ.putD d (.val .bool (!b)))
    | .neg, .val (.int k) n => K (σ.putD d (.val (.int k) (ofI k (0 - toI k n))))
    | _, _ => none
  | .convert s t x => convK E σ s t (opd σ x) d K
  | .fieldAddr t x j => fieldAddrK E σ t (opd σ x) j d K
  | .field t x j => fieldVK E σ t (opd σ x) j d K
  | .indexAddr t x ix => indexAddrK E σ t (opd σ x) (opd σ ix) d K
  | .index t x ix => indexK E σ t (opd σ x) (opd σ ix) d K
  | .slice t x lo hi none => sliceK E σ t (opd σ x) (lo.map (opd σ)) (hi.map (opd σ)) d K
  | .makeSlice t n c => tiK E t fun t => match t with
    | .slc e => intK (opd σ n) fun n => intK (opd σ c) fun c =>
      if e.zok then (if 0 ≤ n ∧ n ≤ c ∧ c ≤ (CAP : Int) then K (σ.putD d (.own (.slc e) (ownMd (.slc e)) [] (List.replicate n.toNat e.zero))) else none) else none
    | _ => none
  | .extract x j => match x with
    | .tmp i => match σ.get i with
      | .tup xs => match xs[j]? with
        | some x => if x.t = .unit then none else K ((σ.put i (.tup (xs.set j ⟨.unit, .leaf, ()⟩))).putD d (laid x.t x.m x.v))
        | none => none
      | _ => none
    | _ => none
  | .makeFunc (.func f) first cs =>
    if first.size = 0 then
      match cs.toList with
      | [] => K (σ.putD d (.val .fn (f, 0)))
      | [.tmp i] => match σ.get i with
        | .box (.int .i64) _ _ n => K (((σ.put i .dead).put i (.cp (.int .i64) n)).putD d (.val .fn (f, n)))
        | _ => none
      | _ => none
    else none
  | .makeMap t none => tiK E t fun t => match t with
    | .map k v => if k.flat && v.flat then K (σ.putD d (.own (.map k v) (ownMd (.map k v)) [] [])) else none
    | _ => none
  | .lookup t x ix ok => lookupK E σ t (opd σ x) (opd σ ix) ok d K
  | .mapUpdate t x ix y => match d with
    | none => mapUpdK E σ t (opd σ x) (opd σ ix) (opd σ y) K
    | some _ => none
  | .call c => match c.callee with
    | .builtin .len => match c.args.toList, c.argTypes.toList with
      | [x], [t] => match isMapT (E.TI t) with
        | false => lenK E σ t (opd σ x) fun n => K (σ.putD d (.val (.int .i64) (n : Int)))
        | true => mapLenK E σ t (opd σ x) fun n => K (σ.putD d (.val (.int .i64) (n : Int)))
      | _, _ => none
    | .builtin .append => match c.args.toList, c.argTypes.toList with
      | [b, x], t :: _ => appendK E σ t (opd σ b) x (!fz 1) d K
      | _, _ => none
    | .builtin .copy => match c.args.toList, c.argTypes.toList with
      | [b, x], t :: _ => copyK E σ t b (opd σ x) d K
      | _, _ => none
    | .value (.func f) => match E.G f with
      | some g => match g.cap with
        | false => callK g σ c.args.toList [] d K
        | true => none
      | none => none
    | .value (.tmp i) => match slotFn (σ.get i) with
      | some (f, n) => match E.G f with
        | some g => match g.cap with
          | true => callK g σ c.args.toList [.cp (.int .i64) n] d K
          | false => callK g σ c.args.toList [] d K
        | none => none
      | none => none
    | _ => none
  | _ => none

def liveOf (l : List (Nat × List Nat)) (i : Nat) : List Nat := match lookN l i with | some x => x | none => []

/-- The value of a guard; a bool that is not known parts the ways, and is known behind. -/
def guardK (ops : List Oper) (σ : St) (g : Option (Nat × Bool)) (K : Bool → St → Option R) : Option R :=
  match g with
  | none => K true σ
  | some (j, want) => match (ops[j]?).bind (·.dst) with
    | none => none
    | some t => match σ.get t with
      | .val .bool b => match b with
        | true => K (want == true) (σ.upd t (.val .bool true))
        | false => K (want == false) (σ.upd t (.val .bool false))
      | .tup [] => K false σ
      | _ => none

def opsK (E : Env) (rid : Nat) (ops : List Oper) : List Oper → Nat → St → (St → Option R) → Option R
  | [], _, σ, K => K σ
  | o :: rest, i, σ, K => guardK ops σ o.guard fun b σ =>
    match b with
    | true => stepK E rid i o σ fun σ => opsK E rid ops rest (i + 1) σ K
    | false => opsK E rid ops rest (i + 1) (σ.putD o.dst (.tup [])) K

/-- Reads what nobody turns. -/
def arOk (σ : St) (o : Oper) : Bool := match o.op with
  | .load _ x => match opd σ x with
    | .cp _ _ => true
    | _ => false
  | .convert _ _ x => match opd σ x with
    | .val (.int _) _ => true
    | .val .str _ => true
    | .val (.slc (.int .u8)) _ => true
    | _ => false
  | _ => false
def arIn (E : Env) (rid i : Nat) : Bool := (liveOf E.ar rid).any (Nat.beq i)
/-- Variables that nobody turns any more. -/
def bxK (σ : St) : List Nat → (St → Option R) → Option R
  | [], K => K σ
  | i :: is, K => match σ.get i with
    | .box t m H v => if H.isEmpty && fits m (roMd t) then bxK ((σ.put i .dead).put i (.cp t v)) is K else none
    | _ => none

/-- A slot that may be laid at any time. -/
def pdOk (σ : St) (d : Nat) : Bool := Nat.blt d σ.n && (match σ.get d with
  | .dead => true
  | _ => false) && !lentB σ.lent d && !σ.gh.any fun e => Nat.beq e.1 d
def pdAll (E : Env) (rid : Nat) (ops : List Oper) (is : List Nat) (σ : St) : Bool := (liveOf E.pd rid).all fun j => !is.any (Nat.beq j) || (match (ops[j]?).bind (·.dst) with
  | some d => pdOk σ d
  | none => false)
def pdK (ops : List Oper) (σ : St) : List Nat → (St → Option R) → Option R
  | [], K => K σ
  | j :: js, K => match (ops[j]?).bind (·.dst) with
    | some d => pdK ops (σ.put d .dead) js K
    | none => none

/-- Operations in an order that is told. -/
def ordK (E : Env) (rid : Nat) (ops : List Oper) : List Nat → St → (St → Option R) → Option R
  | [], σ, K => K σ
  | i :: is, σ, K =>
    match pdAll E rid ops (i :: is) σ with
    | false => none
    | true =>
    match ops[i]? with
    | none => none
    | some o => guardK ops σ o.guard fun b σ =>
      match b with
      | true => match arIn E rid i && !arOk σ o with
        | true => none
        | false => stepK E rid i o σ fun σ => ordK E rid ops is σ K
      | false => ordK E rid ops is (σ.putD o.dst (.tup [])) K

def firstReg : Code → Nat
  | .region id _ _ => id
  | .seq a _ => firstReg a
  | .block _ b => firstReg b
  | .loop b => firstReg b
  | .scope b => firstReg b
  | _ => 0

/-- At a loop's head, and behind a block that is left, what does not live is forgotten, and the stamps begin anew. -/
def rootIn (live : List Nat) (fr : List (Nat × Md)) (r : Nat) : Bool := live.any (Nat.beq r) && (match lookN fr r with
  | none => true
  | some _ => false)
def keepSlot (live : List Nat) (fr : List (Nat × Md)) (σ : St) (i : Nat) : Slot :=
  match σ.get i with
  | .ptr r p snap => if σ.ok r snap && rootIn live fr r then .ptr r p (snap.map fun _ => 0) else .dead
  | .ref r p snap => if σ.ok r snap && rootIn live fr r then .ref r p (snap.map fun _ => 0) else .dead
  | .sub r p snap lo hi => if σ.ok r snap && rootIn live fr r then .sub r p (snap.map fun _ => 0) lo hi else .dead
  | s => s
def keep (live : List Nat) (σ : St) : St := { n := σ.n, sl := live.map fun i => (i, keepSlot live [] σ i), vr := [], lent := σ.lent }
def fro (fr : List (Nat × Md)) (i : Nat) (s : Slot) : Slot :=
  match lookN fr i with
  | none => s
  | some m1 =>
    match s with
    | .own t m H v => if H.isEmpty && fits m m1 then (if m1 = roMd t then .val t v else .own t m1 [] v) else .dead
    | .box t m H v => if H.isEmpty && fits m m1 then .box t m1 [] v else .dead
    | s => s
def keepF (live : List Nat) (fr : List (Nat × Md)) (σ : St) : St := { n := σ.n, sl := live.map fun i => (i, fro fr i (keepSlot live fr σ i)), vr := [], lent := σ.lent }
def froOf (l : List (Nat × List (Nat × Md))) (i : Nat) : List (Nat × Md) := match lookN l i with | some x => x | none => []

/-- How code is left. -/
inductive Ex where
  | normal
  | exit (id : Nat)

def loopC (rec : St → Option R) (kp : St → St) (K : Ex → St → Option R) : Ex → St → Option R
  | .normal, σ => rec (kp σ)
  | .exit j, σ => K (.exit j) σ
def seqC (B : St → (Ex → St → Option R) → Option R) (K : Ex → St → Option R) : Ex → St → Option R
  | .normal, σ => B σ K
  | .exit j, σ => K (.exit j) σ
def blockC (id : Nat) (K : Ex → St → Option R) : Ex → St → Option R
  | .normal, σ => K .normal σ
  | .exit j, σ => if Nat.beq j id then K .normal σ else K (.exit j) σ

def iterK (F : St → (Ex → St → Option R) → Option R) (kp : St → St) (K : Ex → St → Option R) : Nat → St → Option R
  | 0, _ => none
  | k + 1, σ => F σ (loopC (iterK F kp K k) kp K)

/-- Code run: 'k': how many rounds a loop may take; 'fin': what a return gives. -/
def codeK (E : Env) (k : Nat) (fin : St → Option R) : Code → St → (Ex → St → Option R) → Option R
  | .skip, σ, K => K .normal σ
  | .region id ops d, σ, K => match d with
    | false => opsK E id ops.toList ops.toList 0 σ fun σ => bxK σ (liveOf E.bx id) fun σ => K .normal σ
    | true => bxK σ (liveOf E.bx id) fun σ => pdK ops.toList σ (liveOf E.pd id) fun σ => ordK E id ops.toList (liveOf E.od id) σ fun σ => K .normal σ
  | .seq a b, σ, K => codeK E k fin a σ (seqC (codeK E k fin b) K)
  | .cond c a b, σ, K => boolK (opd σ c) fun c => match c with
    | true => codeK E k fin a σ K
    | false => codeK E k fin b σ K
  | .block id b, σ, K => codeK E k fin b σ (blockC id K)
  | .loop b, σ, K => iterK (codeK E k fin b) (keepF (liveOf E.lv (firstReg b)) (froOf E.lf (firstReg b))) K k (keepF (liveOf E.lv (firstReg b)) (froOf E.lf (firstReg b)) σ)
  | .scope b, σ, K => codeK E k fin b σ K
  | .exit id, σ, K => K (.exit id) (keep (liveOf E.lx id) σ)
  | .ret, σ, _ => fin σ
  | _, _, _ => none

end

/-- A part of code. -/
def sub : List Nat → Code → Code
  | [], c => c
  | i :: p, .seq a b => match i with
    | 0 => sub p a
    | _ => sub p b
  | i :: p, .cond _ a b => match i with
    | 0 => sub p a
    | _ => sub p b
  | _ :: p, .block _ b => sub p b
  | _ :: p, .loop b => sub p b
  | _ :: p, .scope b => sub p b
  | _, c => c

/-- Rounds. -/
def rawIter {V R : Type} (B : (V → Option R) → V → Option R) : Nat → V → Option R
  | 0, _ => none
  | k + 1, v => B (rawIter B k) v

theorem iter_raw {V R : Type} (F : St → (Ex → St → Option R) → Option R) (kp : St → St) (K : Ex → St → Option R) (σ : V → St) (B : (V → Option R) → V → Option R)
    (h : ∀ (rec : St → Option R) (v : V), F (σ v) (loopC rec kp K) = B (fun v' => rec (σ v')) v) : ∀ (n : Nat) (v : V), iterK F kp K n (σ v) = rawIter B n v := by
  intro n
  induction n with
  | zero => intro v; rfl
  | succ n ih =>
    intro v
    show F (σ v) (loopC (iterK F kp K n) kp K) = B (rawIter B n) v
    rw [h]
    have e : (fun v' => iterK F kp K n (σ v')) = rawIter B n := funext ih
    rw [e]

end
end OT
