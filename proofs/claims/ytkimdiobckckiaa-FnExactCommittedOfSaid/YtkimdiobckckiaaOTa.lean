/- The pure interpreter of the model's code over owned trees: definitions alone, nothing is claimed here. -/
import GoSem.Core.Code
import GoSem.Core.View
namespace OT
open Go

/-- The kinds of data. -/
inductive Ty where
  | int (k : IntKind)
  | bool
  | str
  | unit
  | pair (a b : Ty)
  | arr (n : Nat) (e : Ty)
  | slc (e : Ty)
  | ptr (e : Ty)
  | fn
  | map (k v : Ty)
  deriving DecidableEq

@[reducible] def IntDen : IntKind → Type
  | .u8 => UInt8
  | _ => Int

@[reducible] def Ty.den : Ty → Type
  | .int k => IntDen k
  | .bool => Bool
  | .str => List UInt8
  | .unit => Unit
  | .pair a b => a.den × b.den
  | .arr _ e => List e.den
  | .slc e => List e.den
  | .ptr e => e.den
  | .fn => Nat × Int
  | .map k v => List (k.den × v.den)

/-- How many cells. -/
def Ty.sz : Ty → Nat
  | .unit => 0
  | .pair a b => a.sz + b.sz
  | .arr n e => n * e.sz
  | _ => 1

/-- No memory behind it. -/
def Ty.flat : Ty → Bool
  | .pair a b => a.flat && b.flat
  | .arr _ e => e.flat
  | .slc _ | .ptr _ | .map _ _ => false
  | _ => true

def toI : (k : IntKind) → IntDen k → Int
  | .u8, n => (n.toNat : Int)
  | .i8, n => n
  | .i16, n => n
  | .i32, n => n
  | .i64, n => n
  | .u16, n => n
  | .u32, n => n
  | .u64, n => n

/-- The number of a kind that an integer wraps to. -/
def ofI : (k : IntKind) → Int → IntDen k
  | .u8, n => UInt8.ofInt n
  | .i8, n => IntKind.wrap .i8 n
  | .i16, n => IntKind.wrap .i16 n
  | .i32, n => IntKind.wrap .i32 n
  | .i64, n => IntKind.wrap .i64 n
  | .u16, n => IntKind.wrap .u16 n
  | .u32, n => IntKind.wrap .u32 n
  | .u64, n => IntKind.wrap .u64 n

/-- A number that is of its kind already. -/
def inI : (k : IntKind) → Int → IntDen k
  | .u8, n => UInt8.ofInt n
  | .i8, n => n
  | .i16, n => n
  | .i32, n => n
  | .i64, n => n
  | .u16, n => n
  | .u32, n => n
  | .u64, n => n

def Ty.zero : (t : Ty) → t.den
  | .int k => inI k 0
  | .bool => false
  | .str => []
  | .unit => ()
  | .pair a b => (a.zero, b.zero)
  | .arr n e => List.replicate n e.zero
  | .slc _ => []
  | .ptr e => e.zero
  | .fn => (0, 0)
  | .map _ _ => []

/-- Has a zero. -/
def Ty.zok : Ty → Bool
  | .pair a b => a.zok && b.zok
  | .arr _ e => e.zok
  | .ptr _ | .fn | .map _ _ => false
  | _ => true

/-- Equality of flat data. -/
def Ty.eq : (t : Ty) → t.den → t.den → Bool
  | .int .u8, a, b => a == b
  | .int .i8, a, b => decide (a = b)
  | .int .i16, a, b => decide (a = b)
  | .int .i32, a, b => decide (a = b)
  | .int .i64, a, b => decide (a = b)
  | .int .u16, a, b => decide (a = b)
  | .int .u32, a, b => decide (a = b)
  | .int .u64, a, b => decide (a = b)
  | .bool, a, b => a == b
  | .str, a, b => decide (a = b)
  | .pair x y, a, b => x.eq a.1 b.1 && y.eq a.2 b.2
  | .arr _ e, a, b => (a.zip b).all fun p => e.eq p.1 p.2
  | _, _, _ => true

/-- May be compared by '=='. -/
def Ty.eqOk : Ty → Bool
  | .int _ | .bool | .str | .unit => true
  | .pair a b => a.eqOk && b.eqOk
  | _ => false

/-- No function values in it. -/
def Ty.nofn : Ty → Bool
  | .pair a b => a.nofn && b.nofn
  | .arr _ e | .slc e | .ptr e => e.nofn
  | .map k v => k.nofn && v.nofn
  | .fn => false
  | _ => true

/-- Who owns the memory behind data: a mark at each slice, pointer and map. -/
inductive Md where
  | leaf
  | pair (a b : Md)
  | arr (e : Md)
  | slc (own : Bool) (e : Md)
  | ptr (own : Bool) (e : Md)
  deriving DecidableEq

def mdOf (own : Bool) : Ty → Md
  | .pair a b => .pair (mdOf own a) (mdOf own b)
  | .arr _ e => .arr (mdOf own e)
  | .slc e => .slc own (mdOf own e)
  | .ptr e => .ptr own (mdOf own e)
  | .map _ _ => .slc own .leaf
  | _ => .leaf
abbrev roMd := mdOf false
abbrev ownMd := mdOf true

def Md.l : Md → Md
  | .pair a _ => a
  | _ => .leaf
def Md.r : Md → Md
  | .pair _ b => b
  | _ => .leaf
def Md.e : Md → Md
  | .arr e | .slc _ e | .ptr _ e => e
  | _ => .leaf
def Md.own : Md → Bool
  | .slc o _ | .ptr o _ => o
  | _ => false

/-- Nothing in it is owned. -/
def Md.noOwn : Md → Bool
  | .leaf => true
  | .pair a b => a.noOwn && b.noOwn
  | .arr e => e.noOwn
  | .slc o e => !o && e.noOwn
  | .ptr o e => !o && e.noOwn
/-- What is owned so may be taken for owned so, the rest being given up. -/
def fits : Md → Md → Bool
  | .leaf, .leaf => true
  | .pair a b, .pair c d => fits a c && fits b d
  | .arr a, .arr b => fits a b
  | .slc o a, .slc o' b => (o || !o') && (o' || b.noOwn) && fits a b
  | .ptr o a, .ptr o' b => (o || !o') && (o' || b.noOwn) && fits a b
  | _, _ => false

inductive Step where
  | fst
  | snd
  | idx (i : Nat)
  /-- in an array -/
  | aix (i : Nat)
abbrev Path := List Step
def nidx : Path → Nat
  | [] => 0
  | .idx _ :: p => nidx p + 1
  | _ :: p => nidx p

structure Res where
  t : Ty
  m : Md
  v : t.den

/-- What a slot of the frame holds. 'H': places out of which something was moved. 'snap': the stamps at which a reference holds. -/
inductive Slot where
  | dead
  | nils
  | val (t : Ty) (v : t.den)
  | cp (t : Ty) (v : t.den)
  | own (t : Ty) (m : Md) (H : List Path) (v : t.den)
  | box (t : Ty) (m : Md) (H : List Path) (v : t.den)
  | ref (r : Nat) (p : Path) (snap : List Nat)
  | sub (r : Nat) (p : Path) (snap : List Nat) (lo hi : Nat)
  | ptr (r : Nat) (p : Path) (snap : List Nat)
  | tup (xs : List Res)

structure St where
  n : Nat
  sl : List (Nat × Slot)
  vr : List (Nat × List Nat)
  /-- what is lent by the caller, and as which parameter: 'true': the head of the slice has to stay -/
  lent : List (Nat × Nat × Bool)
  /-- what was read early: by which slot, and where it lies -/
  gh : List (Nat × Nat × Path × List Nat) := []

def lookN {α : Type} : List (Nat × α) → Nat → Option α
  | [], _ => none
  | (k, x) :: l, i => if Nat.beq k i then some x else lookN l i

def St.get (σ : St) (i : Nat) : Slot := if Nat.blt i σ.n then (match lookN σ.sl i with | some s => s | none => .dead) else .dead
def St.ver (σ : St) (i : Nat) : List Nat := match lookN σ.vr i with | some v => v | none => [0, 0, 0, 0, 0]
/-- The stamps: the slot's own, those of its slices' heads by depth, and that of any change. -/
def bumpBase : List Nat → List Nat := fun v => v.map (· + 1)
def bumpAt (d : Nat) : List Nat → List Nat
  | [b, x, y, z, w] => match d with
    | 0 => [b, x + 1, y, z, w + 1]
    | 1 => [b, x, y + 1, z, w + 1]
    | 2 => [b, x, y, z + 1, w + 1]
    | _ => [b + 1, x, y, z, w + 1]
  | v => bumpBase v
def bumpW : List Nat → List Nat
  | [b, x, y, z, w] => [b, x, y, z, w + 1]
  | v => bumpBase v
def St.setVer (σ : St) (i : Nat) (f : List Nat → List Nat) : St := { σ with vr := (i, f (σ.ver i)) :: σ.vr }
/-- A slot begins anew. -/
def unlend : List (Nat × Nat × Bool) → Nat → List (Nat × Nat × Bool)
  | [], _ => []
  | (k, b) :: l, i => if Nat.beq k i then unlend l i else (k, b) :: unlend l i
def ungh : List (Nat × Nat × Path × List Nat) → Nat → List (Nat × Nat × Path × List Nat)
  | [], _ => []
  | (d, x) :: l, i => if Nat.beq d i then ungh l i else (d, x) :: ungh l i
def unhead : List (Nat × Nat × Bool) → Nat → List (Nat × Nat × Bool)
  | [], _ => []
  | (k, n, b) :: l, i => if Nat.beq k i && b then unhead l i else (k, n, b) :: unhead l i
def isLent : List (Nat × Nat × Bool) → Nat → Nat → Bool → Bool
  | [], _, _, _ => false
  | (k, n, b) :: l, i, j, c => (Nat.beq k i && Nat.beq n j && (b == c)) || isLent l i j c
def lentB : List (Nat × Nat × Bool) → Nat → Bool
  | [], _ => false
  | (k, _, b) :: l, i => (Nat.beq k i && !b) || lentB l i
def lentAs : List (Nat × Nat × Bool) → Nat → Option Nat
  | [], _ => none
  | (k, n, b) :: l, i => if Nat.beq k i && b then some n else lentAs l i
def St.put (σ : St) (i : Nat) (s : Slot) : St := { n := σ.n, sl := (i, s) :: σ.sl, vr := (i, bumpBase (σ.ver i)) :: σ.vr, lent := unlend σ.lent i, gh := ungh σ.gh i }
/-- A head of a lent slice would turn. -/
def St.head (σ : St) (r d : Nat) : St := match d with
  | 0 => { σ with lent := unhead σ.lent r }
  | _ => σ
/-- A root's content turns; its stamps are seen to elsewhere. -/
def St.upd (σ : St) (i : Nat) (s : Slot) : St := { σ with sl := (i, s) :: σ.sl }
def St.putD (σ : St) (d : Option Tmp) (s : Slot) : St := match d with
  | some i => σ.put i s
  | none => σ

def preB : List Nat → List Nat → Bool
  | [], _ => true
  | a :: x, b :: y => Nat.beq a b && preB x y
  | _ :: _, [] => false

section
variable {R : Type}

def castK (t t' : Ty) (v : t.den) (K : t'.den → Option R) : Option R :=
  if h : t = t' then K (h ▸ v) else none

def stripF : Path → Option Path
  | .fst :: p => some p
  | _ => none
def stripS : Path → Option Path
  | .snd :: p => some p
  | _ => none

/-- The holes below an element: none, or of the one hole there is (then its place must be this one). -/
def holeAtK (H : List Path) (i : Nat) (K : List Path → Option R) : Option R :=
  match H with
  | [] => K []
  | [.idx j :: q] => if i = j then K [q] else none
  | _ => none

/-- To a place and what is there. -/
def navK : (p : Path) → (t : Ty) → Md → List Path → t.den → ((t' : Ty) → Md → List Path → t'.den → Option R) → Option R
  | [], t, m, H, v, K => K t m H v
  | .fst :: p, .pair a _, m, H, v, K => if H.any (·.isEmpty) then none else navK p a m.l (H.filterMap stripF) v.1 K
  | .snd :: p, .pair _ b, m, H, v, K => if H.any (·.isEmpty) then none else navK p b m.r (H.filterMap stripS) v.2 K
  | .idx i :: p, .slc e, m, H, v, K => holeAtK H i fun H' => (v[i]?).bind fun x => navK p e m.e H' x K
  | .aix i :: p, .arr _ e, m, H, v, K => if H.isEmpty then (v[i]?).bind fun x => navK p e m.e [] x K else none
  | _, _, _, _, _, _ => none

/-- What is at a place turns. -/
def modK : (p : Path) → (t : Ty) → Md → List Path → t.den →
    ((t' : Ty) → Md → List Path → t'.den → (Md → List Path → t'.den → Option R) → Option R) → (Md → List Path → t.den → Option R) → Option R
  | [], t, m, H, v, f, K => f t m H v K
  | .fst :: p, .pair a _, m, H, v, f, K =>
    if H.any (·.isEmpty) then none else
    modK p a m.l (H.filterMap stripF) v.1 f fun m' H' x => K (.pair m' m.r) (H'.map (.fst :: ·) ++ (H.filterMap stripS).map (.snd :: ·)) (x, v.2)
  | .snd :: p, .pair _ b, m, H, v, f, K =>
    if H.any (·.isEmpty) then none else
    modK p b m.r (H.filterMap stripS) v.2 f fun m' H' x => K (.pair m.l m') ((H.filterMap stripF).map (.fst :: ·) ++ H'.map (.snd :: ·)) (v.1, x)
  | .idx i :: p, .slc e, m, H, v, f, K =>
    if m.own then
      holeAtK H i fun H0 => (v[i]?).bind fun x =>
        modK p e m.e H0 x f fun m' H' y =>
          if m' = m.e then K (.slc true m.e) (H'.map (.idx i :: ·)) (v.set i y)
          else if H'.isEmpty then K (.slc true (roMd e)) [] (v.set i y) else none
    else none
  | .aix i :: p, .arr _ e, m, H, v, f, K =>
    if H.isEmpty then (v[i]?).bind fun x =>
      modK p e m.e [] x f fun _ H' y => if H'.isEmpty then K m [] (v.set i y) else none
    else none
  | _, _, _, _, _, _, _ => none

/-- The type at a place. -/
def tyAt : Path → Ty → Option Ty
  | [], t => some t
  | .fst :: p, .pair a _ => tyAt p a
  | .snd :: p, .pair _ b => tyAt p b
  | .idx _ :: p, .slc e => tyAt p e
  | .aix _ :: p, .arr _ e => tyAt p e
  | _, _ => none

def rootK (σ : St) (r : Nat) (K : (t : Ty) → Md → List Path → t.den → Option R) : Option R :=
  match σ.get r with
  | .own t m H v | .box t m H v => K t m H v
  | _ => none
/-- A root's content is laid anew. -/
def St.setRoot (σ : St) (r : Nat) (t : Ty) (m : Md) (H : List Path) (v : t.den) : St :=
  match σ.get r with
  | .box .. => σ.upd r (.box t m H v)
  | _ => σ.upd r (.own t m H v)

def St.ok (σ : St) (r : Nat) (snap : List Nat) : Bool := preB snap (σ.ver r)

/-- What is at a place of a root. -/
def atK (σ : St) (r : Nat) (p : Path) (K : (t : Ty) → Md → List Path → t.den → Option R) : Option R :=
  rootK σ r fun t m H v => navK p t m H v K

/-- What is at a place turns to something else of its type. -/
def setK (σ : St) (r : Nat) (p : Path) (t : Ty) (m : Md) (v : t.den) (K : St → Option R) : Option R :=
  rootK σ r fun t0 m0 H0 v0 =>
    modK p t0 m0 H0 v0 (fun t' _ _ _ k => castK t t' v fun x => k m [] x) fun m' H' v' =>
      K (((σ.setRoot r t0 m' H' v').setVer r (if t.flat then bumpW else bumpAt (nidx p))).head r (nidx p))

/-- What a moved value leaves behind: all that leads to memory is gone, the rest stays. -/
def holesOf : Ty → List Path
  | .pair a b => (holesOf a).map (.fst :: ·) ++ (holesOf b).map (.snd :: ·)
  | .slc _ | .ptr _ | .map _ _ => [[]]
  | .arr _ e => if e.flat then [] else [[]]
  | _ => []

/-- What is at a place is moved out. -/
def takeK (σ : St) (r : Nat) (p : Path) (K : St → Option R) : Option R :=
  rootK σ r fun t0 m0 H0 v0 =>
    modK p t0 m0 H0 v0 (fun t' m' _ x k => k m' (holesOf t') x) fun m' H' v' =>
      K (((σ.setRoot r t0 m' H' v').setVer r (bumpAt (nidx p))).head r (nidx p))

/-- What is at a place is nobody's to turn any more. -/
def freezeK (σ : St) (r : Nat) (p : Path) (K : St → Option R) : Option R :=
  rootK σ r fun t0 m0 H0 v0 =>
    modK p t0 m0 H0 v0 (fun t' m H x k => if H.isEmpty && fits m (roMd t') then k (roMd t') [] x else none) fun m' H' v' =>
      K (σ.setRoot r t0 m' H' v')
/-- Of what is at a place only that is kept as owned which the mode says. -/
def freezeToK (σ : St) (r : Nat) (p : Path) (m1 : Md) (K : St → Option R) : Option R :=
  rootK σ r fun t0 m0 H0 v0 =>
    modK p t0 m0 H0 v0 (fun _ m H x k => if H.isEmpty && fits m m1 then k m1 [] x else none) fun m' H' v' =>
      K (σ.setRoot r t0 m' H' v')

def snapPtr (σ : St) (r : Nat) (p : Path) : List Nat := (σ.ver r).take (1 + nidx p)
def snapRef (σ : St) (r : Nat) (p : Path) (t : Ty) : List Nat := match t with
  | .slc _ | .map _ _ => (σ.ver r).take (2 + nidx p)
  | _ => σ.ver r

def constSlot : Value → Slot
  | .int .u8 n => if ((UInt8.ofInt n).toNat : Int) = n then .val (.int .u8) (UInt8.ofInt n) else .dead
  | .int .i64 n => .val (.int .i64) n
  | .int .u64 n => .val (.int .u64) n
  | .int .u32 n => .val (.int .u32) n
  | .int .i32 n => .val (.int .i32) n
  | .bool b => .val .bool b
  | .string s => .val .str s.data.toList
  | .slice none 0 0 => .nils
  | _ => .dead

def opd (σ : St) : Operand → Slot
  | .tmp i => match σ.get i with
    | .own t _ _ _ => .ref i [] (snapRef σ i [] t)
    | .box _ _ _ _ => .ptr i [] (snapPtr σ i [])
    | s => s
  | .const v => constSlot v
  | .func f => .val .fn (f, 0)
  | .global _ => .dead

/-- Data taken out of a slot, to be laid elsewhere; 'mv': moved (else what is owned becomes nobody's). 't': of which type. -/
def useK (σ : St) (s : Slot) (mv : Bool) (t : Ty) (K : Md → t.den → St → Option R) : Option R :=
  match s with
  | .val t' v => castK t' t v fun v => K (roMd t) v σ
  | .cp t' v => castK (.ptr t') t v fun v => K (roMd t) v σ
  | .nils => match t with
    | .slc e => K (ownMd (.slc e)) [] σ
    | _ => none
  | .ref r p snap =>
    if σ.ok r snap then
      atK σ r p fun t' m H v =>
        if H.isEmpty then castK t' t v fun v =>
          if m = roMd t then K m v σ
          else if mv then takeK σ r p fun σ => K m v σ
          else freezeK σ r p fun σ => K (roMd t) v σ
        else none
    else none
  | .sub r p snap lo hi =>
    if σ.ok r snap then
      atK σ r p fun t' m H v =>
        if H.isEmpty then castK t' t v fun v => match t, v with
          | .slc e, v =>
            if m = roMd (.slc e) then K m ((v.take hi).drop lo) σ
            else if mv then (if lo = 0 then takeK σ r p fun σ => K m ((v.take hi).drop lo) σ else none)
            else freezeK σ r p fun σ => K (roMd (.slc e)) ((v.take hi).drop lo) σ
          | _, _ => none
        else none
    else none
  | .ptr r [] snap =>
    if σ.ok r snap then
      match σ.get r with
      | .box t' m H v => if H.isEmpty && !lentB σ.lent r then castK (.ptr t') t v fun v => K (.ptr true m) v (σ.put r .dead) else none
      | _ => none
    else none
  | _ => none

/-- Data read from a slot, which stays as it is. -/
def readK (σ : St) (s : Slot) (t : Ty) (K : t.den → Option R) : Option R :=
  match s with
  | .val t' v => castK t' t v K
  | .cp t' v => castK (.ptr t') t v K
  | .nils => match t with
    | .slc _ => K []
    | _ => none
  | .ref r p snap =>
    if σ.ok r snap then atK σ r p fun t' _ H v => if H.isEmpty then castK t' t v K else none
    else none
  | .sub r p snap lo hi =>
    if σ.ok r snap then
      atK σ r p fun t' _ H v => if H.isEmpty then castK t' t v fun v => match t, v with
        | .slc _, v => K ((v.take hi).drop lo)
        | _, _ => none
      else none
    else none
  | .ptr r p snap =>
    if σ.ok r snap then atK σ r p fun t' _ H v => if H.isEmpty then castK (.ptr t') t v K else none
    else none
  | _ => none

/-- A whole number of any kind. -/
def intK (s : Slot) (K : Int → Option R) : Option R :=
  match s with
  | .val (.int k) n => K (toI k n)
  | _ => none
def boolK (s : Slot) (K : Bool → Option R) : Option R :=
  match s with
  | .val .bool b => K b
  | _ => none

/-- Data of a result or of an operation laid into a slot. -/
def laid (t : Ty) (m : Md) (v : t.den) : Slot :=
  if m = roMd t then .val t v else
  match t, m, v with
  | .ptr e, .ptr true m', v => .box e m' [] v
  | t, m, v => .own t m [] v

end
end OT
