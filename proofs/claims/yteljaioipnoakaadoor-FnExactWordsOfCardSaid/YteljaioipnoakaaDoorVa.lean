/- The proof's parts, merged: The pure interpreter of the model s code over owned trees  definitions alone, nothing is claimed here.. No conditions but those that each states. -/
import GoSem.Core.Code
import GoSem.Core.View
import Derived.Laws.IdiomCopy
import Derived.Laws.Cells
import Derived.Laws.AppendOwn
import Derived.Calls
import Derived.Lib.LaidTab
import Derived.Lib.ItoaNum
import Derived.Laws.Entries
import Derived.Laws.NewFold
import Derived.Laws.Sem
namespace OT
open Go
inductive Ty where
 | int (k:IntKind)
 | bool
 | str
 | unit
 | pair (a b:Ty)
 | arr (n:Nat) (e:Ty)
 | slc (e:Ty)
 | ptr (e:Ty)
 | fn
 | map (k v:Ty)
 deriving DecidableEq
@[reducible] def IntDen:IntKind->Type
 | .u8=>UInt8
 | _=>Int
@[reducible] def Ty.den:Ty->Type
 | .int k=>IntDen k
 | .bool=>Bool
 | .str=>List UInt8
 | .unit=>Unit
 | .pair a b=>a.den×b.den
 | .arr _ e=>List e.den
 | .slc e=>List e.den
 | .ptr e=>e.den
 | .fn=>Nat×Int
 | .map k v=>List (k.den×v.den)
def Ty.sz:Ty->Nat
 | .unit=>0
 | .pair a b=>a.sz+b.sz
 | .arr n e=>n*e.sz
 | _=>1
def Ty.flat:Ty->Bool
 | .pair a b=>a.flat&&b.flat
 | .arr _ e=>e.flat
 | .slc _ | .ptr _ | .map _ _=>false
 | _=>true
def toI:(k:IntKind)->IntDen k->Int
 | .u8,n=>(n.toNat:Int)
 | .i8,n=>n
 | .i16,n=>n
 | .i32,n=>n
 | .i64,n=>n
 | .u16,n=>n
 | .u32,n=>n
 | .u64,n=>n
def ofI:(k:IntKind)->Int->IntDen k
 | .u8,n=>UInt8.ofInt n
 | .i8,n=>IntKind.wrap .i8 n
 | .i16,n=>IntKind.wrap .i16 n
 | .i32,n=>IntKind.wrap .i32 n
 | .i64,n=>IntKind.wrap .i64 n
 | .u16,n=>IntKind.wrap .u16 n
 | .u32,n=>IntKind.wrap .u32 n
 | .u64,n=>IntKind.wrap .u64 n
def inI:(k:IntKind)->Int->IntDen k
 | .u8,n=>UInt8.ofInt n
 | .i8,n=>n
 | .i16,n=>n
 | .i32,n=>n
 | .i64,n=>n
 | .u16,n=>n
 | .u32,n=>n
 | .u64,n=>n
def Ty.zero:(t:Ty)->t.den
 | .int k=>inI k 0
 | .bool=>false
 | .str=>[]
 | .unit=>()
 | .pair a b=>(a.zero,b.zero)
 | .arr n e=>List.replicate n e.zero
 | .slc _=>[]
 | .ptr e=>e.zero
 | .fn=>(0,0)
 | .map _ _=>[]
def Ty.zok:Ty->Bool
 | .pair a b=>a.zok&&b.zok
 | .arr _ e=>e.zok
 | .ptr _ | .fn | .map _ _=>false
 | _=>true
def Ty.eq:(t:Ty)->t.den->t.den->Bool
 | .int .u8,a,b=>a == b
 | .int .i8,a,b=>decide (a=b)
 | .int .i16,a,b=>decide (a=b)
 | .int .i32,a,b=>decide (a=b)
 | .int .i64,a,b=>decide (a=b)
 | .int .u16,a,b=>decide (a=b)
 | .int .u32,a,b=>decide (a=b)
 | .int .u64,a,b=>decide (a=b)
 | .bool,a,b=>a == b
 | .str,a,b=>decide (a=b)
 | .pair x y,a,b=>x.eq a.1 b.1&&y.eq a.2 b.2
 | .arr _ e,a,b=>(a.zip b).all fun p=>e.eq p.1 p.2
 | _,_,_=>true
def Ty.eqOk:Ty->Bool
 | .int _ | .bool | .str | .unit=>true
 | .pair a b=>a.eqOk&&b.eqOk
 | .arr _ e=>e.eqOk
 | _=>false
def Ty.nofn:Ty->Bool
 | .pair a b=>a.nofn&&b.nofn
 | .arr _ e | .slc e | .ptr e=>e.nofn
 | .map k v=>k.nofn&&v.nofn
 | .fn=>false
 | _=>true
inductive Md where
 | leaf
 | pair (a b:Md)
 | arr (e:Md)
 | slc (own:Bool) (e:Md)
 | ptr (own:Bool) (e:Md)
 deriving DecidableEq
def mdOf (own:Bool):Ty->Md
 | .pair a b=>.pair (mdOf own a) (mdOf own b)
 | .arr _ e=>.arr (mdOf own e)
 | .slc e=>.slc own (mdOf own e)
 | .ptr e=>.ptr own (mdOf own e)
 | .map _ _=>.slc own .leaf
 | _=>.leaf
abbrev roMd:=mdOf false
abbrev ownMd:=mdOf true
def Md.l:Md->Md
 | .pair a _=>a
 | _=>.leaf
def Md.r:Md->Md
 | .pair _ b=>b
 | _=>.leaf
def Md.e:Md->Md
 | .arr e | .slc _ e | .ptr _ e=>e
 | _=>.leaf
def Md.own:Md->Bool
 | .slc o _ | .ptr o _=>o
 | _=>false
def Md.noOwn:Md->Bool
 | .leaf=>true
 | .pair a b=>a.noOwn&&b.noOwn
 | .arr e=>e.noOwn
 | .slc o e=>!o&&e.noOwn
 | .ptr o e=>!o&&e.noOwn
def fits:Md->Md->Bool
 | .leaf,.leaf=>true
 | .pair a b,.pair c d=>fits a c&&fits b d
 | .arr a,.arr b=>fits a b
 | .slc o a,.slc o' b=>(o||!o')&&(o'||b.noOwn)&&fits a b
 | .ptr o a,.ptr o' b=>(o||!o')&&(o'||b.noOwn)&&fits a b
 | _,_=>false
inductive Step where
 | fst
 | snd
 | idx (i:Nat)
 | aix (i:Nat)
abbrev Path:=List Step
def nidx:Path->Nat
 | []=>0
 | .idx _::p=>nidx p+1
 | _::p=>nidx p
structure Res where
 t:Ty
 m:Md
 v:t.den
inductive Slot where
 | dead
 | nils
 | val (t:Ty) (v:t.den)
 | cp (t:Ty) (v:t.den)
 | own (t:Ty) (m:Md) (H:List Path) (v:t.den)
 | box (t:Ty) (m:Md) (H:List Path) (v:t.den)
 | ref (r:Nat) (p:Path) (snap:List Nat)
 | sub (r:Nat) (p:Path) (snap:List Nat) (lo hi:Nat)
 | ptr (r:Nat) (p:Path) (snap:List Nat)
 | tup (xs:List Res)
structure St where
 n:Nat
 sl:List (Nat×Slot)
 vr:List (Nat×List Nat)
 lent:List (Nat×Nat×Bool)
 gh:List (Nat×Nat×Path×List Nat):=[]
def lookN {α:Type}:List (Nat×α)->Nat->Option α
 | [],_=>none
 | (k,x)::l,i=>if Nat.beq k i then some x else lookN l i
def St.get (σ:St) (i:Nat):Slot:=if Nat.blt i σ.n then (match lookN σ.sl i with | some s=>s | none=>.dead) else .dead
def St.ver (σ:St) (i:Nat):List Nat:=match lookN σ.vr i with | some v=>v | none=>[0,0,0,0,0]
def bumpBase:List Nat->List Nat:=fun v=>v.map (·+1)
def bumpAt (d:Nat):List Nat->List Nat
 | [b,x,y,z,w]=>match d with
  | 0=>[b,x+1,y,z,w+1]
  | 1=>[b,x,y+1,z,w+1]
  | 2=>[b,x,y,z+1,w+1]
  | _=>[b+1,x,y,z,w+1]
 | v=>bumpBase v
def bumpW:List Nat->List Nat
 | [b,x,y,z,w]=>[b,x,y,z,w+1]
 | v=>bumpBase v
def St.setVer (σ:St) (i:Nat) (f:List Nat->List Nat):St:={ σ with vr:=(i,f (σ.ver i))::σ.vr }
def unlend:List (Nat×Nat×Bool)->Nat->List (Nat×Nat×Bool)
 | [],_=>[]
 | (k,b)::l,i=>if Nat.beq k i then unlend l i else (k,b)::unlend l i
def ungh:List (Nat×Nat×Path×List Nat)->Nat->List (Nat×Nat×Path×List Nat)
 | [],_=>[]
 | (d,x)::l,i=>if Nat.beq d i then ungh l i else (d,x)::ungh l i
def unhead:List (Nat×Nat×Bool)->Nat->List (Nat×Nat×Bool)
 | [],_=>[]
 | (k,n,b)::l,i=>if Nat.beq k i&&b then unhead l i else (k,n,b)::unhead l i
def isLent:List (Nat×Nat×Bool)->Nat->Nat->Bool->Bool
 | [],_,_,_=>false
 | (k,n,b)::l,i,j,c=>(Nat.beq k i&&Nat.beq n j&&(b == c))||isLent l i j c
def lentB:List (Nat×Nat×Bool)->Nat->Bool
 | [],_=>false
 | (k,_,b)::l,i=>(Nat.beq k i&&!b)||lentB l i
def lentAs:List (Nat×Nat×Bool)->Nat->Option Nat
 | [],_=>none
 | (k,n,b)::l,i=>if Nat.beq k i&&b then some n else lentAs l i
def St.put (σ:St) (i:Nat) (s:Slot):St:={ n:=σ.n,sl:=(i,s)::σ.sl,vr:=(i,bumpBase (σ.ver i))::σ.vr,lent:=unlend σ.lent i,gh:=ungh σ.gh i }
def St.head (σ:St) (r d:Nat):St:=match d with
 | 0=>{ σ with lent:=unhead σ.lent r }
 | _=>σ
def St.upd (σ:St) (i:Nat) (s:Slot):St:={ σ with sl:=(i,s)::σ.sl }
def St.putD (σ:St) (d:Option Tmp) (s:Slot):St:=match d with
 | some i=>σ.put i s
 | none=>σ
def preB:List Nat->List Nat->Bool
 | [],_=>true
 | a::x,b::y=>Nat.beq a b&&preB x y
 | _::_,[]=>false
section
variable {R:Type}
def castK (t t':Ty) (v:t.den) (K:t'.den->Option R):Option R:=
 if h:t=t' then K (h ▸ v) else none
def stripF:Path->Option Path
 | .fst::p=>some p
 | _=>none
def stripS:Path->Option Path
 | .snd::p=>some p
 | _=>none
def holeAtK (H:List Path) (i:Nat) (K:List Path->Option R):Option R:=
 match H with
 | []=>K []
 | [.idx j::q]=>if i=j then K [q] else none
 | _=>none
def navK:(p:Path)->(t:Ty)->Md->List Path->t.den->((t':Ty)->Md->List Path->t'.den->Option R)->Option R
 | [],t,m,H,v,K=>K t m H v
 | .fst::p,.pair a _,m,H,v,K=>if H.any (·.isEmpty) then none else navK p a m.l (H.filterMap stripF) v.1 K
 | .snd::p,.pair _ b,m,H,v,K=>if H.any (·.isEmpty) then none else navK p b m.r (H.filterMap stripS) v.2 K
 | .idx i::p,.slc e,m,H,v,K=>holeAtK H i fun H'=>(v[i]?).bind fun x=>navK p e m.e H' x K
 | .aix i::p,.arr _ e,m,H,v,K=>if H.isEmpty then (v[i]?).bind fun x=>navK p e m.e [] x K else none
 | _,_,_,_,_,_=>none
def modK:(p:Path)->(t:Ty)->Md->List Path->t.den ->
    ((t':Ty)->Md->List Path->t'.den->(Md->List Path->t'.den->Option R)->Option R)->(Md->List Path->t.den->Option R)->Option R
 | [],t,m,H,v,f,K=>f t m H v K
 | .fst::p,.pair a _,m,H,v,f,K=>
  if H.any (·.isEmpty) then none else
  modK p a m.l (H.filterMap stripF) v.1 f fun m' H' x=>K (.pair m' m.r) (H'.map (.fst::·)++(H.filterMap stripS).map (.snd::·)) (x,v.2)
 | .snd::p,.pair _ b,m,H,v,f,K=>
  if H.any (·.isEmpty) then none else
  modK p b m.r (H.filterMap stripS) v.2 f fun m' H' x=>K (.pair m.l m') ((H.filterMap stripF).map (.fst::·)++H'.map (.snd::·)) (v.1,x)
 | .idx i::p,.slc e,m,H,v,f,K=>
  if m.own then
   holeAtK H i fun H0=>(v[i]?).bind fun x=>
    modK p e m.e H0 x f fun m' H' y=>
     if m'=m.e then K (.slc true m.e) (H'.map (.idx i::·)) (v.set i y)
     else if H'.isEmpty then K (.slc true (roMd e)) [] (v.set i y) else none
  else none
 | .aix i::p,.arr _ e,m,H,v,f,K=>
  if H.isEmpty then (v[i]?).bind fun x=>
   modK p e m.e [] x f fun _ H' y=>if H'.isEmpty then K m [] (v.set i y) else none
  else none
 | _,_,_,_,_,_,_=>none
def tyAt:Path->Ty->Option Ty
 | [],t=>some t
 | .fst::p,.pair a _=>tyAt p a
 | .snd::p,.pair _ b=>tyAt p b
 | .idx _::p,.slc e=>tyAt p e
 | .aix _::p,.arr _ e=>tyAt p e
 | _,_=>none
def rootK (σ:St) (r:Nat) (K:(t:Ty)->Md->List Path->t.den->Option R):Option R:=
 match σ.get r with
 | .own t m H v | .box t m H v=>K t m H v
 | _=>none
def St.setRoot (σ:St) (r:Nat) (t:Ty) (m:Md) (H:List Path) (v:t.den):St:=
 match σ.get r with
 | .box ..=>σ.upd r (.box t m H v)
 | _=>σ.upd r (.own t m H v)
def St.ok (σ:St) (r:Nat) (snap:List Nat):Bool:=preB snap (σ.ver r)
def atK (σ:St) (r:Nat) (p:Path) (K:(t:Ty)->Md->List Path->t.den->Option R):Option R:=
 rootK σ r fun t m H v=>navK p t m H v K
def setK (σ:St) (r:Nat) (p:Path) (t:Ty) (m:Md) (v:t.den) (K:St->Option R):Option R:=
 rootK σ r fun t0 m0 H0 v0=>
  modK p t0 m0 H0 v0 (fun t' _ _ _ k=>castK t t' v fun x=>k m [] x) fun m' H' v'=>
   K (((σ.setRoot r t0 m' H' v').setVer r (if t.flat then bumpW else bumpAt (nidx p))).head r (nidx p))
def holesOf:Ty->List Path
 | .pair a b=>(holesOf a).map (.fst::·)++(holesOf b).map (.snd::·)
 | .slc _ | .ptr _ | .map _ _=>[[]]
 | .arr _ e=>if e.flat then [] else [[]]
 | _=>[]
def takeK (σ:St) (r:Nat) (p:Path) (K:St->Option R):Option R:=
 rootK σ r fun t0 m0 H0 v0=>
  modK p t0 m0 H0 v0 (fun t' m' _ x k=>k m' (holesOf t') x) fun m' H' v'=>
   K (((σ.setRoot r t0 m' H' v').setVer r (bumpAt (nidx p))).head r (nidx p))
def freezeK (σ:St) (r:Nat) (p:Path) (K:St->Option R):Option R:=
 rootK σ r fun t0 m0 H0 v0=>
  modK p t0 m0 H0 v0 (fun t' m H x k=>if H.isEmpty&&fits m (roMd t') then k (roMd t') [] x else none) fun m' H' v'=>
   K (σ.setRoot r t0 m' H' v')
def freezeToK (σ:St) (r:Nat) (p:Path) (m1:Md) (K:St->Option R):Option R:=
 rootK σ r fun t0 m0 H0 v0=>
  modK p t0 m0 H0 v0 (fun _ m H x k=>if H.isEmpty&&fits m m1 then k m1 [] x else none) fun m' H' v'=>
   K (σ.setRoot r t0 m' H' v')
def snapPtr (σ:St) (r:Nat) (p:Path):List Nat:=(σ.ver r).take (1+nidx p)
def snapRef (σ:St) (r:Nat) (p:Path) (t:Ty):List Nat:=match t with
 | .slc _ | .map _ _=>(σ.ver r).take (2+nidx p)
 | _=>σ.ver r
def constSlot:Value->Slot
 | .int .u8 n=>if ((UInt8.ofInt n).toNat:Int)=n then .val (.int .u8) (UInt8.ofInt n) else .dead
 | .int .i64 n=>.val (.int .i64) n
 | .int .u64 n=>.val (.int .u64) n
 | .int .u32 n=>.val (.int .u32) n
 | .int .i32 n=>.val (.int .i32) n
 | .bool b=>.val .bool b
 | .string s=>.val .str s.data.toList
 | .slice none 0 0=>.nils
 | _=>.dead
def opd (σ:St):Operand->Slot
 | .tmp i=>match σ.get i with
  | .own t _ _ _=>.ref i [] (snapRef σ i [] t)
  | .box _ _ _ _=>.ptr i [] (snapPtr σ i [])
  | s=>s
 | .const v=>constSlot v
 | .func f=>.val .fn (f,0)
 | .global _=>.dead
def useK (σ:St) (s:Slot) (mv:Bool) (t:Ty) (K:Md->t.den->St->Option R):Option R:=
 match s with
 | .val t' v=>castK t' t v fun v=>K (roMd t) v σ
 | .cp t' v=>castK (.ptr t') t v fun v=>K (roMd t) v σ
 | .nils=>match t with
  | .slc e=>K (ownMd (.slc e)) [] σ
  | _=>none
 | .ref r p snap=>
  if σ.ok r snap then
   atK σ r p fun t' m H v=>
    if H.isEmpty then castK t' t v fun v=>
     if m=roMd t then K m v σ
     else if mv then takeK σ r p fun σ=>K m v σ
     else freezeK σ r p fun σ=>K (roMd t) v σ
    else none
  else none
 | .sub r p snap lo hi=>
  if σ.ok r snap then
   atK σ r p fun t' m H v=>
    if H.isEmpty then castK t' t v fun v=>match t,v with
     | .slc e,v=>
      if m=roMd (.slc e) then K m ((v.take hi).drop lo) σ
      else if mv then (if lo=0 then takeK σ r p fun σ=>K m ((v.take hi).drop lo) σ else none)
      else freezeK σ r p fun σ=>K (roMd (.slc e)) ((v.take hi).drop lo) σ
     | _,_=>none
    else none
  else none
 | .ptr r [] snap=>
  if σ.ok r snap then
   match σ.get r with
   | .box t' m H v=>if H.isEmpty&&!lentB σ.lent r then castK (.ptr t') t v fun v=>K (.ptr true m) v (σ.put r .dead) else none
   | _=>none
  else none
 | _=>none
def readK (σ:St) (s:Slot) (t:Ty) (K:t.den->Option R):Option R:=
 match s with
 | .val t' v=>castK t' t v K
 | .cp t' v=>castK (.ptr t') t v K
 | .nils=>match t with
  | .slc _=>K []
  | _=>none
 | .ref r p snap=>
  if σ.ok r snap then atK σ r p fun t' _ H v=>if H.isEmpty then castK t' t v K else none
  else none
 | .sub r p snap lo hi=>
  if σ.ok r snap then
   atK σ r p fun t' _ H v=>if H.isEmpty then castK t' t v fun v=>match t,v with
    | .slc _,v=>K ((v.take hi).drop lo)
    | _,_=>none
   else none
  else none
 | .ptr r p snap=>
  if σ.ok r snap then atK σ r p fun t' _ H v=>if H.isEmpty then castK (.ptr t') t v K else none
  else none
 | _=>none
def intK (s:Slot) (K:Int->Option R):Option R:=
 match s with
 | .val (.int k) n=>K (toI k n)
 | _=>none
def boolK (s:Slot) (K:Bool->Option R):Option R:=
 match s with
 | .val .bool b=>K b
 | _=>none
def laid (t:Ty) (m:Md) (v:t.den):Slot:=
 if m=roMd t then .val t v else
 match t,m,v with
 | .ptr e,.ptr true m',v=>.box e m' [] v
 | t,m,v=>.own t m [] v
end
end OT
namespace OT
open Go
noncomputable section
inductive PM where
 | ro
 | mutp (m m':Md)
 | muts (m:Md)
 | eat (m:Md)
 | eatv (m:Md)
 | fix (f:Nat)
 deriving DecidableEq
def tupT:List Ty->Ty
 | []=>.unit
 | t::ts=>.pair t (tupT ts)
def mutTys:List (PM×Ty)->List Ty
 | []=>[]
 | (.mutp _ _,t)::ps=>t::mutTys ps
 | (.muts _,t)::ps=>t::mutTys ps
 | _::ps=>mutTys ps
structure Sig where
 cap:Bool:=false
 ps:List (PM×Ty)
 rs:List (Ty×Md)
 F:(tupT (ps.map (·.2))).den->Option (tupT (rs.map (·.1)++mutTys ps)).den
 hol:(tupT (ps.map (·.2))).den->List Path->Bool:=fun _ H=>H.isEmpty
structure Env where
 TI:Nat->Option Ty
 G:Nat->Option Sig
 fz:List (Nat×Nat×Nat):=[]
 lv:List (Nat×List Nat):=[]
 lx:List (Nat×List Nat):=[]
 lf:List (Nat×List (Nat×Md)):=[]
 od:List (Nat×List Nat):=[]
 ar:List (Nat×List Nat):=[]
 bx:List (Nat×List Nat):=[]
 pd:List (Nat×List Nat):=[]
 er:List (Nat×List (Nat×Nat)):=[]
def isFz:List (Nat×Nat×Nat)->Nat->Nat->Nat->Bool
 | [],_,_,_=>false
 | (a,b,c)::l,i,j,k=>(Nat.beq a i&&Nat.beq b j&&Nat.beq c k)||isFz l i j k
def CAP:Nat:=274877906944
section
variable {R:Type}
def tiK (E:Env) (t:Nat) (K:Ty->Option R):Option R:=
 match E.TI t with
 | some t=>K t
 | none=>none
def fldSteps:Nat->Path
 | 0=>[.fst]
 | n+1=>.snd::fldSteps n
def fldTy:Nat->Ty->Option Ty
 | 0,.pair a _=>some a
 | n+1,.pair _ b=>fldTy n b
 | _,_=>none
def fldK:Nat->(t:Ty)->t.den->((t':Ty)->t'.den->Option R)->Option R
 | 0,.pair a _,v,K=>K a v.1
 | n+1,.pair _ b,v,K=>fldK n b v.2 K
 | _,_,_,_=>none
def rootTyOf (σ:St) (r:Nat):Option Ty:=
 match σ.get r with
 | .own t _ _ _ | .box t _ _ _=>some t
 | _=>none
def tyOf (σ:St) (r:Nat) (p:Path):Option Ty:=
 match rootTyOf σ r with
 | some t=>tyAt p t
 | none=>none
def loadK (E:Env) (σ:St) (T:Nat) (a:Slot) (mv:Bool) (d:Option Tmp) (K:St->Option R):Option R:=
 tiK E T fun T=>
 match a with
 | .cp t v=>if t=T then K (σ.putD d (.val t v)) else none
 | .ptr r p snap=>
  if σ.ok r snap then
   atK σ r p fun t m H v=>
    if t=T then
     if t.flat then (if H.isEmpty then K (σ.putD d (.val t v)) else none)
     else if m=roMd t then (if H.isEmpty then (match mv with
      | true=>K (σ.putD d (.ref r p (snapRef σ r p t)))
      | false=>K (σ.putD d (.val t v))) else none)
     else match mv with
      | false=>K (σ.putD d (.ref r p (snapRef σ r p t)))
      | true=>if H.isEmpty then takeK σ r p fun σ=>K (σ.putD d (laid t m v)) else none
    else none
  else none
 | _=>none
def loadF (E:Env) (σ:St) (T:Nat) (a:Operand) (mv fr:Bool) (d:Option Tmp) (K:St->Option R):Option R:=
 match fr with
 | false=>loadK E σ T (opd σ a) mv d K
 | true=>match opd σ a with
  | .ptr r p snap=>if σ.ok r snap then freezeK σ r p fun σ=>loadK E σ T (opd σ a) mv d K else none
  | _=>none
def storeK (E:Env) (σ:St) (T:Nat) (a x:Slot) (mv:Bool) (K:St->Option R):Option R:=
 tiK E T fun T=>
 match a with
 | .ptr r p snap=>
  if σ.ok r snap then
   if tyOf σ r p=some T then useK σ x mv T fun m v σ=>setK σ r p T m v K else none
  else none
 | _=>none
def fieldAddrK (E:Env) (σ:St) (S:Nat) (x:Slot) (j:Nat) (d:Option Tmp) (K:St->Option R):Option R:=
 tiK E S fun S=>
 match x with
 | .cp t v=>if t=S then fldK j t v fun t' v'=>K (σ.putD d (.cp t' v')) else none
 | .ptr r p snap=>if σ.ok r snap then (if tyOf σ r p=some S then (if (fldTy j S).isSome then K (σ.putD d (.ptr r (p++fldSteps j) snap)) else none) else none) else none
 | _=>none
def fieldVK (E:Env) (σ:St) (S:Nat) (x:Slot) (j:Nat) (d:Option Tmp) (K:St->Option R):Option R:=
 tiK E S fun S=>
 match x with
 | .val t v=>if t=S then fldK j t v fun t' v'=>K (σ.putD d (.val t' v')) else none
 | .ref r p snap=>
  if σ.ok r snap then
   if tyOf σ r p=some S then
    atK σ r (p++fldSteps j) fun t m H v=>
     if t.flat||(m=roMd t) then (if H.isEmpty then K (σ.putD d (.val t v)) else none)
     else K (σ.putD d (.ref r (p++fldSteps j) (snapRef σ r (p++fldSteps j) t)))
   else none
  else none
 | _=>none
def inK (n:Int) (len:Nat) (K:Nat->Option R):Option R:=
 if 0<=n/\n < (len:Int) then K n.toNat else none
def indexAddrK (E:Env) (σ:St) (T:Nat) (x ix:Slot) (d:Option Tmp) (K:St->Option R):Option R:=
 tiK E T fun T=>intK ix fun n=>
 match x with
 | .val (.slc e) v=>if T=.slc e then (if 0<=n then (v[n.toNat]?).bind fun y=>K (σ.putD d (.cp e y)) else none) else none
 | .cp (.arr m e) v=>if T=.arr m e then (if 0<=n then (v[n.toNat]?).bind fun y=>K (σ.putD d (.cp e y)) else none) else none
 | .ref r p snap=>
  if σ.ok r snap then
   atK σ r p fun t m H v=>
    if H.any (·.isEmpty) then none else
    if t=T then
     match t,v with
     | .slc e,v=>
      if m.own then inK n v.length fun i=>K (σ.putD d (.ptr r (p++[.idx i]) (snapPtr σ r (p++[.idx i]))))
      else if 0<=n then (v[n.toNat]?).bind fun y=>K (σ.putD d (.cp e y)) else none
     | _,_=>none
    else none
  else none
 | .sub r p snap lo hi=>
  if σ.ok r snap then
   atK σ r p fun t _ H _=>if H.any (·.isEmpty) then none else if t=T then inK n (hi - lo) fun i=>K (σ.putD d (.ptr r (p++[.idx (lo+i)]) (snapPtr σ r (p++[.idx (lo+i)])))) else none
  else none
 | .ptr r p snap=>
  if σ.ok r snap then
   atK σ r p fun t _ _ v=>
    if t=T then
     match t,v with
     | .arr _ _,v=>inK n v.length fun i=>K (σ.putD d (.ptr r (p++[.aix i]) snap))
     | _,_=>none
    else none
  else none
 | _=>none
def indexK (E:Env) (σ:St) (T:Nat) (x ix:Slot) (d:Option Tmp) (K:St->Option R):Option R:=
 tiK E T fun T=>intK ix fun n=>
 match x with
 | .val .str s=>if T=.str then (if 0<=n then (s[n.toNat]?).bind fun c=>K (σ.putD d (.val (.int .u8) c)) else none) else none
 | .val (.arr m e) v=>if T=.arr m e then (if 0<=n then (v[n.toNat]?).bind fun y=>K (σ.putD d (.val e y)) else none) else none
 | _=>none
def boundsK (len:Nat) (lo hi:Option Slot) (K:Nat->Nat->Option R):Option R:=
 match lo,hi with
 | none,none=>K 0 len
 | some l,none=>intK l fun l=>if 0<=l/\l<=(len:Int) then K l.toNat len else none
 | none,some h=>intK h fun h=>if 0<=h/\h<=(len:Int) then K 0 h.toNat else none
 | some l,some h=>intK l fun l=>intK h fun h=>if 0<=l/\l<=h/\h<=(len:Int) then K l.toNat h.toNat else none
def sliceK (E:Env) (σ:St) (T:Nat) (x:Slot) (lo hi:Option Slot) (d:Option Tmp) (K:St->Option R):Option R:=
 tiK E T fun T=>
 match x with
 | .val .str s=>if T=.str then boundsK s.length lo hi fun l h=>K (σ.putD d (.val .str ((s.take h).drop l))) else none
 | .val (.slc e) v=>if T=.slc e then boundsK v.length lo hi fun l h=>K (σ.putD d (.val (.slc e) ((v.take h).drop l))) else none
 | .ref r p snap=>
  if σ.ok r snap then
   atK σ r p fun t m H v=>
    if H.any (·.isEmpty) then none else
    if t=T then
     match t,v with
     | .slc e,v=>
      if m.own then boundsK v.length lo hi fun l h=>K (σ.putD d (.sub r p snap l h))
      else boundsK v.length lo hi fun l h=>K (σ.putD d (.val (.slc e) ((v.take h).drop l)))
     | _,_=>none
    else none
  else none
 | .sub r p snap l0 h0=>
  if σ.ok r snap then
   atK σ r p fun t _ H _=>if H.any (·.isEmpty) then none else if t=T then boundsK (h0 - l0) lo hi fun l h=>K (σ.putD d (.sub r p snap (l0+l) (l0+h))) else none
  else none
 | _=>none
def lenK (E:Env) (σ:St) (t:Nat) (x:Slot) (K:Nat->Option R):Option R:=
 tiK E t fun T=>
 match T with
 | .str=>match x with
  | .val .str s=>K s.length
  | _=>none
 | .slc _=>match x with
  | .val (.slc _) v=>K v.length
  | .nils=>K 0
  | .ref r p snap=>
   if σ.ok r snap then
    atK σ r p fun t _ H v=>if H.any (·.isEmpty) then none else match t,v with
     | .slc _,v=>K v.length
     | _,_=>none
   else none
  | .sub r _ snap lo hi=>if σ.ok r snap then K (hi - lo) else none
  | _=>none
 | _=>none
def tailK (σ:St) (x:Slot) (e:Ty) (mv:Bool) (K:Md->List e.den->St->Option R):Option R:=
 match x with
 | .val .str s=>castK (.slc (.int .u8)) (.slc e) s fun s=>K .leaf s σ
 | x=>useK σ x mv (.slc e) fun m v σ=>K m.e v σ
def appendK (E:Env) (σ:St) (T:Nat) (b:Slot) (x:Operand) (mv tf:Bool) (d:Option Tmp) (K:St->Option R):Option R:=
 tiK E T fun T=>
 match T with
 | .slc e=>
  match tf&&(e.flat&&e.nofn) with
  | true=>tailK σ (opd σ x) e false fun _ y _=>useK σ b true (.slc e) fun m v σ=>
   if m.own then
    if v.length+y.length<=CAP then K (σ.putD d (.own (.slc e) (.slc true (roMd e)) [] (v++y))) else none
   else none
  | false=>
  useK σ b true (.slc e) fun m v σ=>
   if m.own then
    tailK σ (opd σ x) e mv fun me y σ=>
     if v.length+y.length<=CAP then
      K (σ.putD d (.own (.slc e) (.slc true (if me=m.e then me else roMd e)) [] (v++y)))
     else none
   else none
 | _=>none
def over {α:Type} (v:List α) (lo n:Nat) (y:List α):List α:=v.take lo++y.take n++v.drop (lo+n)
def copyK (E:Env) (σ:St) (T:Nat) (b:Operand) (x:Slot) (d:Option Tmp) (K:St->Option R):Option R:=
 tiK E T fun T=>
 match T with
 | .slc e=>
  if e.flat then
   tailK σ x e true fun _ y σ=>
    match opd σ b with
    | .sub r p snap lo hi=>
     if σ.ok r snap then
      atK σ r p fun t m H v=>
       if m.own&&H.isEmpty then castK t (.slc e) v fun v=>
        setK σ r p (.slc e) m (over v lo (min y.length (hi - lo)) y) fun σ'=>
         K (({ σ' with vr:=(σ.setVer r bumpW).vr,lent:=σ.lent }).putD d (.val (.int .i64) ((min y.length (hi - lo):Nat):Int)))
       else none
     else none
    | .ref r p snap=>
     if σ.ok r snap then
      atK σ r p fun t m H v=>
       if m.own&&H.isEmpty then castK t (.slc e) v fun v=>
        setK σ r p (.slc e) m (over v 0 (min y.length v.length) y) fun σ'=>
         K (({ σ' with vr:=(σ.setVer r bumpW).vr,lent:=σ.lent }).putD d (.val (.int .i64) ((min y.length v.length:Nat):Int)))
       else none
     else none
    | _=>none
  else none
 | _=>none
def putFld:Nat->(t:Ty)->Md->t.den->(t':Ty)->Md->t'.den->(Md->t.den->Option R)->Option R
 | 0,.pair a _,m,v,t',m',x,K=>castK t' a x fun x=>K (.pair m' m.r) (x,v.2)
 | n+1,.pair _ b,m,v,t',m',x,K=>putFld n b m.r v.2 t' m' x fun m'' y=>K (.pair m.l m'') (v.1,y)
 | _,_,_,_,_,_,_,_=>none
def buildK (E:Env) (σ:St) (t:Ty) (fz:Nat->Bool):List (Nat×Operand)->Nat->Md->t.den->(Md->t.den->St->Option R)->Option R
 | [],_,m,v,K=>K m v σ
 | (j,x)::ps,n,m,v,K=>
  match fldTy j t with
  | some t'=>useK σ (opd σ x) (!fz n) t' fun m' y σ'=>putFld j t m v t' m' y fun m v=>buildK E σ' t fz ps (n+1) m v K
  | none=>none
def seqK (σ:St) (e:Ty) (fz:Nat->Bool):List (Nat×Operand)->Nat->Md->List e.den->(Md->List e.den->St->Option R)->Option R
 | [],_,m,v,K=>K m v σ
 | (j,x)::ps,n,m,v,K=>
  if Nat.beq j n then
   useK σ (opd σ x) (!fz n) e fun m' y σ'=>seqK σ' e fz ps (n+1) (if m'=m then m else roMd e) (v++[y]) K
  else none
def arrK (σ:St) (e:Ty) (fz:Nat->Bool):List (Nat×Operand)->Nat->List e.den->(List e.den->St->Option R)->Option R
 | [],_,v,K=>K v σ
 | (j,x)::ps,n,v,K=>
  useK σ (opd σ x) (!fz n) e fun _ y σ'=>if j < v.length then arrK σ' e fz ps (n+1) (v.set j y) K else none
def binI (op:BinOp) (k:IntKind) (a b:Int) (K:(t:Ty)->t.den->Option R):Option R:=
 match op with
 | .add=>K (.int k) (ofI k (a+b))
 | .sub=>K (.int k) (ofI k (a - b))
 | .mul=>K (.int k) (ofI k (a*b))
 | .quo=>if b=0 then none else K (.int k) (ofI k (a.tdiv b))
 | .rem=>if b=0 then none else K (.int k) (inI k (a.tmod b))
 | .and=>K (.int k) (ofI k ((BitVec.ofInt k.bits a &&& BitVec.ofInt k.bits b).toNat:Int))
 | .or=>K (.int k) (ofI k ((BitVec.ofInt k.bits a ||| BitVec.ofInt k.bits b).toNat:Int))
 | .xor=>K (.int k) (ofI k ((BitVec.ofInt k.bits a ^^^ BitVec.ofInt k.bits b).toNat:Int))
 | .shl=>if b < 0 then none else K (.int k) (ofI k (a*2 ^ (min b.toNat k.bits)))
 | .shr=>if b < 0 then none else K (.int k) (inI k (a.fdiv (2 ^ (min b.toNat k.bits))))
 | .eql=>K .bool (decide (a=b))
 | .neq=>K .bool (!decide (a=b))
 | .lss=>K .bool (decide (a < b))
 | .leq=>K .bool (decide (a<=b))
 | .gtr=>K .bool (decide (b < a))
 | .geq=>K .bool (decide (b<=a))
 | _=>none
def binS (op:BinOp) (a b:List UInt8) (K:(t:Ty)->t.den->Option R):Option R:=
 match op with
 | .add=>if a.length+b.length<=CAP then K .str (a++b) else none
 | .eql=>K .bool (decide (a=b))
 | .neq=>K .bool (!decide (a=b))
 | _=>none
def both (a b:Option R):Option R:=open Classical in if a=b then a else none
def nilB {α:Type} (v:List α) (a b:Option R):Option R:=match v with
 | []=>both a b
 | _::_=>b
def nilK {α:Type} (op:BinOp) (v:List α) (K:(t:Ty)->t.den->Option R):Option R:=match op with
 | .eql=>nilB v (K .bool true) (K .bool false)
 | .neq=>nilB v (K .bool false) (K .bool true)
 | _=>none
def binK (E:Env) (tid:Nat) (op:BinOp) (x y:Slot) (K:(t:Ty)->t.den->Option R):Option R:=
 match x,y with
 | .val (.int k) a,.val (.int k') b=>
  match op with
  | .shl | .shr=>binI op k (toI k a) (toI k' b) K
  | _=>if k=k' then binI op k (toI k a) (toI k' b) K else none
 | .val .str a,.val .str b=>binS op a b K
 | .val t a,.val t' b=>
  match op with
  | .eql=>if t.eqOk then tiK E tid fun T=>if T=t then castK t' t b fun b=>K .bool (t.eq a b) else none else none
  | .neq=>if t.eqOk then tiK E tid fun T=>if T=t then castK t' t b fun b=>K .bool (!t.eq a b) else none else none
  | _=>none
 | .val (.slc e) v,.nils=>tiK E tid fun T=>if T=.slc e then nilK op v K else none
 | _,_=>none
def convK (E:Env) (σ:St) (S T:Nat) (x:Slot) (d:Option Tmp) (K:St->Option R):Option R:=
 tiK E S fun S=>tiK E T fun T=>
 match T with
 | .int k=>match x with
  | .val (.int k') n=>if S=.int k' then K (σ.putD d (.val (.int k) (ofI k (toI k' n)))) else none
  | _=>none
 | .str=>match S with
  | .str=>match x with
   | .val .str s=>K (σ.putD d (.val .str s))
   | _=>none
  | .slc (.int .u8)=>readK σ x (.slc (.int .u8)) fun v=>K (σ.putD d (.val .str v))
  | _=>none
 | .slc (.int .u8)=>match x with
  | .val .str s=>if S=.str then (if s.length<=CAP then K (σ.putD d (.own (.slc (.int .u8)) (ownMd (.slc (.int .u8))) [] s)) else none) else none
  | _=>none
 | _=>none
def roK (σ:St) (s:Slot) (t:Ty) (K:t.den->Option R):Option R:=
 match s with
 | .val t' v=>castK t' t v K
 | .cp t' v=>castK (.ptr t') t v K
 | .nils=>match t with
  | .slc _=>K []
  | _=>none
 | .ref r p snap=>
  if σ.ok r snap then atK σ r p fun t' m H v=>if H.isEmpty&&(t'.flat||decide (m=roMd t')) then castK t' t v K else none
  else none
 | .sub r p snap lo hi=>
  if σ.ok r snap then
   atK σ r p fun t' m H v=>if H.isEmpty&&decide (m=roMd t') then castK t' t v fun v=>match t,v with
    | .slc _,v=>K ((v.take hi).drop lo)
    | _,_=>none
   else none
  else none
 | _=>none
def argK (σ:St) (ow:Bool) (pm:PM) (t:Ty) (s:Slot) (K:t.den->Option (Nat×Path)->Option R):Option R:=
 match pm with
 | .ro=>match ow with
  | true=>readK σ s t fun v=>K v none
  | false=>roK σ s t fun v=>K v none
 | .fix f=>match s with
  | .val .fn v=>if Nat.beq v.1 f then castK .fn t v fun v=>K v none else none
  | _=>none
 | .mutp m _=>match s with
  | .ptr r p snap=>
   if σ.ok r snap then atK σ r p fun t' m' H v=>if H.isEmpty&&decide (m'=m) then castK t' t v fun v=>K v (some (r,p)) else none
   else none
  | _=>none
 | .eat m=>match s with
  | .ptr r p snap=>
   if σ.ok r snap then atK σ r p fun t' m' H v=>if H.isEmpty&&decide (m'=m) then castK t' t v fun v=>K v (some (r,p)) else none
   else none
  | _=>none
 | .muts m=>match s with
  | .ref r p snap=>
   if σ.ok r snap then atK σ r p fun t' m' H v=>if H.isEmpty&&decide (m'=m) then castK t' t v fun v=>K v (some (r,p)) else none
   else none
  | _=>none
 | .eatv m=>match s with
  | .ref r p snap=>
   if σ.ok r snap then atK σ r p fun t' m' _ v=>if m'=m then castK t' t v fun v=>K v (some (r,p)) else none
   else none
  | _=>none
def slotRoot:Slot->List Nat
 | .ref r _ _ | .sub r _ _ _ _ | .ptr r _ _=>[r]
 | _=>[]
def argsK (σ:St) (ow:Bool):(ps:List (PM×Ty))->List Slot->((tupT (ps.map (·.2))).den->List (Nat×Path)->Option R)->Option R
 | [],[],K=>K () []
 | (pm,t)::ps,s::ss,K=>argK σ ow pm t s fun v w=>argsK σ ow ps ss fun vs ws=>K (v,vs) (match w with | some x=>x::ws | none=>ws)
 | _,_,_=>none
def trimK (σ:St):List (PM×Ty)->List Operand->(St->Option R)->Option R
 | (.mutp m _,_)::ps,x::xs,K=>match opd σ x with
  | .ptr r p snap=>if σ.ok r snap then atK σ r p fun _ m' _ _=>if m'=m then trimK σ ps xs K else freezeToK σ r p m fun σ=>trimK σ ps xs K else none
  | _=>none
 | (.eat m,_)::ps,x::xs,K=>match opd σ x with
  | .ptr r p snap=>if σ.ok r snap then atK σ r p fun _ m' _ _=>if m'=m then trimK σ ps xs K else freezeToK σ r p m fun σ=>trimK σ ps xs K else none
  | _=>none
 | (.muts m,_)::ps,x::xs,K=>match opd σ x with
  | .ref r p snap=>if σ.ok r snap then atK σ r p fun _ m' _ _=>if m'=m then trimK σ ps xs K else freezeToK σ r p m fun σ=>trimK σ ps xs K else none
  | _=>none
 | (.eatv m,_)::ps,x::xs,K=>match opd σ x with
  | .ref r p snap=>if σ.ok r snap then atK σ r p fun _ m' _ _=>if m'=m then trimK σ ps xs K else freezeToK σ r p m fun σ=>trimK σ ps xs K else none
  | _=>none
 | _::ps,_::xs,K=>trimK σ ps xs K
 | _,_,K=>K σ
def cpAt (x:Operand) (r:Nat) (t:Ty) (v:t.den) (σ:St):St:=match x with
 | .tmp i=>match Nat.beq i r||!Nat.blt i σ.n with
  | true=>σ
  | false=>(σ.put i .dead).put i (.cp t v)
 | _=>σ
def frzK (σ:St):List (PM×Ty)->List Operand->(St->Option R)->Option R
 | (.ro,t)::ps,x::xs,K=>
  if t.flat then frzK σ ps xs K else
  match opd σ x with
  | .ref r p snap=>if σ.ok r snap then freezeK σ r p fun σ=>frzK σ ps xs K else none
  | .sub r p snap _ _=>if σ.ok r snap then freezeK σ r p fun σ=>frzK σ ps xs K else none
  | .ptr r p snap=>if σ.ok r snap then
    match p,σ.get r with
    | [],.box t m H v=>if H.isEmpty&&fits m (roMd t) then frzK (cpAt x r t v ((σ.put r .dead).put r (.cp t v))) ps xs K else none
    | _,_=>none
   else none
  | _=>frzK σ ps xs K
 | _::ps,_::xs,K=>frzK σ ps xs K
 | _,_,K=>K σ
def apart:List Nat->List (Nat×Path)->Bool
 | _,[]=>true
 | all,(r,_)::ws=>Nat.ble (all.count r) 1&&apart all ws
def backK (σ:St):(ps:List (PM×Ty))->List (Nat×Path)->(tupT (mutTys ps)).den->(St->Option R)->Option R
 | [],[],_,K=>K σ
 | (.ro,_)::ps,ws,v,K=>backK σ ps ws v K
 | (.fix _,_)::ps,ws,v,K=>backK σ ps ws v K
 | (.mutp _ m,t)::ps,(r,p)::ws,v,K=>setK σ r p t m v.1 fun σ=>backK σ ps ws v.2 K
 | (.eat m,t)::ps,(r,p)::ws,v,K=>match setK σ r p t m t.zero (fun _=>some ()) with
  | some _=>backK (σ.put r .dead) ps ws v K
  | none=>none
 | (.eatv _,_)::ps,(r,p)::ws,v,K=>takeK σ r p fun σ=>backK σ ps ws v K
 | (.muts m,t)::ps,(r,p)::ws,v,K=>setK σ r p t m v.1 fun σ'=>backK { σ' with vr:=(σ.setVer r (bumpAt (nidx p+1))).vr,lent:=σ.lent } ps ws v.2 K
 | _,_,_,_=>none
def splitR:(rs:List (Ty×Md))->{ts:List Ty}->(tupT (rs.map (·.1)++ts)).den->List Res×(tupT ts).den
 | [],_,v=>([],v)
 | (t,m)::rs,_,v=>(⟨t,m,v.1⟩::(splitR rs v.2).1,(splitR rs v.2).2)
def resSlot:List Res->Slot
 | []=>.dead
 | [x]=>laid x.t x.m x.v
 | xs=>.tup xs
def allOwn:List (Ty×Md)->Bool
 | []=>true
 | (t,m)::rs=>(t.flat||decide (m=ownMd t))&&t.nofn&&allOwn rs
def allOwnP:List (PM×Ty)->Bool
 | []=>true
 | (.mutp m m',t)::ps=>(t.flat||decide (m=ownMd t))&&t.nofn&&((t.flat||decide (m'=ownMd t))&&allOwnP ps)
 | (.muts m,t)::ps=>(t.flat||decide (m=ownMd t))&&t.nofn&&allOwnP ps
 | (.eat m,t)::ps=>(t.flat||decide (m=ownMd t))&&t.nofn&&allOwnP ps
 | (.eatv m,t)::ps=>(t.flat||decide (m=ownMd t))&&t.nofn&&allOwnP ps
 | _::ps=>allOwnP ps
def nbT:Ty->Bool
 | .int .u8 | .map _ _ | .fn=>false
 | .pair a b=>nbT a&&nbT b
 | .arr _ e | .slc e | .ptr e=>nbT e
 | _=>true
def u8T:Ty->Bool
 | .pair a b=>u8T a&&u8T b
 | .slc (.int .u8)=>true
 | t=>t.flat&&t.nofn
def u8P:List (PM×Ty)->Bool
 | []=>true
 | (.ro,t)::ps=>(t.flat&&t.nofn||nbT t)&&u8P ps
 | (.fix _,_)::ps=>u8P ps
 | (.mutp _ _,t)::ps=>u8T t&&u8P ps
 | _=>false
def noEat:List (PM×Ty)->Bool
 | []=>true
 | (.eat _,_)::_ | (.eatv _,_)::_=>false
 | _::ps=>noEat ps
def hasV:List (PM×Ty)->Bool
 | []=>false
 | (.eatv _,_)::_=>true
 | _::ps=>hasV ps
def holK (σ:St) (hv:Bool) (ho:List Path->Bool) (ws:List (Nat×Path)) (K:Option R):Option R:=
 match hv,ws with
 | true,(r,p)::_=>atK σ r p fun _ _ H _=>match ho H with
  | true=>K
  | false=>none
 | _,_=>K
def callGo (g:Sig) (ow:Bool) (σ:St) (xs:List Operand) (ex:List Slot) (d:Option Tmp) (K:St->Option R):Option R:=
 trimK σ g.ps xs fun σ=>
  argsK σ ow g.ps (xs.map (opd σ)++ex) fun v ws=>
   if Nat.ble ws.length 1&&apart ((xs.map (opd σ)++ex).flatMap slotRoot) ws then
    holK σ (hasV g.ps) (g.hol v) ws ((g.F v).bind fun out=>
     backK σ g.ps ws (splitR g.rs out).2 fun σ=>K (σ.putD d (resSlot (splitR g.rs out).1)))
   else none
def callK (g:Sig) (σ:St) (xs:List Operand) (ex:List Slot) (d:Option Tmp) (K:St->Option R):Option R:=
 match allOwn g.rs&&(allOwnP g.ps||u8P g.ps) with
 | true=>callGo g true σ xs ex d K
 | false=>frzK σ g.ps xs fun σ=>callGo g false σ xs ex d K
def assignK (E:Env) (σ:St) (T:Nat) (x:Operand) (mv:Bool) (d:Option Tmp) (K:St->Option R):Option R:=
 match opd σ x with
 | .dead=>K (σ.putD d .dead)
 | .nils=>tiK E T fun T=>match T with
  | .slc e=>K (σ.putD d (.own (.slc e) (ownMd (.slc e)) [] []))
  | _=>none
 | .tup []=>K (σ.putD d (.tup []))
 | .tup _=>none
 | .ref r p snap=>
  if σ.ok r snap then
   match tyOf σ r p with
   | some t=>useK σ (.ref r p snap) mv t fun m v σ=>K (σ.putD d (laid t m v))
   | none=>none
  else none
 | .sub r p snap lo hi=>
  if σ.ok r snap then
   match tyOf σ r p with
   | some t=>useK σ (.sub r p snap lo hi) mv t fun m v σ=>K (σ.putD d (laid t m v))
   | none=>none
  else none
 | .ptr r p snap=>
  match p,σ.get r with
  | [],.box t m H v=>if σ.ok r snap&&mv&&!lentB σ.lent r then (match d with | some i=>K ((σ.put r .dead).put i (.box t m H v)) | none=>none) else K (σ.putD d (.ptr r [] snap))
  | p,_=>K (σ.putD d (.ptr r p snap))
 | s=>K (σ.putD d s)
def moveK (σ:St) (x:Operand) (d:Option Tmp) (K:St->Option R):Option R:=
 match opd σ x,x with
 | .tup xs,.tmp i=>K ((σ.put i .dead).putD d (.tup xs))
 | .tup _,_=>none
 | s,_=>K (σ.putD d s)
def relend (σ:St) (x:Operand) (d:Option Tmp) (σ':St):St:=
 match x,d with
 | .tmp i,some d=>match σ.get i with
  | .own _ _ _ _=>match lentAs σ.lent i with
   | some n=>{ σ' with lent:=(d,n,true)::σ'.lent }
   | none=>σ'
  | _=>σ'
 | _,_=>σ'
def slotFn:Slot->Option (Nat×Int)
 | .val .fn f=>some f
 | _=>none
def mapGet {α:Type} (k:Ty) (m:List (k.den×α)) (x:k.den):Option α:=(m.find? fun e=>k.eq x e.1).map (·.2)
def mapPut {α:Type} (k:Ty) (m:List (k.den×α)) (x:k.den) (y:α):List (k.den×α):=match m.findIdx? (fun e=>k.eq x e.1) with
 | some i=>m.set i (x,y)
 | none=>m++[(x,y)]
def orZ {α:Type} (o:Option α) (z:α):α:=match o with
 | some x=>x
 | none=>z
def lookupK (E:Env) (σ:St) (T:Nat) (x ix:Slot) (ok:Bool) (d:Option Tmp) (K:St->Option R):Option R:=
 tiK E T fun T=>
 match T with
 | .map k v=>
  if v.zok then
   match x with
   | .ref r p snap=>
    if σ.ok r snap then
     atK σ r p fun t _ H y=>
      if H.isEmpty then castK t (.map k v) y fun y=>
       match ix with
       | .val t2 i=>castK t2 k i fun i=>
        match ok with
        | true=>K (σ.putD d (.tup [⟨v,roMd v,orZ (mapGet k y i) v.zero⟩,⟨.bool,.leaf,(mapGet k y i).isSome⟩]))
        | false=>K (σ.putD d (.val v (orZ (mapGet k y i) v.zero)))
       | _=>none
      else none
    else none
   | _=>none
  else none
 | _=>none
def mapUpdK (E:Env) (σ:St) (T:Nat) (x ix y:Slot) (K:St->Option R):Option R:=
 tiK E T fun T=>
 match T with
 | .map k v=>
  match x with
  | .ref r p snap=>
   if σ.ok r snap then
    atK σ r p fun t m H z=>
     if m.own&&H.isEmpty then castK t (.map k v) z fun z=>
      match ix,y with
      | .val t2 i,.val t3 w=>castK t2 k i fun i=>castK t3 v w fun w=>
       setK σ r p (.map k v) m (mapPut k z i w) fun σ'=>K { σ' with vr:=(σ.setVer r bumpW).vr,lent:=σ.lent }
      | _,_=>none
     else none
   else none
  | _=>none
 | _=>none
def isMapT:Option Ty->Bool
 | some (.map _ _)=>true
 | _=>false
def mapLenK (E:Env) (σ:St) (T:Nat) (x:Slot) (K:Nat->Option R):Option R:=
 tiK E T fun T=>
 match T with
 | .map k v=>
  match x with
  | .ref r p snap=>
   if σ.ok r snap then
    atK σ r p fun t _ H y=>if H.isEmpty then castK t (.map k v) y fun y=>K (List.length y) else none
   else none
  | _=>none
 | _=>none
def stepK (E:Env) (rid i:Nat) (o:Oper) (σ:St) (K:St->Option R):Option R:=
 let fz:=isFz E.fz rid i
 let d:=o.dst
 match o.op with
 | .move x=>moveK σ x d K
 | .assign x=>assignK E σ o.type x (!fz 0) d K
 | .pick c a b=>boolK (opd σ c) fun c=>match opd σ (bif c then a else b) with
  | .val .bool x=>K (σ.putD d (.val .bool x))
  | _=>none
 | .alloc t=>tiK E t fun t=>if t.zok then K (σ.putD d (.box t (ownMd t) [] t.zero)) else none
 | .box t x=>tiK E t fun t=>useK σ (opd σ x) (!fz 0) t fun m v σ'=>K (relend σ x d (σ'.putD d (.box t m [] v)))
 | .build t ps=>tiK E t fun t=>match t with
  | .arr n e=>if e.zok then arrK σ e fz ps.toList 0 (Ty.arr n e).zero fun v σ=>K (σ.putD d (laid (.arr n e) (ownMd (.arr n e)) v)) else none
  | .pair t1 t2=>if (Ty.pair t1 t2).zok then buildK E σ (.pair t1 t2) fz ps.toList 0 (ownMd (.pair t1 t2)) (Ty.pair t1 t2).zero fun m v σ=>K (σ.putD d (laid (.pair t1 t2) m v)) else none
  | _=>none
 | .buildSlice t n ps=>tiK E t fun t=>match t with
  | .slc e=>if Nat.beq n ps.size&&e.zok&&Nat.ble (n*e.sz) 16777216 then seqK σ e fz ps.toList 0 (ownMd e) [] fun m v σ=>K (σ.putD d (.own (.slc e) (.slc true m) [] v)) else none
  | _=>none
 | .load t a=>loadF E σ t a (fz 7) (fz 8) d K
 | .store t a x=>match d with
  | none=>storeK E σ t (opd σ a) (opd σ x) (!fz 1) K
  | some _=>none
 | .nilCheck x=>match opd σ x with
  | .ptr r p snap=>if σ.ok r snap then K (σ.putD d (.ptr r p snap)) else none
  | .cp t v=>K (σ.putD d (.cp t v))
  | .val .fn f=>K (σ.putD d (.val .fn f))
  | _=>none
 | .binOp op t x y _=>binK E t op (opd σ x) (opd σ y) fun t v=>K (σ.putD d (.val t v))
 | .unOp op _ x=>match op,opd σ x with
  | .not,.val .bool b=>K (σ.putD d (.val .bool (!b)))
  | .neg,.val (.int k) n=>K (σ.putD d (.val (.int k) (ofI k (0 - toI k n))))
  | _,_=>none
 | .convert s t x=>convK E σ s t (opd σ x) d K
 | .fieldAddr t x j=>fieldAddrK E σ t (opd σ x) j d K
 | .field t x j=>fieldVK E σ t (opd σ x) j d K
 | .indexAddr t x ix=>indexAddrK E σ t (opd σ x) (opd σ ix) d K
 | .index t x ix=>indexK E σ t (opd σ x) (opd σ ix) d K
 | .slice t x lo hi none=>sliceK E σ t (opd σ x) (lo.map (opd σ)) (hi.map (opd σ)) d K
 | .makeSlice t n c=>tiK E t fun t=>match t with
  | .slc e=>intK (opd σ n) fun n=>intK (opd σ c) fun c=>
   if e.zok then (if 0<=n/\n<=c/\c<=(CAP:Int) then K (σ.putD d (.own (.slc e) (ownMd (.slc e)) [] (List.replicate n.toNat e.zero))) else none) else none
  | _=>none
 | .extract x j=>match x with
  | .tmp i=>match σ.get i with
   | .tup xs=>match xs[j]? with
    | some x=>if x.t=.unit then none else K ((σ.put i (.tup (xs.set j ⟨.unit,.leaf,()⟩))).putD d (laid x.t x.m x.v))
    | none=>none
   | _=>none
  | _=>none
 | .makeFunc (.func f) first cs=>
  if first.size=0 then
   match cs.toList with
   | []=>K (σ.putD d (.val .fn (f,0)))
   | [.tmp i]=>match σ.get i with
    | .box (.int .i64) _ _ n=>K (((σ.put i .dead).put i (.cp (.int .i64) n)).putD d (.val .fn (f,n)))
    | _=>none
   | _=>none
  else none
 | .makeMap t none=>tiK E t fun t=>match t with
  | .map k v=>if k.flat&&v.flat then K (σ.putD d (.own (.map k v) (ownMd (.map k v)) [] [])) else none
  | _=>none
 | .lookup t x ix ok=>lookupK E σ t (opd σ x) (opd σ ix) ok d K
 | .mapUpdate t x ix y=>match d with
  | none=>mapUpdK E σ t (opd σ x) (opd σ ix) (opd σ y) K
  | some _=>none
 | .call c=>match c.callee with
  | .builtin .len=>match c.args.toList,c.argTypes.toList with
   | [x],[t]=>match isMapT (E.TI t) with
    | false=>lenK E σ t (opd σ x) fun n=>K (σ.putD d (.val (.int .i64) (n:Int)))
    | true=>mapLenK E σ t (opd σ x) fun n=>K (σ.putD d (.val (.int .i64) (n:Int)))
   | _,_=>none
  | .builtin .append=>match c.args.toList,c.argTypes.toList with
   | [b,x],t::_=>appendK E σ t (opd σ b) x (!fz 1) (fz 2) d K
   | _,_=>none
  | .builtin .copy=>match c.args.toList,c.argTypes.toList with
   | [b,x],t::_=>copyK E σ t b (opd σ x) d K
   | _,_=>none
  | .value (.func f)=>match E.G f with
   | some g=>match g.cap with
    | false=>callK g σ c.args.toList [] d K
    | true=>none
   | none=>none
  | .value (.tmp i)=>match slotFn (σ.get i) with
   | some (f,n)=>match E.G f with
    | some g=>match g.cap with
     | true=>callK g σ c.args.toList [.cp (.int .i64) n] d K
     | false=>callK g σ c.args.toList [] d K
    | none=>none
   | none=>none
  | _=>none
 | _=>none
def liveOf (l:List (Nat×List Nat)) (i:Nat):List Nat:=match lookN l i with | some x=>x | none=>[]
def guardK (ops:List Oper) (σ:St) (g:Option (Nat×Bool)) (K:Bool->St->Option R):Option R:=
 match g with
 | none=>K true σ
 | some (j,want)=>match (ops[j]?).bind (·.dst) with
  | none=>none
  | some t=>match σ.get t with
   | .val .bool b=>match b with
    | true=>K (want == true) (σ.upd t (.val .bool true))
    | false=>K (want == false) (σ.upd t (.val .bool false))
   | .tup []=>K false σ
   | _=>none
def opsK (E:Env) (rid:Nat) (ops:List Oper):List Oper->Nat->St->(St->Option R)->Option R
 | [],_,σ,K=>K σ
 | o::rest,i,σ,K=>guardK ops σ o.guard fun b σ=>
  match b with
  | true=>stepK E rid i o σ fun σ=>opsK E rid ops rest (i+1) σ K
  | false=>opsK E rid ops rest (i+1) (σ.putD o.dst (.tup [])) K
def arOk (σ:St) (o:Oper):Bool:=match o.op with
 | .load _ x=>match opd σ x with
  | .cp _ _=>true
  | _=>false
 | .convert _ _ x=>match opd σ x with
  | .val (.int _) _=>true
  | .val .str _=>true
  | .val (.slc (.int .u8)) _=>true
  | _=>false
 | _=>false
def arIn (E:Env) (rid i:Nat):Bool:=(liveOf E.ar rid).any (Nat.beq i)
def mayTurn:Op->Bool
 | .store .. | .mapUpdate .. | .call ..=>true
 | _=>false
def pathB:Path->Path->Bool
 | [],[]=>true
 | .fst::p,.fst::q=>pathB p q
 | .snd::p,.snd::q=>pathB p q
 | .idx i::p,.idx j::q=>Nat.beq i j&&pathB p q
 | .aix i::p,.aix j::q=>Nat.beq i j&&pathB p q
 | _,_=>false
def intAt (σ:St) (r:Nat) (p:Path) (v:Int):Bool:=
 match atK σ r p fun t _ _ x=>castK t (.int .i64) x fun y=>some (decide ((y:Int)=v)) with
 | some b=>b
 | none=>false
def erOk (σ:St) (o:Oper):Bool:=match o.op,o.dst with
 | .load _ (.tmp i),some d=>match σ.get i with
  | .ptr r p s=>match σ.get d with
   | .ref r' p' s'=>Nat.beq r r'&&(σ.ok r s&&σ.ok r s')&&pathB p p'
   | .val (.int .i64) v=>σ.ok r s&&intAt σ r p v
   | _=>false
  | .box ..=>match σ.get d with
   | .ref r' p' s'=>Nat.beq i r'&&σ.ok i s'&&pathB [] p'
   | _=>false
  | _=>false
 | _,_=>false
def ersOf (l:List (Nat×List (Nat×Nat))) (i:Nat):List (Nat×Nat):=match lookN l i with | some x=>x | none=>[]
def erIn (E:Env) (rid i:Nat):Bool:=(ersOf E.er rid).any fun e=>Nat.beq i e.1
def erAll (E:Env) (rid:Nat) (ops:List Oper) (is:List Nat) (σ:St):Bool:=(ersOf E.er rid).all fun e=>is.any (Nat.beq e.1)||!(is.any (Nat.beq e.2)||Nat.ble ops.length e.2)||(match ops[e.1]? with
 | some o=>erOk σ o
 | none=>false)
def erChk (E:Env) (rid:Nat) (ops:List Oper) (i:Nat) (o:Oper) (is:List Nat) (σ:St):Bool:=!(mayTurn o.op||erIn E rid i)||erAll E rid ops is σ
def bxK (σ:St):List Nat->(St->Option R)->Option R
 | [],K=>K σ
 | i::is,K=>match σ.get i with
  | .box t m H v=>if H.isEmpty&&fits m (roMd t) then bxK ((σ.put i .dead).put i (.cp t v)) is K else none
  | _=>none
def pdOk (σ:St) (d:Nat):Bool:=Nat.blt d σ.n&&(match σ.get d with
 | .dead=>true
 | _=>false)&&!lentB σ.lent d&&!σ.gh.any fun e=>Nat.beq e.1 d
def pdAll (E:Env) (rid:Nat) (ops:List Oper) (is:List Nat) (σ:St):Bool:=(liveOf E.pd rid).all fun j=>!is.any (Nat.beq j)||(match (ops[j]?).bind (·.dst) with
 | some d=>pdOk σ d
 | none=>false)
def pdK (ops:List Oper) (σ:St):List Nat->(St->Option R)->Option R
 | [],K=>K σ
 | j::js,K=>match (ops[j]?).bind (·.dst) with
  | some d=>pdK ops (σ.put d .dead) js K
  | none=>none
def ordK (E:Env) (rid:Nat) (ops:List Oper):List Nat->St->(St->Option R)->Option R
 | [],σ,K=>K σ
 | i::is,σ,K=>
  match pdAll E rid ops (i::is) σ with
  | false=>none
  | true=>
  match ops[i]? with
  | none=>none
  | some o=>guardK ops σ o.guard fun b σ=>
   match b with
   | true=>match arIn E rid i&&!arOk σ o with
    | true=>none
    | false=>stepK E rid i o σ fun σ=>match erChk E rid ops i o is σ with
     | true=>ordK E rid ops is σ K
     | false=>none
   | false=>ordK E rid ops is (σ.putD o.dst (.tup [])) K
def firstReg:Code->Nat
 | .region id _ _=>id
 | .seq a _=>firstReg a
 | .block _ b=>firstReg b
 | .loop b=>firstReg b
 | .scope b=>firstReg b
 | _=>0
def rootIn (live:List Nat) (fr:List (Nat×Md)) (r:Nat):Bool:=live.any (Nat.beq r)&&(match lookN fr r with
 | none=>true
 | some _=>false)
def keepSlot (live:List Nat) (fr:List (Nat×Md)) (σ:St) (i:Nat):Slot:=
 match σ.get i with
 | .ptr r p snap=>if σ.ok r snap&&rootIn live fr r then .ptr r p (snap.map fun _=>0) else .dead
 | .ref r p snap=>if σ.ok r snap&&rootIn live fr r then .ref r p (snap.map fun _=>0) else .dead
 | .sub r p snap lo hi=>if σ.ok r snap&&rootIn live fr r then .sub r p (snap.map fun _=>0) lo hi else .dead
 | s=>s
def keep (live:List Nat) (σ:St):St:={ n:=σ.n,sl:=live.map fun i=>(i,keepSlot live [] σ i),vr:=[],lent:=σ.lent }
def fro (fr:List (Nat×Md)) (i:Nat) (s:Slot):Slot:=
 match lookN fr i with
 | none=>s
 | some m1=>
  match s with
  | .own t m H v=>if H.isEmpty&&fits m m1 then (if m1=roMd t then .val t v else .own t m1 [] v) else .dead
  | .box t m H v=>if H.isEmpty&&fits m m1 then .box t m1 [] v else .dead
  | s=>s
def keepF (live:List Nat) (fr:List (Nat×Md)) (σ:St):St:={ n:=σ.n,sl:=live.map fun i=>(i,fro fr i (keepSlot live fr σ i)),vr:=[],lent:=σ.lent }
def froOf (l:List (Nat×List (Nat×Md))) (i:Nat):List (Nat×Md):=match lookN l i with | some x=>x | none=>[]
inductive Ex where
 | normal
 | exit (id:Nat)
def loopC (rec:St->Option R) (kp:St->St) (K:Ex->St->Option R):Ex->St->Option R
 | .normal,σ=>rec (kp σ)
 | .exit j,σ=>K (.exit j) σ
def seqC (B:St->(Ex->St->Option R)->Option R) (K:Ex->St->Option R):Ex->St->Option R
 | .normal,σ=>B σ K
 | .exit j,σ=>K (.exit j) σ
def blockC (id:Nat) (K:Ex->St->Option R):Ex->St->Option R
 | .normal,σ=>K .normal σ
 | .exit j,σ=>if Nat.beq j id then K .normal σ else K (.exit j) σ
def iterK (F:St->(Ex->St->Option R)->Option R) (kp:St->St) (K:Ex->St->Option R):Nat->St->Option R
 | 0,_=>none
 | k+1,σ=>F σ (loopC (iterK F kp K k) kp K)
def codeK (E:Env) (k:Nat) (fin:St->Option R):Code->St->(Ex->St->Option R)->Option R
 | .skip,σ,K=>K .normal σ
 | .region id ops d,σ,K=>match d with
  | false=>opsK E id ops.toList ops.toList 0 σ fun σ=>bxK σ (liveOf E.bx id) fun σ=>K .normal σ
  | true=>bxK σ (liveOf E.bx id) fun σ=>pdK ops.toList σ (liveOf E.pd id) fun σ=>ordK E id ops.toList (liveOf E.od id) σ fun σ=>K .normal σ
 | .seq a b,σ,K=>codeK E k fin a σ (seqC (codeK E k fin b) K)
 | .cond c a b,σ,K=>boolK (opd σ c) fun c=>match c with
  | true=>codeK E k fin a σ K
  | false=>codeK E k fin b σ K
 | .block id b,σ,K=>codeK E k fin b σ (blockC id K)
 | .loop b,σ,K=>iterK (codeK E k fin b) (keepF (liveOf E.lv (firstReg b)) (froOf E.lf (firstReg b))) K k (keepF (liveOf E.lv (firstReg b)) (froOf E.lf (firstReg b)) σ)
 | .scope b,σ,K=>codeK E k fin b σ K
 | .exit id,σ,K=>K (.exit id) (keep (liveOf E.lx id) σ)
 | .ret,σ,_=>fin σ
 | _,_,_=>none
end
def sub:List Nat->Code->Code
 | [],c=>c
 | i::p,.seq a b=>match i with
  | 0=>sub p a
  | _=>sub p b
 | i::p,.cond _ a b=>match i with
  | 0=>sub p a
  | _=>sub p b
 | _::p,.block _ b=>sub p b
 | _::p,.loop b=>sub p b
 | _::p,.scope b=>sub p b
 | _,c=>c
def rawIter {V R:Type} (B:(V->Option R)->V->Option R):Nat->V->Option R
 | 0,_=>none
 | k+1,v=>B (rawIter B k) v
theorem iter_raw {V R:Type} (F:St->(Ex->St->Option R)->Option R) (kp:St->St) (K:Ex->St->Option R) (σ:V->St) (B:(V->Option R)->V->Option R)
  (h:∀ (rec:St->Option R) (v:V),F (σ v) (loopC rec kp K)=B (fun v'=>rec (σ v')) v):∀ (n:Nat) (v:V),iterK F kp K n (σ v)=rawIter B n v:=by
 intro n
 induction n with
 | zero=>intro v;rfl
 | succ n ih=>
  intro v
  show F (σ v) (loopC (iterK F kp K n) kp K)=B (rawIter B n) v
  simp_all
end
end OT
namespace OT
open Go
noncomputable section
def initSlots:(ps:List (PM×Ty))->(tupT (ps.map (·.2))).den->List Slot
 | [],_=>[]
 | (.ro,.ptr e)::ps,v=>.cp e v.1::initSlots ps v.2
 | (.fix f,.fn)::ps,v=>.val .fn (f,v.1.2)::initSlots ps v.2
 | (.fix _,_)::ps,v=>.dead::initSlots ps v.2
 | (.ro,t)::ps,v=>.val t v.1::initSlots ps v.2
 | (.mutp m _,t)::ps,v=>.box t m [] v.1::initSlots ps v.2
 | (.muts m,t)::ps,v=>.own t m [] v.1::initSlots ps v.2
 | (.eatv m,t)::ps,v=>.own t m [] v.1::initSlots ps v.2
 | (.eat m,t)::ps,v=>.box t m [] v.1::initSlots ps v.2
def numbered:Nat->List Slot->List (Nat×Slot)
 | _,[]=>[]
 | i,s::ss=>(i,s)::numbered (i+1) ss
def lentOf:Nat->List (PM×Ty)->List (Nat×Nat×Bool)
 | _,[]=>[]
 | i,(.mutp _ _,_)::ps=>(i,i,false)::lentOf (i+1) ps
 | i,(.muts _,_)::ps=>(i,i,true)::lentOf (i+1) ps
 | i,(.eat _,_)::ps=>(i,i,false)::lentOf (i+1) ps
 | i,_::ps=>lentOf (i+1) ps
def initSt (ps:List (PM×Ty)) (v:(tupT (ps.map (·.2))).den) (n:Nat):St:={ n:=n,sl:=numbered 0 (initSlots ps v),vr:=[],lent:=lentOf 0 ps }
section
variable {R:Type}
def mutsK (σ:St):Nat->(ps:List (PM×Ty))->List Nat->((tupT (mutTys ps)).den->Option R)->Option R
 | _,[],_,K=>K ()
 | j,(.ro,_)::ps,es,K=>mutsK σ (j+1) ps es K
 | j,(.fix _,_)::ps,es,K=>mutsK σ (j+1) ps es K
 | j,(.eat _,_)::ps,es,K=>mutsK σ (j+1) ps es K
 | j,(.eatv _,_)::ps,es,K=>mutsK σ (j+1) ps es K
 | j,(.mutp _ m,t)::ps,i::es,K=>match σ.get i with
  | .box t' m' H v=>if H.isEmpty&&(decide (m'=m)||fits m' m)&&isLent σ.lent i j false then castK t' t v fun v=>mutsK σ (j+1) ps es fun vs=>K (v,vs) else none
  | _=>none
 | j,(.muts m,t)::ps,i::es,K=>match σ.get i with
  | .own t' m' H v | .box t' m' H v=>if H.isEmpty&&(decide (m'=m)||fits m' m)&&isLent σ.lent i j true then castK t' t v fun v=>mutsK σ (j+1) ps es fun vs=>K (v,vs) else none
  | _=>none
 | _,_,_,_=>none
def rvSlot (σ:St):ResultVar->Slot
 | .tmp i=>opd σ (.tmp i)
 | .cell a _=>match σ.get a with
  | .box _ _ _ _=>.ref a [] (σ.ver a)
  | _=>.dead
def resK (σ:St) (ts:List Ty) (mv:Nat->Bool) (fin:St->((tupT ts).den->Option R)->Option R) :
    (rs:List (Ty×Md))->List ResultVar->Nat->((tupT (rs.map (·.1)++ts)).den->Option R)->Option R
 | [],[],_,K=>fin σ K
 | (t,m)::rs,x::xs,j,K=>useK σ (rvSlot σ x) (mv j) t fun m' v σ'=>
  if m'=m\/fits m' m=true then resK σ' ts mv fin rs xs (j+1) fun vs=>K (v,vs) else none
 | _,_,_,_=>none
end
def outK (ps:List (PM×Ty)) (rs:List (Ty×Md)) (es:List Nat) (rvs:List ResultVar) (mv:Nat->Bool) (σ:St):Option (tupT (rs.map (·.1)++mutTys ps)).den:=
 resK σ (mutTys ps) mv (fun σ K=>mutsK σ 0 ps es K) rs rvs 0 some
def mvs (fr:List Nat) (j:Nat):Bool:=!(fr.any (Nat.beq j))
def endK {R:Type} (fin:St->Option R):Ex->St->Option R
 | .normal,σ=>fin σ
 | .exit _,_=>none
def bodyOf (fn:Func):Code:=match fn.body with
 | some c=>c
 | none=>.refuse ""
abbrev PQ:Type:=List (PM×Ty)
abbrev RQ:Type:=List (Ty×Md)
abbrev TL:Type:=List (Nat×Ty)
abbrev GL:Type:=List (Nat×Sig)
abbrev KT (R:Type):Type:=Ex->St->Option R
def bodyK (E:Env) (k:Nat) (fn:Func) (ps:List (PM×Ty)) (rs:List (Ty×Md)) (es fr:List Nat) (v:(tupT (ps.map (·.2))).den):Option (tupT (rs.map (·.1)++mutTys ps)).den:=
 codeK E k (outK ps rs es fn.results.toList (mvs fr)) (bodyOf fn) (initSt ps v fn.ntmps) (endK (outK ps rs es fn.results.toList (mvs fr)))
def lift {R:Type} (f:Nat->Option R):Option R:=open Classical in if h:∃ out,∃ k,∀ k',k<=k'->f k'=some out then some h.choose else none
theorem lift_eq {R:Type} {f:Nat->Option R} {out:R} {k:Nat} (h:∀ k',k<=k'->f k'=some out):lift f=some out:=by
 have hex:∃ out,∃ k,∀ k',k<=k'->f k'=some out:=⟨out,k,h⟩
 unfold lift
 rw[dif_pos hex]
 obtain ⟨k2,h2⟩:=hex.choose_spec
 have e1:=h (max k k2) (Nat.le_max_left _ _)
 grind
theorem lift_some {R:Type} {f:Nat->Option R} {out:R} (h:lift f=some out):∃ k,f k=some out:=by
 unfold lift at h
 split at h
 ·rename_i hex
  obtain ⟨k,hk⟩:=hex.choose_spec
  injection h with h
  exact ⟨k,by grind⟩
 ·cases h
abbrev i64:Ty:=.int .i64
abbrev u8:Ty:=.int .u8
def w64 (n:Int):Int:=IntKind.wrap .i64 n
end
end OT
set_option linter.unusedVariables false
set_option linter.unusedSimpArgs false
namespace OT
open Go
abbrev FP:=Nat->Nat->Nat
abbrev Cells:=Nat->Nat->Prop
def isAgg:Ty->Bool
 | .unit | .pair _ _ | .arr _ _=>true
 | _=>false
def mkV (t:Ty) (cs:List Value):Value:=if isAgg t then .agg cs.toArray else cs.headD undef
def mapV (kvs:List (Value×Value)):Value:=.tuple (kvs.map fun kv=>Value.tuple #[kv.1,kv.2]).toArray
def entriesOf (es:Array MapEntry):List (Value×Value):=es.toList.map fun e=>(e.key,e.val)
def oneV (u:Value):Option Value:=if u.oneCell' then some u else none
def ce (w:World) (b i:Nat):Option Value:=match w.heap[b]? with
 | some (.map es _)=>if i=0 then some (mapV (entriesOf es)) else none
 | _=>(w.cell? ⟨b,i,none⟩).bind oneV
theorem ce_block {w w2:World} {b:Nat} (h:w2.heap[b]?=w.heap[b]?) (i:Nat):ce w2 b i=ce w b i:=by grind [ce,World.cell?]
theorem oneV_some {u v:Value} (h:oneV u=some v):v=u/\u.oneCell'=true:=by
 grind [oneV]
theorem ce_cell {w:World} {b i:Nat} {u:Value} (h:ce w b i=some u) (hu:u.oneCell'=true):w.cell? ⟨b,i,none⟩=some u:=by
 unfold ce at h
 split at h
 ·split at h
  ·injection h with h;subst h;cases hu
  ·cases h
 ·cases hc:w.cell? ⟨b,i,none⟩ with
  | none=>grind
  | some v=>
   rw[hc] at h
   have:=oneV_some h
   rw[this.1]
theorem cell_ce {w:World} {b i:Nat} {u:Value} (h:w.cell? ⟨b,i,none⟩=some u) (hu:u.oneCell'=true):ce w b i=some u:=by
 grind [World.cell?,ce,oneV]
theorem mapV_inj:∀ {a b:List (Value×Value)},mapV a=mapV b->a=b:=by
 have main:∀ (a b:List (Value×Value)),(a.map fun kv=>Value.tuple #[kv.1,kv.2])=(b.map fun kv=>Value.tuple #[kv.1,kv.2])->a=b:=by
  intro a
  induction a with
  | nil=>simp_all
  | cons x a ih=>
   intro b h
   cases b <;> grind
 grind [mapV]
theorem ce_map {w:World} {r:Nat} {kvs:List (Value×Value)} (h:ce w r 0=some (mapV kvs)):∃ es clock,w.heap[r]?=some (.map es clock)/\entriesOf es=kvs:=by
 unfold ce at h
 split at h
 ·grind [mapV_inj]
 ·cases hc:w.cell? ⟨r,0,none⟩ with
  | none=>grind
  | some v=>
   rw[hc] at h
   have:=oneV_some h
   have h2:=this.2
   rw[<-this.1] at h2
   cases h2
theorem map_ce {w:World} {r:Nat} {es:Array MapEntry} {clock:Nat} (h:w.heap[r]?=some (.map es clock)):ce w r 0=some (mapV (entriesOf es)):=by
 grind [ce]
def Has (w:World) (b o:Nat) (L:List Value):Prop:=∀ j u,L[j]?=some u->ce w b (o+j)=some u
def isU8:Ty->Bool
 | .int .u8=>true
 | _=>false
def OwnBlk (w:World) (b:Nat) (n:Nat×Bool):Prop:=∃ c e fr,w.heap[b]?=some (.cells c e fr)/\c.size=n.1/\(∀ i,i < n.1->¬ (fr.1<=i/\i < fr.2))/\(n.2=false->¬ (fr.1<=n.1/\n.1 < fr.2))
def rng (b o n:Nat):FP:=fun b' i=>if b'=b/\o<=i/\i < o+n then 1 else 0
def sumF:Nat->(Nat->FP)->FP
 | 0,_=>fun _ _=>0
 | n+1,f=>fun b i=>sumF n f b i+f n b i
def updF (f:Nat->FP) (j:Nat) (g:FP):Nat->FP:=fun i=>if i=j then g else f i
theorem sumF_congr {n:Nat} {f g:Nat->FP} (h:∀ j,j < n->f j=g j):sumF n f=sumF n g:=by
 induction n with
 | zero=>rfl
 | succ n ih=>
  funext b i
  simp only[sumF]
  rw[ih (fun j hj=>h j (by omega)),h n (by omega)]
theorem sumF_upd {n:Nat} (f:Nat->FP) {j:Nat} (hj:j < n) (g:FP) (b i:Nat):sumF n (updF f j g) b i+f j b i=sumF n f b i+g b i:=by
 induction n with
 | zero=>omega
 | succ n ih=>
  simp only[sumF]
  by_cases h:j=n
  ·subst h
   have:sumF j (updF f j g)=sumF j f:=sumF_congr fun k hk=>by grind [updF]
   rw[this]
   simp[updF]
   omega
  ·have:=ih (by omega)
   have e:updF f j g n=f n:=by grind [updF]
   rw[e];omega
theorem sumF_upd_out {n:Nat} (f:Nat->FP) {j:Nat} (hj:n<=j) (g:FP):sumF n (updF f j g)=sumF n f:=
 sumF_congr fun k hk=>by grind [updF]
theorem le_sumF {n:Nat} (f:Nat->FP) {j:Nat} (hj:j < n) (b i:Nat):f j b i<=sumF n f b i:=by
 induction n <;> grind [sumF]
theorem le_sumF2 {n:Nat} (f:Nat->FP) {j k:Nat} (hj:j < n) (hk:k < n) (hne:j≠k) (b i:Nat):f j b i+f k b i<=sumF n f b i:=by
 have h1:=sumF_upd f hj (fun _ _=>0) b i
 have h2:=le_sumF (updF f j fun _ _=>0) hk b i
 have e:updF f j (fun _ _=>0) k=f k:=by grind [updF]
 rw[e] at h2
 grind
theorem sumF_zero (n:Nat) (b i:Nat):sumF n (fun _ _ _=>0) b i=0:=by
 induction n <;> grind [sumF]
theorem sumF_add (n m:Nat) (f:Nat->FP) (b i:Nat):sumF (n+m) f b i=sumF n f b i+sumF m (fun j=>f (n+j)) b i:=by
 induction m <;> grind [sumF]
theorem sumF_le {n:Nat} {f g:Nat->FP} (b i:Nat) (h:∀ j,j < n->f j b i<=g j b i):sumF n f b i<=sumF n g b i:=by
 induction n <;> grind [sumF]
theorem sumF_part (n:Nat) (f:Nat->FP) (k m:Nat) (h:k+m<=n) (b i:Nat):sumF m (fun j=>f (k+j)) b i<=sumF n f b i:=by
 have e:n=k+(m+(n - k - m)):=by omega
 grind [sumF_add]
theorem sumF_pos {n:Nat} {f:Nat->FP} {b i:Nat} (h:1<=sumF n f b i):∃ j,j < n/\1<=f j b i:=by
 induction n <;> grind [sumF]
section
variable (P:Program) (w:World) (A:Cells)
def Ro:(t:Ty)->t.den->List Value->Prop
 | .int k,v,cs=>cs=[.int k (toI k v)]
 | .bool,v,cs=>cs=[.bool v]
 | .str,v,cs=>cs=[.string ⟨List.toArray v⟩]
 | .unit,_,cs=>cs=[]
 | .pair a b,v,cs=>Ro a v.1 (cs.take a.sz)/\Ro b v.2 (cs.drop a.sz)
 | .arr n e,v,cs=>e.flat=true/\List.length v=n/\cs.length=n*e.sz/\∀ (i:Nat) (x:e.den),v[i]?=some x->Ro e x ((cs.drop (i*e.sz)).take e.sz)
 | .slc e,v,cs=>∃ a cap,cs=[.slice a (List.length v) cap]/\List.length v<=cap/\(a=none->List.length v=0)/\∀ ad,a=some ad->(0 < cap->ad.spot=none) /\
   ∀ (i:Nat) (x:e.den),v[i]?=some x->∃ L:List Value,L.length=e.sz/\(∀ j u,L[j]?=some u->ce w ad.block (ad.off+i*e.sz+j)=some u/\A ad.block (ad.off+i*e.sz+j))/\Ro e x L
 | .ptr e,v,cs=>∃ ad,cs=[.pointer (some ad)]/\ad.spot=none /\
   ∃ L:List Value,L.length=e.sz/\(∀ j u,L[j]?=some u->ce w ad.block (ad.off+j)=some u/\A ad.block (ad.off+j))/\Ro e v L
 | .fn,v,cs=>∃ caps,cs=[.func (.func v.1) #[] caps]/\∃ fn,P.funcs[v.1]?=some fn /\
   ((fn.nfree=0/\caps=#[])\/(fn.nfree=1/\∃ ad:Addr,caps=#[.pointer (some ad)]/\ad.spot=none/\ce w ad.block ad.off=some (.int .i64 v.2)/\A ad.block ad.off))
 | .map k v,x,cs=>k.flat=true/\v.flat=true/\∃ (r:Nat) (kvs:List (Value×Value)),cs=[.map (some r)]/\ce w r 0=some (mapV kvs)/\A r 0/\kvs.length=List.length x /\
   ∀ (i:Nat) (y:k.den×v.den),x[i]?=some y->∃ (kc vc:List Value),kvs[i]?=some (mkV k kc,mkV v vc)/\Ro k y.1 kc/\Ro v y.2 vc
def hole (H:List Path):Bool:=H.any (·.isEmpty)
def stripI (i:Nat):Path->Option Path
 | .idx j::p=>if i=j then some p else none
 | _=>none
def Rep:(t:Ty)->Md->List Path->t.den->List Value->FP->Prop
 | .pair a b,m,H,v,cs,F=>hole H=false/\∃ F1 F2:FP,(∀ x i,F1 x i+F2 x i<=F x i) /\
   Rep a m.l (H.filterMap stripF) v.1 (cs.take a.sz) F1/\Rep b m.r (H.filterMap stripS) v.2 (cs.drop a.sz) F2
 | .slc e,m,H,v,cs,F=>
   if hole H then ∃ x:Value,cs=[x]/\x.oneCell'=true
   else if m.own then ∃ a cap,cs=[.slice a (List.length v) cap]/\List.length v<=cap/\cap<=maxLen/\(a=none->cap=0)/\∀ ad,a=some ad->ad.off=0/\ad.spot=none /\
    OwnBlk w ad.block (cap*e.sz,isU8 e)/\∃ Fi:Nat->FP,(∀ x i,rng ad.block 0 (cap*e.sz) x i+sumF (List.length v) Fi x i<=F x i) /\
    ∀ (i:Nat) (x:e.den),v[i]?=some x->∃ L:List Value,L.length=e.sz/\Has w ad.block (i*e.sz) L/\Rep e m.e (H.filterMap (stripI i)) x L (Fi i)
   else H=[]/\m.e.noOwn=true/\Ro P w A (.slc e) v cs
 | .ptr e,m,H,v,cs,F=>
   if hole H then ∃ x:Value,cs=[x]/\x.oneCell'=true
   else if m.own then ∃ b,cs=[.pointer (some ⟨b,0,none⟩)]/\OwnBlk w b (e.sz,false)/\∃ (L:List Value) (F1:FP),L.length=e.sz/\Has w b 0 L /\
    (∀ x i,rng b 0 e.sz x i+F1 x i<=F x i)/\Rep e m.e [] v L F1
   else H=[]/\m.e.noOwn=true/\Ro P w A (.ptr e) v cs
 | .int k,_,_,v,cs,_=>Ro P w A (.int k) v cs
 | .bool,_,_,v,cs,_=>Ro P w A .bool v cs
 | .str,_,_,v,cs,_=>Ro P w A .str v cs
 | .unit,_,_,v,cs,_=>Ro P w A .unit v cs
 | .arr n e,_,H,v,cs,_=>H=[]/\Ro P w A (.arr n e) v cs
 | .fn,_,_,v,cs,_=>Ro P w A .fn v cs
 | .map k v,m,H,x,cs,F=>
   if hole H then ∃ x:Value,cs=[x]/\x.oneCell'=true
   else if m.own then k.flat=true/\v.flat=true/\∃ (r:Nat) (kvs:List (Value×Value)),cs=[.map (some r)]/\ce w r 0=some (mapV kvs)/\1<=F r 0/\kvs.length=List.length x /\
    ∀ (i:Nat) (y:k.den×v.den),x[i]?=some y->∃ (kc vc:List Value),kvs[i]?=some (mkV k kc,mkV v vc)/\Ro P w A k y.1 kc/\Ro P w A v y.2 vc
   else H=[]/\m.e.noOwn=true/\Ro P w A (.map k v) x cs
end
theorem Ro.length {P:Program} {w:World} {A:Cells}:∀ (t:Ty) {v:t.den} {cs:List Value},Ro P w A t v cs->cs.length=t.sz:=by
 intro t
 induction t <;> grind [Ty.sz,Ro]
theorem Rep.length {P:Program} {w:World} {A:Cells}:∀ (t:Ty) {m:Md} {H:List Path} {v:t.den} {cs:List Value} {F:FP},Rep P w A t m H v cs F->cs.length=t.sz:=by
 intro t
 induction t <;> grind [Ty.sz,Rep,Ro.length]
structure Agr (w w':World) (S:Nat->Nat->Prop):Prop where
 cell:∀ b i,S b i->∀ u,ce w b i=some u->ce w' b i=some u
 blk:∀ b n,OwnBlk w b n->OwnBlk w' b n
theorem Ro.mono {P:Program} {w w':World} {A A':Cells} (hc:∀ b i,A b i->∀ u,ce w b i=some u->ce w' b i=some u) (hA:∀ b i,A b i->A' b i) :
  ∀ (t:Ty) {v:t.den} {cs:List Value},Ro P w A t v cs->Ro P w' A' t v cs:=by
 intro t
 induction t with
 | pair a b iha ihb=>intro v cs h;exact ⟨iha h.1,ihb h.2⟩
 | arr n e ih=>intro v cs h;exact ⟨h.1,h.2.1,h.2.2.1,fun i x hx=>ih (h.2.2.2 i x hx)⟩
 | slc e ih=>
  rintro v cs ⟨a,cap,h1,h2,h3,h4⟩
  refine ⟨a,cap,h1,h2,h3,fun ad had=>⟨(h4 ad had).1,fun i x hx=>?_⟩⟩
  grind
 | ptr e ih=>
  rintro v cs ⟨ad,h1,h2,L,hl,hL,hr⟩
  exact ⟨ad,h1,h2,L,hl,fun j u hu=>⟨hc _ _ (hL j u hu).2 u (hL j u hu).1,hA _ _ (hL j u hu).2⟩,ih hr⟩
 | fn=>
  rintro v cs ⟨caps,h1,fn,h2,h3⟩
  refine ⟨caps,h1,fn,h2,?_⟩
  grind
 | map k v ihk ihv=>
  rintro x cs ⟨h1,h2,r,kvs,h3,h4,h5,h6,h7⟩
  refine ⟨h1,h2,r,kvs,h3,hc _ _ h5 _ h4,hA _ _ h5,h6,fun i y hy=>?_⟩
  grind
 | _=>intro v cs h;exact h
theorem Rep.mono {P:Program} {w w':World} {A A':Cells} (hA:∀ b i,A b i->A' b i) (hc:∀ b i,A b i->∀ u,ce w b i=some u->ce w' b i=some u) (hb:∀ b n,OwnBlk w b n->OwnBlk w' b n) :
  ∀ (t:Ty) {m:Md} {H:List Path} {v:t.den} {cs:List Value} {F F':FP},Rep P w A t m H v cs F->(∀ b i,F b i<=F' b i)->(∀ b i,1<=F b i->∀ u,ce w b i=some u->ce w' b i=some u)->Rep P w' A' t m H v cs F':=by
 intro t
 induction t with
 | pair a b iha ihb=>
  intro m H v cs F F' h hF hc'
  obtain ⟨h0,F1,F2,hs,h1,h2⟩:=h
  exact ⟨h0,F1,F2,fun x i=>Nat.le_trans (hs x i) (hF x i),iha h1 (fun _ _=>Nat.le_refl _) (fun b i hp=>hc' b i (by grind)),
   ihb h2 (fun _ _=>Nat.le_refl _) (fun b i hp=>hc' b i (by grind))⟩
 | slc e ih=>
  intro m H v cs F F' h hF hc'
  simp only[Rep] at h ⊢
  split at h
  ·grind
  ·rename_i hh;rw[if_neg hh]
   split at h
   ·rename_i hm;rw[if_pos hm]
    obtain ⟨a,cap,h1,h2,h3,h4,h5⟩:=h
    refine ⟨a,cap,h1,h2,h3,h4,fun ad had=>?_⟩
    obtain ⟨g1,g2,g3,Fi,g4,g5⟩:=h5 ad had
    refine ⟨g1,g2,hb _ _ g3,Fi,fun x i=>Nat.le_trans (g4 x i) (hF x i),fun i x hx=>?_⟩
    obtain ⟨L,hl,hL,hr⟩:=g5 i x hx
    have hi:i < List.length v:=(List.getElem?_eq_some_iff.1 hx).1
    refine ⟨L,hl,fun j u hu=>hc' _ _ ?_ u (hL j u hu),ih hr (fun _ _=>Nat.le_refl _) (fun b k hp=>hc' b k ?_)⟩
    ·have:=g4 ad.block (i*e.sz+j)
     have hj:j < e.sz:=hl ▸ (List.getElem?_eq_some_iff.1 hu).1
     have:i*e.sz+j < cap*e.sz:=by
      have h1:(i+1)*e.sz<=cap*e.sz:=Nat.mul_le_mul_right _ (by omega)
      grind
     grind [rng]
    grind [le_sumF]
   grind [Ro.mono]
 | ptr e ih=>
  intro m H v cs F F' h hF hc'
  simp only[Rep] at h ⊢
  split at h
  ·grind
  ·rename_i hh;rw[if_neg hh]
   split at h
   ·rename_i hm;rw[if_pos hm]
    obtain ⟨b,h1,h2,L,F1,h3,h4,h5,h6⟩:=h
    refine ⟨b,h1,hb _ _ h2,L,F1,h3,fun j u hu=>hc' _ _ ?_ u (h4 j u hu),fun x i=>Nat.le_trans (h5 x i) (hF x i),ih h6 (fun _ _=>Nat.le_refl _) (fun b' k hp=>hc' b' k ?_)⟩
    all_goals grind [rng]
   grind [Ro.mono]
 | arr n e ih=>intro m H v cs F F' h hF hc';exact ⟨h.1,Ro.mono hc hA _ h.2⟩
 | map k v ihk ihv=>
  grind [Rep,Ro.mono]
 | _=>intro m H v cs F F' h hF hc';exact Ro.mono hc hA _ h
theorem Rep.le {P:Program} {w:World} {A:Cells} {t:Ty} {m:Md} {H:List Path} {v:t.den} {cs:List Value} {F F':FP} (h:Rep P w A t m H v cs F) (hF:∀ b i,F b i<=F' b i):Rep P w A t m H v cs F':=
 Rep.mono (fun _ _ h=>h) (fun _ _ _ _ h=>h) (fun _ _ h=>h) t h hF (fun _ _ _ _ h=>h)
theorem Rep.toRo {P:Program} {w:World} {A A':Cells} (hA:∀ b i,A b i->A' b i) :
  ∀ (t:Ty) {m:Md} {v:t.den} {cs:List Value} {F:FP},Rep P w A t m [] v cs F->(∀ b i,1<=F b i->A' b i)->Ro P w A' t v cs:=by
 intro t
 induction t with
 | pair a b iha ihb=>
  intro m v cs F h hF
  obtain ⟨h0,F1,F2,hs,h1,h2⟩:=h
  exact ⟨iha h1 (fun b i hp=>hF b i (by grind)),ihb h2 (fun b i hp=>hF b i (by grind))⟩
 | slc e ih=>
  intro m v cs F h hF
  simp only[Rep,hole,List.any_nil,Bool.false_eq_true,if_false] at h
  split at h
  ·obtain ⟨a,cap,h1,h2,h3,h4,h5⟩:=h
   refine ⟨a,cap,h1,h2,fun hn=>by grind,fun ad had=>?_⟩
   obtain ⟨g1,g2,g3,Fi,g4,g5⟩:=h5 ad had
   refine ⟨fun _=>g2,fun i x hx=>?_⟩
   obtain ⟨L,hl,hL,hr⟩:=g5 i x hx
   have hi:i < List.length v:=(List.getElem?_eq_some_iff.1 hx).1
   refine ⟨L,hl,fun j u hu=>?_,ih hr fun b k hp=>hF b k ?_⟩
   ·rw[g1,Nat.zero_add]
    refine ⟨hL j u hu,hF _ _ ?_⟩
    have:=g4 ad.block (i*e.sz+j)
    have hj:j < e.sz:=hl ▸ (List.getElem?_eq_some_iff.1 hu).1
    have:i*e.sz+j < cap*e.sz:=by
     have h1:(i+1)*e.sz<=cap*e.sz:=Nat.mul_le_mul_right _ (by omega)
     grind
    grind [rng]
   grind [le_sumF]
  grind [Ro.mono]
 | ptr e ih=>
  intro m v cs F h hF
  simp only[Rep,hole,List.any_nil,Bool.false_eq_true,if_false] at h
  split at h
  ·obtain ⟨b,h1,h2,L,F1,h3,h4,h5,h6⟩:=h
   refine ⟨_,h1,rfl,L,h3,fun j u hu=>⟨h4 j u hu,hF _ _ ?_⟩,ih h6 fun b' k hp=>hF _ _ ?_⟩
   all_goals grind [rng]
  grind [Ro.mono]
 | arr n e ih=>intro m v cs F h hF;exact Ro.mono (fun _ _ _ _ h=>h) hA _ h.2
 | map k v ihk ihv=>
  intro m x cs F h hF
  simp only[Rep,hole,List.any_nil,Bool.false_eq_true,if_false] at h
  split at h
  ·obtain ⟨h1,h2,r,kvs,h3,h4,h5,h6,h7⟩:=h
   refine ⟨h1,h2,r,kvs,h3,h4,hF _ _ h5,h6,fun i y hy=>?_⟩
   grind [Ro.mono]
  grind [Ro.mono]
 | _=>intro m v cs F h hF;exact Ro.mono (fun _ _ _ _ h=>h) hA _ h
end OT
set_option linter.unusedVariables false
set_option linter.unusedSimpArgs false
namespace OT
open Go
theorem noOwn_l {m:Md} (h:m.noOwn=true):m.l.noOwn=true:=by cases m <;> simp_all [Md.noOwn,Md.l]
theorem noOwn_r {m:Md} (h:m.noOwn=true):m.r.noOwn=true:=by cases m <;> simp_all [Md.noOwn,Md.r]
theorem noOwn_e {m:Md} (h:m.noOwn=true):m.e.noOwn=true:=by cases m <;> simp_all [Md.noOwn,Md.e]
theorem noOwn_own {m:Md} (h:m.noOwn=true):m.own=false:=by cases m <;> simp_all [Md.noOwn,Md.own]
theorem roMd_noOwn (t:Ty):(roMd t).noOwn=true:=by
 induction t <;> simp_all [roMd,mdOf,Md.noOwn]
theorem fits_l {m m1:Md} (h:fits m m1=true):fits m.l m1.l=true:=by cases m <;> cases m1 <;> simp_all [fits,Md.l]
theorem fits_r {m m1:Md} (h:fits m m1=true):fits m.r m1.r=true:=by cases m <;> cases m1 <;> simp_all [fits,Md.r]
theorem fits_e {m m1:Md} (h:fits m m1=true):fits m.e m1.e=true:=by cases m <;> cases m1 <;> simp_all [fits,Md.e]
theorem fits_own {m m1:Md} (h:fits m m1=true):m1.own=true->m.own=true:=by
 intro h1;cases m <;> cases m1 <;> simp_all [fits,Md.own]
theorem fits_no {m m1:Md} (h:fits m m1=true) (h1:m1.own=false):m1.e.noOwn=true\/∃ e,m1=.arr e:=by
 cases m <;> cases m1 <;> simp_all [fits,Md.own,Md.e,Md.noOwn]
theorem fits_noOwn:∀ {m m1:Md},fits m m1=true->m.noOwn=true->m1.noOwn=true:=by
 intro m
 induction m with
 | leaf=>grind [fits]
 | pair a b iha ihb=>
  intro m1 h hn
  cases m1 <;> grind [fits,Md.noOwn]
 | arr e ih=>
  intro m1 h hn
  cases m1 <;> grind [fits,Md.noOwn]
 | slc o e ih=>
  intro m1 h hn
  cases m1 <;> grind [fits,Md.noOwn]
 | ptr o e ih=>
  intro m1 h hn
  cases m1 <;> grind [fits,Md.noOwn]
section
variable {P:Program} {w:World} {A:Cells}
theorem Ro.rep:∀ (t:Ty) {m:Md} {v:t.den} {cs:List Value} (F:FP),m.noOwn=true->Ro P w A t v cs->Rep P w A t m [] v cs F:=by
 intro t
 induction t with
 | pair a b iha ihb=>
  intro m v cs F hm h
  exact ⟨rfl,fun _ _=>0,fun _ _=>0,fun _ _=>Nat.zero_le _,iha _ (noOwn_l hm) h.1,ihb _ (noOwn_r hm) h.2⟩
 | slc e ih=>grind [Rep,hole,noOwn_own,noOwn_e]
 | ptr e ih=>grind [Rep,hole,noOwn_own,noOwn_e]
 | arr n e ih=>intro m v cs F hm h;exact ⟨rfl,h⟩
 | map k v=>grind [Rep,hole,noOwn_own,noOwn_e]
 | _=>intro m v cs F hm h;exact h
theorem Rep.ro:∀ (t:Ty) {m:Md} {v:t.den} {cs:List Value} {F:FP},m.noOwn=true->Rep P w A t m [] v cs F->Ro P w A t v cs:=by
 intro t
 induction t with
 | pair a b iha ihb=>
  intro m v cs F hm h
  obtain ⟨_,F1,F2,_,h1,h2⟩:=h
  exact ⟨iha (noOwn_l hm) h1,ihb (noOwn_r hm) h2⟩
 | slc e ih=>grind [Rep,hole,noOwn_own]
 | ptr e ih=>grind [Rep,hole,noOwn_own]
 | arr n e ih=>intro m v cs F hm h;exact h.2
 | map k v=>grind [Rep,hole,noOwn_own]
 | _=>intro m v cs F hm h;exact h
theorem Ro.flat:∀ (t:Ty) {m:Md} {v:t.den} {cs:List Value} (F:FP),t.flat=true->Ro P w A t v cs->Rep P w A t m [] v cs F:=by
 intro t
 induction t with
 | pair a b iha ihb=>
  intro m v cs F hm h
  simp only[Ty.flat,Bool.and_eq_true] at hm
  exact ⟨rfl,fun _ _=>0,fun _ _=>0,fun _ _=>Nat.zero_le _,iha _ hm.1 h.1,ihb _ hm.2 h.2⟩
 | slc e ih=>grind [Ty.flat]
 | ptr e ih=>grind [Ty.flat]
 | arr n e ih=>intro m v cs F hm h;exact ⟨rfl,h⟩
 | map k v=>grind [Ty.flat]
 | _=>intro m v cs F hm h;exact h
theorem Rep.flat:∀ (t:Ty) {m:Md} {H:List Path} {v:t.den} {cs:List Value} {F:FP},t.flat=true->Rep P w A t m H v cs F->Ro P w A t v cs:=by
 intro t
 induction t with
 | pair a b iha ihb=>
  intro m H v cs F hm h
  simp only[Ty.flat,Bool.and_eq_true] at hm
  obtain ⟨_,F1,F2,_,h1,h2⟩:=h
  exact ⟨iha hm.1 h1,ihb hm.2 h2⟩
 | slc e ih=>grind [Ty.flat]
 | ptr e ih=>grind [Ty.flat]
 | arr n e ih=>intro m H v cs F hm h;exact h.2
 | map k v=>grind [Ty.flat]
 | _=>intro m H v cs F hm h;exact h
theorem Rep.fits:∀ (t:Ty) {m m1:Md} {v:t.den} {cs:List Value} {F:FP},fits m m1=true->Rep P w A t m [] v cs F->(∀ b i,F b i<=1) ->
  ∃ F1:FP,(∀ b i,F1 b i<=F b i)/\∀ A':Cells,(∀ b i,A b i->A' b i)->(∀ b i,1<=F b i->F1 b i=0->A' b i)->Rep P w A' t m1 [] v cs F1:=by
 intro t
 induction t with
 | pair a b iha ihb=>
  intro m m1 v cs F hf h hF
  obtain ⟨_,Fa,Fb,hs,h1,h2⟩:=h
  obtain ⟨G1,hG1,k1⟩:=iha (fits_l hf) h1 (fun b i=>by grind)
  obtain ⟨G2,hG2,k2⟩:=ihb (fits_r hf) h2 (fun b i=>by grind)
  refine ⟨fun b i=>G1 b i+G2 b i,fun b i=>by grind,fun A' hA hfr=>⟨rfl,G1,G2,fun _ _=>Nat.le_refl _,k1 A' hA fun b i hp hz=>?_,k2 A' hA fun b i hp hz=>?_⟩⟩
  ·have:=hs b i;have:=hF b i;have:=hG2 b i
   exact hfr b i (by omega) (by grind)
  ·have:=hs b i;have:=hF b i;have:=hG1 b i
   exact hfr b i (by omega) (by grind)
 | slc e ih=>
  intro m m1 v cs F hf h hF
  by_cases hm1:m1.own=true
  ·have hm:=fits_own hf hm1
   simp only[Rep,hole,List.any_nil,Bool.false_eq_true,if_false,hm,if_true] at h
   obtain ⟨a,cap,h1,h2,h3,h4,h5⟩:=h
   cases a with
   | none=>
    refine ⟨fun _ _=>0,fun _ _=>Nat.zero_le _,fun A' hA hfr=>?_⟩
    grind [Rep,hole]
   | some ad=>
    obtain ⟨g1,g2,g3,Fi,g4,g5⟩:=h5 ad rfl
    have each:∀ i,∃ Gi:FP,(∀ b k,Gi b k<=Fi i b k)/\∀ A':Cells,(∀ b i,A b i->A' b i)->(∀ b k,1<=Fi i b k->Gi b k=0->A' b k) ->
      ∀ x,v[i]?=some x->∃ L:List Value,L.length=e.sz/\Has w ad.block (i*e.sz) L/\Rep P w A' e m1.e (([]:List Path).filterMap (stripI i)) x L Gi:=by
     intro i
     cases hx:(v:List e.den)[i]? with
     | none=>exact ⟨fun _ _=>0,fun _ _=>Nat.zero_le _,fun A' _ _ x hx'=>by cases hx'⟩
     | some x=>
      obtain ⟨L,hl,hL,hr⟩:=g5 i x hx
      have hi:i < List.length v:=(List.getElem?_eq_some_iff.1 hx).1
      obtain ⟨G,hG,k⟩:=ih (fits_e hf) hr (fun b k=>by have:=le_sumF Fi hi b k;grind)
      exact ⟨G,hG,fun A' hA hfr x' hx'=>by injection hx' with hx';subst hx';exact ⟨L,hl,hL,k A' hA hfr⟩⟩
    have ⟨Gi,hGi⟩:=Classical.axiomOfChoice each
    refine ⟨fun b k=>rng ad.block 0 (cap*e.sz) b k+sumF (List.length v) Gi b k,fun b k=>?_,fun A' hA hfr=>?_⟩
    ·have:=g4 b k;have:=sumF_le b k (f:=Gi) (g:=Fi) (n:=List.length v) fun j _=>(hGi j).1 b k
     grind
    ·simp only[Rep,hole,List.any_nil,Bool.false_eq_true,if_false,hm1,if_true]
     refine ⟨some ad,cap,h1,h2,h3,h4,fun ad' had'=>?_⟩
     injection had' with had';subst had'
     refine ⟨g1,g2,g3,Gi,fun _ _=>Nat.le_refl _,fun i x hx=>(hGi i).2 A' hA (fun b k hp hz=>?_) x hx⟩
     have hi:i < List.length v:=(List.getElem?_eq_some_iff.1 hx).1
     have h1:=g4 b k;have h2:=hF b k;have h3:=le_sumF Fi hi b k
     refine hfr b k (by omega) ?_
     show rng ad.block 0 (cap*e.sz) b k+sumF (List.length v) Gi b k=0
     have:sumF (List.length v) Gi b k=0:=by
      rcases Nat.eq_zero_or_pos (sumF (List.length v) Gi b k) with h0 | h0
      ·exact h0
      ·obtain ⟨j,hj,hp'⟩:=sumF_pos h0
       have:=(hGi j).1 b k
       by_cases hji:j=i
       all_goals grind [le_sumF2]
     omega
  ·have hm1':m1.own=false:=by simpa using hm1
   have hno:m1.e.noOwn=true:=by
    rcases fits_no hf hm1' with h | ⟨e',rfl⟩
    ·exact h
    ·cases m <;> simp[OT.fits] at hf
     simp only[Rep,hole,List.any_nil,Bool.false_eq_true,if_false,Md.own] at h
     exact fits_noOwn hf h.2.1
   refine ⟨fun _ _=>0,fun _ _=>Nat.zero_le _,fun A' hA hfr=>?_⟩
   grind [Rep.toRo,Rep]
 | ptr e ih=>
  intro m m1 v cs F hf h hF
  by_cases hm1:m1.own=true
  ·have hm:=fits_own hf hm1
   simp only[Rep,hole,List.any_nil,Bool.false_eq_true,if_false,hm,if_true] at h
   obtain ⟨b,h1,h2,L,F1,h3,h4,h5,h6⟩:=h
   obtain ⟨G,hG,k⟩:=ih (fits_e hf) h6 (fun b' i=>by grind)
   refine ⟨fun b' k=>rng b 0 e.sz b' k+G b' k,fun b' k=>by grind,fun A' hA hfr=>?_⟩
   simp only[Rep,hole,List.any_nil,Bool.false_eq_true,if_false,hm1,if_true]
   refine ⟨b,h1,h2,L,G,h3,h4,fun _ _=>Nat.le_refl _,k A' hA fun b' i hp hz=>hfr b' i ?_ ?_⟩
   all_goals grind
  ·have hm1':m1.own=false:=by simpa using hm1
   have hno:m1.e.noOwn=true:=by
    rcases fits_no hf hm1' with h | ⟨e',rfl⟩
    ·exact h
    ·cases m <;> simp[OT.fits] at hf
     simp only[Rep,hole,List.any_nil,Bool.false_eq_true,if_false,Md.own] at h
     exact fits_noOwn hf h.2.1
   refine ⟨fun _ _=>0,fun _ _=>Nat.zero_le _,fun A' hA hfr=>?_⟩
   grind [Rep.toRo,Rep]
 | arr n e ih=>intro m m1 v cs F hf h hF;exact ⟨fun _ _=>0,fun _ _=>Nat.zero_le _,fun A' hA hfr=>⟨rfl,Ro.mono (fun _ _ _ _ h=>h) hA _ h.2⟩⟩
 | map k v ihk ihv=>
  intro m m1 x cs F hf h hF
  by_cases hm1:m1.own=true
  ·have hm:=fits_own hf hm1
   simp only[Rep,hole,List.any_nil,Bool.false_eq_true,if_false,hm,if_true] at h
   obtain ⟨h1,h2,r,kvs,h3,h4,h5,h6,h7⟩:=h
   refine ⟨F,fun _ _=>Nat.le_refl _,fun A' hA hfr=>?_⟩
   grind [Rep,hole,Ro.mono]
  ·have hm1':m1.own=false:=by simpa using hm1
   have hno:m1.e.noOwn=true:=by
    rcases fits_no hf hm1' with h | ⟨e',rfl⟩
    ·exact h
    ·cases m <;> simp[OT.fits] at hf
     simp only[Rep,hole,List.any_nil,Bool.false_eq_true,if_false,Md.own] at h
     exact fits_noOwn hf h.2.1
   refine ⟨fun _ _=>0,fun _ _=>Nat.zero_le _,fun A' hA hfr=>?_⟩
   grind [Rep.toRo,Rep]
 | _=>intro m m1 v cs F hf h hF;exact ⟨fun _ _=>0,fun _ _=>Nat.zero_le _,fun A' hA hfr=>Ro.mono (fun _ _ _ _ h=>h) hA _ h⟩
end
end OT
set_option linter.unusedVariables false
set_option linter.unusedSimpArgs false
namespace OT
open Go
def rd (w:World) (b o n:Nat):List Value:=(List.range n).map fun j=>(ce w b (o+j)).getD undef
theorem rd_length (w:World) (b o n:Nat):(rd w b o n).length=n:=by simp[rd]
theorem rd_of_has {w:World} {b o:Nat} {L:List Value} {n:Nat} (h:Has w b o L) (hn:L.length=n):rd w b o n=L:=by
 subst hn
 apply List.ext_getElem?
 intro j
 unfold rd
 rw[List.getElem?_map]
 by_cases hj:j < L.length
 ·rw[List.getElem?_range hj]
  have:=h j L[j] (List.getElem?_eq_getElem hj)
  grind
 grind
structure Pl where
 t:Ty
 H:List Path
 cs:List Value
 ad:Option (Nat×Nat)
def shiftA (ad:Option (Nat×Nat)) (k:Nat):Option (Nat×Nat):=ad.map fun x=>(x.1,x.2+k)
def plc (w:World):Path->Ty->List Path->List Value->Option (Nat×Nat)->Option Pl
 | [],t,H,cs,ad=>some ⟨t,H,cs,ad⟩
 | .fst::p,.pair a _,H,cs,ad=>if hole H then none else plc w p a (H.filterMap stripF) (cs.take a.sz) ad
 | .snd::p,.pair a b,H,cs,ad=>if hole H then none else plc w p b (H.filterMap stripS) (cs.drop a.sz) (shiftA ad a.sz)
 | .idx i::p,.slc e,H,cs,_=>if hole H then none else match cs with
  | [.slice (some a) n _]=>if i < n then plc w p e (H.filterMap (stripI i)) (rd w a.block (a.off+i*e.sz) e.sz) (some (a.block,a.off+i*e.sz)) else none
  | _=>none
 | .aix i::p,.arr n e,H,cs,ad=>if H.isEmpty then (if i < n then plc w p e [] ((cs.drop (i*e.sz)).take e.sz) (shiftA ad (i*e.sz)) else none) else none
 | _,_,_,_,_=>none
def isSlc:Ty->Bool
 | .slc _ | .map _ _=>true
 | _=>false
def Stab (d:Nat) (full:Prop) (w:World) (t:Ty) (H:List Path) (cs:List Value) (ad:Option (Nat×Nat)) (w2:World) (H2:List Path) (cs2:List Value):Prop:=
 ∀ q pl,nidx q<=d->plc w q t H cs ad=some pl->∃ H' cs',plc w2 q t H2 cs2 ad=some ⟨pl.t,H',cs',pl.ad⟩/\((nidx q < d/\isSlc pl.t=true)\/full->cs'=pl.cs)
theorem holeAtK_some {R:Type} {H:List Path} {i:Nat} {K:List Path->Option R} {r:R} (h:holeAtK H i K=some r) :
  K (H.filterMap (stripI i))=some r/\(∀ j,j≠i->H.filterMap (stripI j)=[])/\hole H=false:=by
 unfold holeAtK at h
 split at h
 ·exact ⟨h,fun _ _=>rfl,rfl⟩
 ·rename_i j q
  split at h
  ·rename_i hij;subst hij
   refine ⟨by simpa [stripI] using h,fun j hj=>by simp[stripI,hj],rfl⟩
  ·cases h
 ·cases h
theorem holeAtK_eq {R S:Type} {H:List Path} {i:Nat} {K:List Path->Option R} {r:R} (h:holeAtK H i K=some r) (K2:List Path->Option S) :
  holeAtK H i K2=K2 (H.filterMap (stripI i)):=by
 unfold holeAtK at h ⊢
 grind [stripI]
theorem strip_map_fst (H:List Path):(H.map (.fst::·)).filterMap stripF=H:=by
 induction H <;> simp_all [stripF]
theorem strip_map_snd (H:List Path):(H.map (.snd::·)).filterMap stripS=H:=by
 induction H <;> simp_all [stripS]
theorem strip_map_fs (H:List Path):(H.map (.snd::·)).filterMap stripF=[]:=by
 simp_all [stripF]
theorem strip_map_sf (H:List Path):(H.map (.fst::·)).filterMap stripS=[]:=by
 simp_all [stripS]
theorem strip_map_idx (i:Nat) (H:List Path):(H.map (.idx i::·)).filterMap (stripI i)=H:=by
 induction H <;> simp_all [stripI]
theorem strip_map_idx_ne {i j:Nat} (h:j≠i) (H:List Path):(H.map (.idx i::·)).filterMap (stripI j)=[]:=by
 simp_all [stripI]
theorem hole_map (s:Step) (H:List Path):hole (H.map (s::·))=false:=by
 grind [hole]
theorem hole_append (H1 H2:List Path):hole (H1++H2)=(hole H1||hole H2):=by simp[hole]
theorem plc_H {w:World}:∀ (q:Path) (t:Ty) {H H2:List Path} {cs:List Value} {ad:Option (Nat×Nat)} {pl pl2:Pl},plc w q t H cs ad=some pl->plc w q t H2 cs ad=some pl2->pl2.t=pl.t/\pl2.cs=pl.cs/\pl2.ad=pl.ad:=by
 intro q
 induction q with
 | nil=>grind [plc]
 | cons s q ih=>
  intro t H H2 cs ad pl pl2 h h2
  cases t with
  | pair a b=>
   cases s <;> grind [plc]
  | slc e=>
   cases s with
   | idx i=>
    simp only[plc] at h h2
    grind
   | _=>simp[plc] at h
  | arr n e=>
   cases s <;> grind [plc]
  | _=>grind [plc]
section
variable {P:Program}
theorem plc_frame {w w2:World} {A:Cells} (hA:∀ b i,A b i->∀ u,ce w b i=some u->ce w2 b i=some u) :
  ∀ (q:Path) (t:Ty) {m:Md} {H:List Path} {v:t.den} {cs:List Value} {F:FP} {ad:Option (Nat×Nat)} {pl:Pl},Rep P w A t m H v cs F->(∀ b i,1<=F b i->∀ u,ce w b i=some u->ce w2 b i=some u) ->
  plc w q t H cs ad=some pl->plc w2 q t H cs ad=some pl:=by
 intro q
 induction q with
 | nil=>intro t m H v cs F ad pl _ _ h;exact h
 | cons s q ih=>
  intro t m H v cs F ad pl hr hF h
  cases t with
  | pair a b=>
   obtain ⟨h0,F1,F2,hs,h1,h2⟩:=hr
   cases s <;> grind [plc]
  | slc e=>
   cases s with
   | fst=>simp[plc] at h
   | snd=>simp[plc] at h
   | aix i=>simp[plc] at h
   | idx i=>
    simp only[Rep] at hr
    simp only[plc] at h ⊢
    split at h
    ·cases h
    ·rename_i hh
     rw[if_neg hh]
     rw[if_neg hh] at hr
     split at hr
     ·obtain ⟨a,cap,rfl,h2,h3,h4,h5⟩:=hr
      cases a with
      | none=>cases h
      | some ad0=>
       obtain ⟨g1,g2,g3,Fi,g4,g5⟩:=h5 ad0 rfl
       simp only at h ⊢
       split at h
       ·rename_i hi
        rw[if_pos hi]
        obtain ⟨L,hl,hL,hrep⟩:=g5 i _ (List.getElem?_eq_getElem hi)
        have hlt:(i+1)*e.sz<=cap*e.sz:=Nat.mul_le_mul_right _ (by omega)
        rw[Nat.add_mul] at hlt
        have hL2:Has w2 ad0.block (i*e.sz) L:=fun j u hu=>by
         have hj:j < e.sz:=hl ▸ (List.getElem?_eq_some_iff.1 hu).1
         refine hF _ _ ?_ u (hL j u hu)
         grind [rng]
        rw[g1,Nat.zero_add,rd_of_has hL hl] at h
        grind [rd_of_has,le_sumF]
       ·cases h
     ·obtain ⟨rfl,hno,a,cap,rfl,h2,h3,h4⟩:=hr
      cases a with
      | none=>cases h
      | some ad0=>
       simp only at h ⊢
       split at h
       ·rename_i hi
        rw[if_pos hi]
        obtain ⟨L,hl,hL,hrep⟩:=(h4 ad0 rfl).2 i _ (List.getElem?_eq_getElem hi)
        rw[rd_of_has (fun j u hu=>(hL j u hu).1) hl] at h
        rw[rd_of_has (fun j u hu=>hA _ _ (hL j u hu).2 u (hL j u hu).1) hl]
        exact ih e (Ro.rep e (fun _ _=>0) hno hrep) (fun b k hp=>by simp at hp) h
       ·cases h
  | arr n e=>
   cases s with
   | fst=>simp[plc] at h
   | snd=>simp[plc] at h
   | idx i=>simp[plc] at h
   | aix i=>
    obtain ⟨rfl,hf,hl,hlen,hr⟩:=hr
    simp only[plc,List.isEmpty_nil,if_true] at h ⊢
    split at h
    ·rename_i hi
     rw[if_pos hi]
     exact ih e (Ro.flat e (m:=.leaf) (fun _ _=>0) hf (hr i _ (List.getElem?_eq_getElem (by grind)))) (fun b k hp=>by simp at hp) h
    ·cases h
  | _=>grind [plc]
theorem plc_cells {w:World} {A:Cells} {S:Nat->Nat->Prop} (hA:∀ b i,A b i->S b i) :
  ∀ (q:Path) (t:Ty) {m:Md} {H:List Path} {v:t.den} {cs:List Value} {F:FP} {ad:Option (Nat×Nat)} {pl:Pl},Rep P w A t m H v cs F->(∀ b i,1<=F b i->S b i) ->
  (∀ b o,ad=some (b,o)->∀ j,j < t.sz->S b (o+j))->plc w q t H cs ad=some pl->∀ b o,pl.ad=some (b,o)->∀ j,j < pl.t.sz->S b (o+j):=by
 intro q
 induction q with
 | nil=>grind [plc]
 | cons s q ih=>
  intro t m H v cs F ad pl hr hF had h
  cases t with
  | pair a b=>
   obtain ⟨h0,F1,F2,hs,h1,h2⟩:=hr
   cases s with
   | fst=>grind [plc,Ty.sz]
   | snd=>
    simp only[plc,h0,if_false] at h
    refine ih b h2 (fun b i hp=>hF b i (by grind)) (fun b' o e j hj=>?_) h
    cases ad with
    | none=>cases e
    | some y=>
     simp only[shiftA,Option.map_some,Option.some.injEq,Prod.mk.injEq] at e
     obtain ⟨rfl,rfl⟩:=e
     grind [Ty.sz]
   | idx i=>simp[plc] at h
   | aix i=>simp[plc] at h
  | slc e=>
   cases s with
   | fst=>simp[plc] at h
   | snd=>simp[plc] at h
   | aix i=>simp[plc] at h
   | idx i=>
    simp only[Rep] at hr
    simp only[plc] at h
    split at h
    ·cases h
    ·rename_i hh
     rw[if_neg hh] at hr
     split at hr
     ·obtain ⟨a,cap,rfl,h2,h3,h4,h5⟩:=hr
      cases a with
      | none=>cases h
      | some ad0=>
       obtain ⟨g1,g2,g3,Fi,g4,g5⟩:=h5 ad0 rfl
       simp only at h
       split at h
       ·rename_i hi
        obtain ⟨L,hl,hL,hrep⟩:=g5 i _ (List.getElem?_eq_getElem hi)
        have hlt:(i+1)*e.sz<=cap*e.sz:=Nat.mul_le_mul_right _ (by omega)
        rw[Nat.add_mul] at hlt
        rw[g1,Nat.zero_add,rd_of_has hL hl] at h
        grind [le_sumF,rng]
       ·cases h
     ·obtain ⟨rfl,hno,a,cap,rfl,h2,h3,h4⟩:=hr
      cases a with
      | none=>cases h
      | some ad0=>
       simp only at h
       split at h
       ·rename_i hi
        obtain ⟨L,hl,hL,hrep⟩:=(h4 ad0 rfl).2 i _ (List.getElem?_eq_getElem hi)
        rw[rd_of_has (fun j u hu=>(hL j u hu).1) hl] at h
        refine ih e (Ro.rep e (fun _ _=>0) hno hrep) (fun b k hp=>by simp at hp) (fun b' o e' j hj=>?_) h
        simp only[Option.some.injEq,Prod.mk.injEq] at e'
        obtain ⟨rfl,rfl⟩:=e'
        exact hA _ _ (hL j _ (List.getElem?_eq_getElem (by omega))).2
       ·cases h
  | arr n e=>
   cases s with
   | fst=>simp[plc] at h
   | snd=>simp[plc] at h
   | idx i=>simp[plc] at h
   | aix i=>
    obtain ⟨rfl,hf,hl,hlen,hr⟩:=hr
    simp only[plc,List.isEmpty_nil,if_true] at h
    split at h
    ·rename_i hi
     refine ih e (Ro.flat e (m:=.leaf) (fun _ _=>0) hf (hr i _ (List.getElem?_eq_getElem (by grind)))) (fun b k hp=>by simp at hp) (fun b' o e' j hj=>?_) h
     cases ad with
     | none=>cases e'
     | some y=>
      simp only[shiftA,Option.map_some,Option.some.injEq,Prod.mk.injEq] at e'
      obtain ⟨rfl,rfl⟩:=e'
      have hlt:(i+1)*e.sz<=n*e.sz:=Nat.mul_le_mul_right _ hi
      rw[Nat.add_mul] at hlt
      have:=had y.1 y.2 rfl (i*e.sz+j) (by grind [Ty.sz])
      rwa [Nat.add_assoc]
    ·cases h
  | _=>grind [plc]
theorem plc_has {w:World} {A:Cells} :
  ∀ (q:Path) (t:Ty) {m:Md} {H:List Path} {v:t.den} {cs:List Value} {F:FP} {ad:Option (Nat×Nat)} {pl:Pl},Rep P w A t m H v cs F ->
  (∀ b o,ad=some (b,o)->Has w b o cs)->plc w q t H cs ad=some pl->(∀ b o,pl.ad=some (b,o)->Has w b o pl.cs)/\∃ (m':Md) (v':pl.t.den) (F':FP),Rep P w A pl.t m' pl.H v' pl.cs F':=by
 intro q
 induction q with
 | nil=>grind [plc]
 | cons s q ih=>
  intro t m H v cs F ad pl hr had h
  cases t with
  | pair a b=>
   obtain ⟨h0,F1,F2,hs,h1,h2⟩:=hr
   cases s with
   | fst=>
    simp only[plc,h0,if_false] at h
    exact ih a h1 (fun b' o e j u hu=>had b' o e j u (by grind)) h
   | snd=>
    simp only[plc,h0,if_false] at h
    refine ih b h2 (fun b' o e j u hu=>?_) h
    cases ad with
    | none=>cases e
    | some y=>
     simp only[shiftA,Option.map_some,Option.some.injEq,Prod.mk.injEq] at e
     obtain ⟨rfl,rfl⟩:=e
     rw[List.getElem?_drop] at hu
     have:=had y.1 y.2 rfl (a.sz+j) u hu
     rwa [Nat.add_assoc]
   | idx i=>simp[plc] at h
   | aix i=>simp[plc] at h
  | slc e=>
   cases s with
   | fst=>simp[plc] at h
   | snd=>simp[plc] at h
   | aix i=>simp[plc] at h
   | idx i=>
    simp only[Rep] at hr
    simp only[plc] at h
    split at h
    ·cases h
    ·rename_i hh
     rw[if_neg hh] at hr
     split at hr
     ·obtain ⟨a,cap,rfl,h2,h3,h4,h5⟩:=hr
      cases a with
      | none=>cases h
      | some ad0=>
       obtain ⟨g1,g2,g3,Fi,g4,g5⟩:=h5 ad0 rfl
       simp only at h
       split at h
       ·rename_i hi
        obtain ⟨L,hl,hL,hrep⟩:=g5 i _ (List.getElem?_eq_getElem hi)
        grind [rd_of_has]
       ·cases h
     ·obtain ⟨rfl,hno,a,cap,rfl,h2,h3,h4⟩:=hr
      cases a with
      | none=>cases h
      | some ad0=>
       simp only at h
       split at h
       ·rename_i hi
        obtain ⟨L,hl,hL,hrep⟩:=(h4 ad0 rfl).2 i _ (List.getElem?_eq_getElem hi)
        rw[rd_of_has (fun j u hu=>(hL j u hu).1) hl] at h
        refine ih e (Ro.rep e (fun _ _=>0) hno hrep) (fun b' o e'=>?_) h
        simp only[Option.some.injEq,Prod.mk.injEq] at e'
        obtain ⟨rfl,rfl⟩:=e'
        exact fun j u hu=>(hL j u hu).1
       ·cases h
  | arr n e=>
   cases s with
   | fst=>simp[plc] at h
   | snd=>simp[plc] at h
   | idx i=>simp[plc] at h
   | aix i=>
    obtain ⟨rfl,hf,hl,hlen,hr⟩:=hr
    simp only[plc,List.isEmpty_nil,if_true] at h
    split at h
    ·rename_i hi
     refine ih e (Ro.flat e (m:=.leaf) (fun _ _=>0) hf (hr i _ (List.getElem?_eq_getElem (by grind)))) (fun b' o e' j u hu=>?_) h
     cases ad with
     | none=>cases e'
     | some y=>
      simp only[shiftA,Option.map_some,Option.some.injEq,Prod.mk.injEq] at e'
      obtain ⟨rfl,rfl⟩:=e'
      rw[List.getElem?_take] at hu
      split at hu
      ·rw[List.getElem?_drop] at hu
       have:=had y.1 y.2 rfl (i*e.sz+j) u hu
       rwa [Nat.add_assoc]
      ·cases hu
    ·cases h
  | _=>grind [plc]
theorem plc_typed {w w2:World} {A A2:Cells} :
  ∀ (q:Path) (t:Ty) {m m2:Md} {H H2:List Path} {v v2:t.den} {cs cs2:List Value} {F F2:FP} {ad:Option (Nat×Nat)} {pl:Pl},
  Rep P w2 A2 t m2 H2 v2 cs2 F2->(nidx q=0\/t.flat=true) ->
  plc w q t H cs ad=some pl->∃ H' cs',plc w2 q t H2 cs2 ad=some ⟨pl.t,H',cs',pl.ad⟩/\(t.flat=true->isSlc pl.t=false):=by
 intro q
 induction q with
 | nil=>
  intro t m m2 H H2 v v2 cs cs2 F F2 ad pl hr hq h
  simp only[plc,Option.some.injEq] at h
  subst h
  exact ⟨_,_,rfl,fun hf=>by cases t <;> simp_all [Ty.flat,isSlc]⟩
 | cons s q ih=>
  intro t m m2 H H2 v v2 cs cs2 F F2 ad pl hr hq h
  cases t with
  | pair a b=>
   obtain ⟨h0,F1,F2,hs,h1,h2⟩:=hr
   simp only[Ty.flat,Bool.and_eq_true] at hq ⊢
   cases s with
   | fst=>
    simp only[plc,h0,if_false] at h ⊢
    split at h
    ·cases h
    ·obtain ⟨H',cs',h3,h4⟩:=ih a (v:=v.1) (m:=.leaf) (F:=F) h1 (hq.imp (fun h=>by simpa [nidx] using h) (·.1)) h
     grind
   | snd=>
    simp only[plc,h0,if_false] at h ⊢
    split at h
    ·cases h
    ·obtain ⟨H',cs',h3,h4⟩:=ih b (v:=v.2) (m:=.leaf) (F:=F) h2 (hq.imp (fun h=>by simpa [nidx] using h) (·.2)) h
     grind
   | idx i=>simp[plc] at h
   | aix i=>simp[plc] at h
  | slc e=>
   cases s <;> grind [plc,nidx,Ty.flat]
  | arr n e=>
   cases s with
   | fst=>simp[plc] at h
   | snd=>simp[plc] at h
   | idx i=>simp[plc] at h
   | aix i=>
    obtain ⟨rfl,hf,hl,hlen,hr⟩:=hr
    simp only[plc,List.isEmpty_nil,if_true] at h ⊢
    split at h
    ·split at h
     ·rename_i hi
      rw[if_pos hi]
      obtain ⟨H',cs',h3,h4⟩:=ih e (v:=e.zero) (m:=.leaf) (F:=F) (Ro.flat e (m:=.leaf) (fun _ _=>0) hf (hr i _ (List.getElem?_eq_getElem (by grind)))) (.inr hf) h
      grind
     ·cases h
    ·cases h
  | _=>grind [plc]
theorem Stab.zero {w w2:World} {A A2:Cells} {t:Ty} {m2:Md} {H H2:List Path} {v2:t.den} {cs cs2:List Value} {F2:FP} (ad:Option (Nat×Nat)) (h:Rep P w2 A2 t m2 H2 v2 cs2 F2):Stab 0 False w t H cs ad w2 H2 cs2:=by
 intro q pl hq hp
 obtain ⟨H',cs',h1,_⟩:=plc_typed (A:=A) (m:=m2) (v:=v2) (F:=F2) q t h (.inl (by omega)) hp
 grind
theorem Stab.flat {w w2:World} {A A2:Cells} {t:Ty} {m2:Md} {H H2:List Path} {v2:t.den} {cs cs2:List Value} {F2:FP} (ad:Option (Nat×Nat)) (h:Rep P w2 A2 t m2 H2 v2 cs2 F2) (hf:t.flat=true) (d:Nat):Stab d False w t H cs ad w2 H2 cs2:=by
 intro q pl hq hp
 obtain ⟨H',cs',h1,h2⟩:=plc_typed (A:=A) (m:=m2) (v:=v2) (F:=F2) q t h (.inr hf) hp
 grind
theorem Stab.same {w w2:World} {A:Cells} {t:Ty} {m:Md} {H:List Path} {v:t.den} {cs:List Value} {F:FP} (ad:Option (Nat×Nat)) (h:Rep P w A t m H v cs F)
  (hA:∀ b i,A b i->∀ u,ce w b i=some u->ce w2 b i=some u) (hF:∀ b i,1<=F b i->∀ u,ce w b i=some u->ce w2 b i=some u) (d:Nat) (full:Prop):Stab d full w t H cs ad w2 H cs:=by
 intro q pl hq hp
 exact ⟨pl.H,pl.cs,plc_frame hA q t h hF hp,fun _=>rfl⟩
end
end OT
set_option linter.unusedVariables false
set_option linter.unusedSimpArgs false
namespace OT
open Go
def spl (cs:List Value) (off:Nat) (n:Nat) (c2:List Value):List Value:=cs.take off++c2++cs.drop (off+n)
def repl (loc:Option Nat) (cs:List Value) (n:Nat) (c2:List Value):List Value:=match loc with
 | some off=>spl cs off n c2
 | none=>cs
theorem spl_length {cs c2:List Value} {off n:Nat} (h:off+n<=cs.length) (h2:c2.length=n):(spl cs off n c2).length=cs.length:=by
 simp[spl];omega
theorem spl_self {cs:List Value} {off n:Nat} (h:off+n<=cs.length):spl cs off n ((cs.drop off).take n)=cs:=by
 unfold spl
 rw[List.append_assoc]
 have:(cs.drop off).take n++cs.drop (off+n)=cs.drop off:=by
  rw[<-List.drop_drop];exact List.take_append_drop n (cs.drop off)
 rw[this];exact List.take_append_drop off cs
theorem spl_get {cs c2:List Value} {off n:Nat} (h:off+n<=cs.length) (h2:c2.length=n) (j:Nat):(spl cs off n c2)[j]?=if off<=j/\j < off+n then c2[j - off]? else cs[j]?:=by
 unfold spl
 rw[List.getElem?_append,List.getElem?_append]
 simp only[List.length_append,List.length_take]
 have h1:min off cs.length=off:=by omega
 rw[h1,h2]
 split
 ·split
  ·rw[if_neg (by omega),List.getElem?_take,if_pos (by omega)]
  ·rw[if_pos (by omega)]
 ·rw[if_neg (by omega),List.getElem?_drop]
  congr 1;omega
theorem spl_spl {cs c2:List Value} {k n' off n:Nat} (h:off+n<=n') (h':k+n'<=cs.length) (h2:c2.length=n) :
  spl cs k n' (spl ((cs.drop k).take n') off n c2)=spl cs (k+off) n c2:=by
 have hl:((cs.drop k).take n').length=n':=by simp;omega
 apply List.ext_getElem?
 intro j
 rw[spl_get h' (by rw[spl_length (by omega) h2,hl]),spl_get (by omega) h2,spl_get (by omega) h2]
 by_cases h3:k<=j/\j < k+n'
 ·rw[if_pos h3]
  by_cases h4:off<=j - k/\j - k < off+n
  ·rw[if_pos h4,if_pos (by omega)];congr 1;omega
  ·rw[if_neg h4,if_neg (by omega),List.getElem?_take,if_pos (by omega),List.getElem?_drop];congr 1;omega
 ·rw[if_neg h3,if_neg (by omega)]
theorem has_spl {w2:World} {b o:Nat} {cs c2:List Value} {off n:Nat} (h:off+n<=cs.length) (h2:c2.length=n)
  (hc:Has w2 b (o+off) c2) (hk:∀ j u,cs[j]?=some u->¬ (off<=j/\j < off+n)->ce w2 b (o+j)=some u):Has w2 b o (spl cs off n c2):=by
 intro j u hu
 rw[spl_get h h2] at hu
 split at hu
 ·have:=hc _ u hu
  rw[show o+off+(j - off)=o+j by omega] at this
  exact this
 ·exact hk j u hu (by assumption)
section
variable {P:Program} {R:Type}
theorem nav_ok {w:World} {A:Cells} {r:R}:∀ (p:Path) (t:Ty) {m:Md} {H:List Path} {v:t.den} {cs:List Value} {F:FP} {ad:Option (Nat×Nat)} {K:(t':Ty)->Md->List Path->t'.den->Option R},
  navK p t m H v K=some r->Rep P w A t m H v cs F->(∀ b o,ad=some (b,o)->Has w b o cs) ->
  ∃ (t':Ty) (m':Md) (H':List Path) (v':t'.den) (cs':List Value) (ad':Option (Nat×Nat)) (F':FP),K t' m' H' v'=some r/\(∀ {S:Type} (K0:(t:Ty)->Md->List Path->t.den->Option S),navK p t m H v K0=K0 t' m' H' v')/\plc w p t H cs ad=some ⟨t',H',cs',ad'⟩/\Rep P w A t' m' H' v' cs' F' /\
   (∀ b i,F' b i<=F b i)/\(∀ b o,ad'=some (b,o)->Has w b o cs')/\(ad.isSome=true->ad'.isSome=true):=by
 intro p
 induction p with
 | nil=>intro t m H v cs F ad K h hr had;exact ⟨t,m,H,v,cs,ad,F,h,fun _=>rfl,rfl,hr,fun _ _=>Nat.le_refl _,had,fun h=>h⟩
 | cons s p ih=>
  intro t m H v cs F ad K h hr had
  cases t with
  | pair a b=>
   obtain ⟨h0,F1,F2,hs,h1,h2⟩:=hr
   have hle:=Rep.length a h1
   have hle2:=Rep.length b h2
   simp only[List.length_take,List.length_drop] at hle hle2
   cases s with
   | fst=>
    have h0':H.any (·.isEmpty)=false:=h0
    simp only[navK,h0'] at h
    obtain ⟨t',m',H',v',cs',ad',F',k1,kn,k2,k3,k4,k5,k6⟩:=ih a h h1 (ad:=ad) (fun b o hb j u hu=>by
     rw[List.getElem?_take] at hu;split at hu;exact had b o hb j u hu;cases hu)
    exact ⟨t',m',H',v',cs',ad',F',k1,fun K0=>by simp only[navK,h0'];exact kn K0,by simp only[plc,h0];exact k2,k3,fun b i=>by have:=hs b i;have:=k4 b i;omega,k5,k6⟩
   | snd=>
    have h0':H.any (·.isEmpty)=false:=h0
    simp only[navK,h0'] at h
    obtain ⟨t',m',H',v',cs',ad',F',k1,kn,k2,k3,k4,k5,k6⟩:=ih b h h2 (ad:=shiftA ad a.sz) (fun b' o hb j u hu=>by
     cases ad with
     | none=>cases hb
     | some x=>
      simp only[shiftA,Option.map_some,Option.some.injEq,Prod.mk.injEq] at hb
      obtain ⟨rfl,rfl⟩:=hb
      rw[List.getElem?_drop] at hu
      have:=had x.1 x.2 rfl _ u hu
      rwa [Nat.add_assoc])
    exact ⟨t',m',H',v',cs',ad',F',k1,fun K0=>by simp only[navK,h0'];exact kn K0,by simp only[plc,h0];exact k2,k3,fun b i=>by have:=hs b i;have:=k4 b i;omega,k5,fun h=>k6 (by cases ad <;> simp_all [shiftA])⟩
   | idx i=>simp[navK] at h
   | aix i=>simp[navK] at h
  | slc e=>
   cases s with
   | fst=>simp[navK] at h
   | snd=>simp[navK] at h
   | aix i=>simp[navK] at h
   | idx i=>
    simp only[navK] at h
    obtain ⟨h1,h2,h3⟩:=holeAtK_some h
    cases hx:(v:List e.den)[i]? with
    | none=>rw[hx] at h1;cases h1
    | some x=>
     rw[hx] at h1
     simp only[Option.bind_some] at h1
     have hi:i < List.length v:=(List.getElem?_eq_some_iff.1 hx).1
     simp only[Rep,h3,Bool.false_eq_true,if_false] at hr
     split at hr
     ·obtain ⟨a,cap,rfl,g2,g3,g4,g5⟩:=hr
      cases a with
      | none=>have:=g4 rfl;omega
      | some ad0=>
       obtain ⟨q1,q2,q3,Fi,q4,q5⟩:=g5 ad0 rfl
       obtain ⟨L,hl,hL,hrep⟩:=q5 i x hx
       obtain ⟨t',m',H',v',cs',ad',F',k1,kn,k2,k3,k4,k5,k6⟩:=ih e h1 hrep (ad:=some (ad0.block,i*e.sz)) (fun b o hb=>by
        simp only[Option.some.injEq,Prod.mk.injEq] at hb;obtain ⟨rfl,rfl⟩:=hb;exact hL)
       refine ⟨t',m',H',v',cs',ad',F',k1,fun K0=>by simp only[navK];rw[holeAtK_eq h,hx];exact kn K0,?_,k3,fun b k=>?_,k5,fun _=>k6 rfl⟩
       ·simp only[plc,h3,Bool.false_eq_true,if_false,hi,if_true,q1,Nat.zero_add,rd_of_has hL hl];exact k2
       ·have:=k4 b k;have:=q4 b k;have:=le_sumF Fi hi b k;omega
     ·obtain ⟨rfl,hno,a,cap,rfl,g2,g3,g4⟩:=hr
      cases a with
      | none=>have:=g3 rfl;omega
      | some ad0=>
       obtain ⟨L,hl,hL,hrep⟩:=(g4 ad0 rfl).2 i x hx
       have hL':Has w ad0.block (ad0.off+i*e.sz) L:=fun j u hu=>(hL j u hu).1
       obtain ⟨t',m',H',v',cs',ad',F',k1,kn,k2,k3,k4,k5,k6⟩:=ih e h1 (Ro.rep e (fun _ _=>0) hno hrep) (ad:=some (ad0.block,ad0.off+i*e.sz)) (fun b o hb=>by
        simp only[Option.some.injEq,Prod.mk.injEq] at hb;obtain ⟨rfl,rfl⟩:=hb;exact hL')
       refine ⟨t',m',H',v',cs',ad',F',k1,fun K0=>by simp only[navK];rw[holeAtK_eq h,hx];exact kn K0,?_,k3,fun b k=>?_,k5,fun _=>k6 rfl⟩
       ·simp only[plc,h3,Bool.false_eq_true,if_false,hi,if_true,rd_of_has hL' hl];exact k2
       ·have:=k4 b k;omega
  | arr n e=>
   cases s with
   | fst=>simp[navK] at h
   | snd=>simp[navK] at h
   | idx i=>simp[navK] at h
   | aix i=>
    obtain ⟨rfl,hf,hl,hlen,hr⟩:=hr
    simp only[navK,List.isEmpty_nil,if_true] at h
    cases hx:(v:List e.den)[i]? with
    | none=>rw[hx] at h;cases h
    | some x=>
     rw[hx] at h
     simp only[Option.bind_some] at h
     have hi:i < n:=hl ▸ (List.getElem?_eq_some_iff.1 hx).1
     obtain ⟨t',m',H',v',cs',ad',F',k1,kn,k2,k3,k4,k5,k6⟩:=ih e h (Ro.flat e (fun _ _=>0) hf (hr i x hx)) (ad:=shiftA ad (i*e.sz)) (fun b' o hb j u hu=>by
      cases ad with
      | none=>cases hb
      | some y=>
       simp only[shiftA,Option.map_some,Option.some.injEq,Prod.mk.injEq] at hb
       obtain ⟨rfl,rfl⟩:=hb
       rw[List.getElem?_take] at hu
       split at hu
       ·rw[List.getElem?_drop] at hu
        have:=had y.1 y.2 rfl _ u hu
        rwa [Nat.add_assoc]
       ·cases hu)
     exact ⟨t',m',H',v',cs',ad',F',k1,fun K0=>by simp only[navK,List.isEmpty_nil,if_true,hx,Option.bind_some];exact kn K0,by simp only[plc,List.isEmpty_nil,if_true,hi];exact k2,k3,fun b k=>by have:=k4 b k;omega,k5,fun h=>k6 (by cases ad <;> simp_all [shiftA])⟩
  | _=>cases s <;> simp[navK] at h
structure ModOk (P:Program) (w:World) (A:Cells) {R:Type} (r:R) (p:Path) (t:Ty) (m:Md) (H:List Path) (v:t.den) (cs:List Value) (F:FP) (ad:Option (Nat×Nat))
  (f:(t':Ty)->Md->List Path->t'.den->(Md->List Path->t'.den->Option R)->Option R) (K:Md->List Path->t.den->Option R)
  (t':Ty) (m':Md) (H':List Path) (v':t'.den) (cs':List Value) (ad':Option (Nat×Nat)) (F' G:FP) (kk:Md->List Path->t'.den->Option R) (loc:Option Nat):Prop where
 run:f t' m' H' v' kk=some r
 nav:∀ {S:Type} (K0:(t':Ty)->Md->List Path->t'.den->Option S),navK p t m H v K0=K0 t' m' H' v'
 place:plc w p t H cs ad=some ⟨t',H',cs',ad'⟩
 rep:Rep P w A t' m' H' v' cs' F'
 sum:∀ b i,F' b i+G b i<=F b i
 has:∀ b o,ad'=some (b,o)->Has w b o cs'
 inn:∀ off,loc=some off->off+t'.sz<=t.sz/\cs'=(cs.drop off).take t'.sz/\ad'=shiftA ad off
 locn:1<=nidx p->loc=none
 out:loc=none->∃ b o,ad'=some (b,o)/\∀ j,j < t'.sz->1<=G b (o+j)/\w.frozen? ⟨b,o+j,none⟩=false
 back:∀ m2 H2 (v2:t'.den),kk m2 H2 v2=some r->∀ (w2:World) (A2:Cells) (cs2:List Value) (F2:FP),
  (∀ b n,OwnBlk w b n->OwnBlk w2 b n)->(∀ b i,A b i->A2 b i)->(∀ b i,A b i->∀ u,ce w b i=some u->ce w2 b i=some u) ->
  (∀ b i,1<=G b i->(∀ o,ad'=some (b,o)->¬ (o<=i/\i < o+t'.sz))->∀ u,ce w b i=some u->ce w2 b i=some u) ->
  (∀ b o,ad'=some (b,o)->Has w2 b o cs2)->Rep P w2 A2 t' m2 H2 v2 cs2 F2->(∀ b i,F2 b i+G b i<=1) ->
  ∃ m3 H3 v3 F3,K m3 H3 v3=some r/\(∀ b i,F3 b i<=F2 b i+G b i) /\
   (∀ A3:Cells,(∀ b i,A2 b i->A3 b i)->(∀ b i,1<=F2 b i+G b i->F3 b i=0->A3 b i)->Rep P w2 A3 t m3 H3 v3 (repl loc cs t'.sz cs2) F3) /\
   (∀ d full,Stab d full w t' H' cs' ad' w2 H2 cs2->Stab (d+nidx p) full w t H cs ad w2 H3 (repl loc cs t'.sz cs2))
theorem OwnBlk.frozen {w:World} {b:Nat} {n:Nat×Bool} (h:OwnBlk w b n) {i:Nat} (hi:i < n.1):w.frozen? ⟨b,i,none⟩=false:=by
 obtain ⟨c,e,fr,h1,h2,h3,_⟩:=h
 obtain ⟨lo,hi'⟩:=fr
 have:=h3 i hi
 simp only[World.frozen?,h1]
 simp only[Bool.and_eq_false_iff,decide_eq_false_iff_not]
 simp only at this
 omega
theorem mod_ok {w:World} {A:Cells} {r:R}:∀ (p:Path) (t:Ty) {m:Md} {H:List Path} {v:t.den} {cs:List Value} {F:FP} {ad:Option (Nat×Nat)}
  {f:(t':Ty)->Md->List Path->t'.den->(Md->List Path->t'.den->Option R)->Option R} {K:Md->List Path->t.den->Option R},
  modK p t m H v f K=some r->Rep P w A t m H v cs F->(∀ b i,F b i<=1)->(∀ b o,ad=some (b,o)->Has w b o cs)->(∀ b o,ad=some (b,o)->∀ j,j < t.sz->F b (o+j)=0) ->
  ∃ t' m' H' v' cs' ad' F' G kk loc,ModOk P w A r p t m H v cs F ad f K t' m' H' v' cs' ad' F' G kk loc:=by
 intro p
 induction p with
 | nil=>
  intro t m H v cs F ad f K h hr hF had hdis
  have hlen:=Rep.length t hr
  refine ⟨t,m,H,v,cs,ad,F,fun _ _=>0,K,some 0,h,fun _=>rfl,rfl,hr,fun _ _=>by simp,had,?_,(fun h=>by simp[nidx] at h),(fun h=>by cases h),?_⟩
  ·intro off ho
   injection ho with ho;subst ho
   refine ⟨by omega,?_,?_⟩
   ·rw[List.drop_zero,<- hlen,List.take_length]
   ·cases ad <;> simp[shiftA]
  ·intro m2 H2 v2 hk w2 A2 cs2 F2 hb hA hcA hG had2 hr2 hs
   have hl2:=Rep.length t hr2
   have hspl:repl (some 0) cs t.sz cs2=cs2:=by
    simp[repl,spl,List.drop_eq_nil_of_le (show cs.length<=t.sz by omega)]
   rw[hspl]
   refine ⟨m2,H2,v2,F2,hk,fun _ _=>by simp,fun A3 hA3 _=>Rep.mono hA3 (fun _ _ _ _ h=>h) (fun _ _ h=>h) t hr2 (fun _ _=>Nat.le_refl _) (fun _ _ _ _ h=>h),fun d full hd=>hd⟩
 | cons s p ih=>
  intro t m H v cs F ad f K h hr hF had hdis
  cases t with
  | pair a b=>
   obtain ⟨h0,F1,F2,hs,h1,h2⟩:=hr
   have hle:=Rep.length a h1
   have hle2:=Rep.length b h2
   simp only[List.length_take,List.length_drop] at hle hle2
   have h0':H.any (·.isEmpty)=false:=h0
   have hhas1:∀ b o,ad=some (b,o)->Has w b o (cs.take a.sz):=fun b o hb j u hu=>by
    rw[List.getElem?_take] at hu;split at hu;exact had b o hb j u hu;cases hu
   have hhas2:∀ b' o,shiftA ad a.sz=some (b',o)->Has w b' o (cs.drop a.sz):=fun b' o hb j u hu=>by
    cases ad with
    | none=>cases hb
    | some x=>
     simp only[shiftA,Option.map_some,Option.some.injEq,Prod.mk.injEq] at hb
     obtain ⟨rfl,rfl⟩:=hb
     rw[List.getElem?_drop] at hu
     have:=had x.1 x.2 rfl _ u hu
     rwa [Nat.add_assoc]
   cases s with
   | fst=>
    simp only[modK,h0'] at h
    obtain ⟨t',m',H',v',cs',ad',F',G,kk,loc,M⟩:=ih a h h1 (fun b i=>by have:=hs b i;have:=hF b i;omega) hhas1 (fun b' o hb j hj=>by
     have:=hdis b' o hb j (by simp only[Ty.sz];omega);have:=hs b' (o+j);omega)
    refine ⟨t',m',H',v',cs',ad',F',fun b i=>G b i+F2 b i,kk,loc,M.run,fun K0=>by simp only[navK,h0'];exact M.nav K0,by simp only[plc,h0];exact M.place,M.rep,fun b i=>by have:=hs b i;have:=M.sum b i;omega,M.has,?_,(fun h=>M.locn (by simpa [nidx] using h)),?_,?_⟩
    ·intro off ho
     obtain ⟨q1,q2,q3⟩:=M.inn off ho
     refine ⟨by simp only[Ty.sz];omega,?_,q3⟩
     rw[q2,List.drop_take,List.take_take]
     congr 1;omega
    ·intro ho
     obtain ⟨b',o,q1,q2⟩:=M.out ho
     exact ⟨b',o,q1,fun j hj=>⟨by have:=(q2 j hj).1;omega,(q2 j hj).2⟩⟩
    ·intro m2 H2 v2 hk w2 A2 cs2 F2' hb hA hcA hG had2 hr2 hsum
     obtain ⟨m3,H3,v3,F3,k1,k2,k3,k4⟩:=M.back m2 H2 v2 hk w2 A2 cs2 F2' hb hA hcA (fun b' i hp hn=>hG b' i (by omega) hn) had2 hr2 (fun b' i=>by have:=hsum b' i;omega)
     have hl2:=Rep.length t' hr2
     have hcs:repl loc cs t'.sz cs2=repl loc (cs.take a.sz) t'.sz cs2++cs.drop a.sz:=by
      cases loc with
      | none=>simp[repl]
      | some off=>
       have:=(M.inn off rfl).1
       simp only[repl,spl]
       rw[List.take_take,show min off a.sz=off by omega,List.append_assoc,List.append_assoc,List.append_assoc]
       congr 2
       rw[List.drop_take]
       have e:cs.drop a.sz=(cs.drop (off+t'.sz)).drop (a.sz - (off+t'.sz)):=by rw[List.drop_drop];congr 1;omega
       rw[e,List.take_append_drop]
     have hrl:(repl loc (cs.take a.sz) t'.sz cs2).length=a.sz:=by
      cases loc with
      | none=>simp[repl];omega
      | some off=>have:=(M.inn off rfl).1;simp only[repl];rw[spl_length (by simp;omega) hl2];simp;omega
     have hsame:∀ d full,Stab d full w t' H' cs' ad' w2 H2 cs2->full->repl loc cs t'.sz cs2=cs:=fun d full hd hfull=>by
      obtain ⟨H5,c5,e1,e2⟩:=hd [] ⟨t',H',cs',ad'⟩ (Nat.zero_le _) rfl
      simp only[plc,Option.some.injEq,Pl.mk.injEq] at e1
      have e3:cs2=cs':=e1.2.2.1.trans (e2 (.inr hfull))
      cases loc with
      | none=>rfl
      | some off=>
       have:=M.inn off rfl
       rw[e3,this.2.1,List.drop_take,List.take_take,show min t'.sz (a.sz - off)=t'.sz by omega]
       exact spl_self (by omega)
     have htk:(repl loc cs t'.sz cs2).take a.sz=repl loc (cs.take a.sz) t'.sz cs2:=by rw[hcs];exact List.take_left' hrl
     have hdr:(repl loc cs t'.sz cs2).drop a.sz=cs.drop a.sz:=by rw[hcs];exact List.drop_left' hrl
     have sib:∀ b' i,1<=F2 b' i->∀ u,ce w b' i=some u->ce w2 b' i=some u:=fun b' i hp u hu=>by
      refine hG b' i (by omega) (fun o hao hrange=>?_) u hu
      have hsb:=hs b' i;have hFb:=hF b' i
      cases loc with
      | none=>
       obtain ⟨b0,o0,q1,q2⟩:=M.out rfl
       rw[q1] at hao
       simp only[Option.some.injEq,Prod.mk.injEq] at hao
       obtain ⟨rfl,rfl⟩:=hao
       have:=(q2 (i - o0) (by omega)).1
       rw[show o0+(i - o0)=i by omega] at this
       have:=M.sum b0 i
       omega
      | some off=>
       obtain ⟨q1,q2,q3⟩:=M.inn off rfl
       cases ad with
       | none=>rw[q3] at hao;cases hao
       | some x=>
        rw[q3] at hao
        simp only[shiftA,Option.map_some,Option.some.injEq,Prod.mk.injEq] at hao
        obtain ⟨rfl,rfl⟩:=hao
        have:=hdis x.1 x.2 rfl (i - x.2) (by simp only[Ty.sz];omega)
        rw[show x.2+(i - x.2)=i by omega] at this
        omega
     refine ⟨_,_,_,fun b' i=>F3 b' i+F2 b' i,k1,fun b' i=>by have:=k2 b' i;show F3 b' i+F2 b' i<=_;omega,fun A3 hA3 hfr=>?_,fun d full hd=>?_⟩
     ·refine ⟨by rw[hole_append,hole_map,hole_map];rfl,F3,F2,fun _ _=>Nat.le_refl _,?_,?_⟩
      ·rw[htk,List.filterMap_append,strip_map_fst,strip_map_fs,List.append_nil]
       refine k3 A3 hA3 fun b' i hp hz=>hfr b' i (by omega) ?_
       have:=hsum b' i
       show F3 b' i+F2 b' i=0;omega
      ·rw[hdr,List.filterMap_append,strip_map_sf,strip_map_snd,List.nil_append]
       exact Rep.mono (fun b' i ha=>hA3 b' i (hA b' i ha)) hcA hb b h2 (fun _ _=>Nat.le_refl _) sib
     ·intro q pl hq hp
      cases q with
      | nil=>
       simp only[plc,Option.some.injEq] at hp;subst hp
       refine ⟨_,_,rfl,fun h=>?_⟩
       rcases h with ⟨_,hs⟩ | hfull
       ·simp[isSlc] at hs
       ·exact hsame d full hd hfull
      | cons s q=>
       cases s with
       | fst=>
        simp only[plc,h0,Bool.false_eq_true,if_false] at hp
        obtain ⟨H4,cs4,e1,e2⟩:=k4 d full hd q pl (by simpa [nidx] using hq) hp
        refine ⟨H4,cs4,?_,fun hd'=>e2 (by simpa [nidx] using hd')⟩
        simp only[plc,hole_append,hole_map,Bool.or_self,Bool.false_eq_true,if_false]
        rw[htk,List.filterMap_append,strip_map_fst,strip_map_fs,List.append_nil]
        exact e1
       | snd=>
        simp only[plc,h0,Bool.false_eq_true,if_false] at hp
        refine ⟨pl.H,pl.cs,?_,fun _=>rfl⟩
        simp only[plc,hole_append,hole_map,Bool.or_self,Bool.false_eq_true,if_false]
        rw[hdr,List.filterMap_append,strip_map_sf,strip_map_snd,List.nil_append]
        exact plc_frame hcA q b h2 sib hp
       | idx i=>simp[plc] at hp
       | aix i=>simp[plc] at hp
   | snd=>
    simp only[modK,h0'] at h
    obtain ⟨t',m',H',v',cs',ad',F',G,kk,loc,M⟩:=ih b h h2 (fun b i=>by have:=hs b i;have:=hF b i;omega) hhas2 (fun b' o hb j hj=>by
     cases ad with
     | none=>cases hb
     | some x=>
      simp only[shiftA,Option.map_some,Option.some.injEq,Prod.mk.injEq] at hb
      obtain ⟨rfl,rfl⟩:=hb
      have:=hdis x.1 x.2 rfl (a.sz+j) (by simp only[Ty.sz];omega);have:=hs x.1 (x.2+(a.sz+j))
      rw[Nat.add_assoc];omega)
    refine ⟨t',m',H',v',cs',ad',F',fun b i=>G b i+F1 b i,kk,loc.map (a.sz+·),M.run,fun K0=>by simp only[navK,h0'];exact M.nav K0,by simp only[plc,h0];exact M.place,M.rep,fun b i=>by have:=hs b i;have:=M.sum b i;omega,M.has,?_,(fun h=>by rw[M.locn (by simpa [nidx] using h)];rfl),?_,?_⟩
    ·intro off' ho
     obtain ⟨off,ho2,rfl⟩:=Option.map_eq_some_iff.1 ho
     obtain ⟨q1,q2,q3⟩:=M.inn off ho2
     refine ⟨by simp only[Ty.sz];omega,by rw[q2,List.drop_drop],?_⟩
     rw[q3];cases ad <;> simp[shiftA,Nat.add_assoc]
    ·intro ho
     obtain ⟨b',o,q1,q2⟩:=M.out (by simpa using ho)
     exact ⟨b',o,q1,fun j hj=>⟨by have:=(q2 j hj).1;omega,(q2 j hj).2⟩⟩
    ·intro m2 H2 v2 hk w2 A2 cs2 F2' hb hA hcA hG had2 hr2 hsum
     obtain ⟨m3,H3,v3,F3,k1,k2,k3,k4⟩:=M.back m2 H2 v2 hk w2 A2 cs2 F2' hb hA hcA (fun b' i hp hn=>hG b' i (by omega) hn) had2 hr2 (fun b' i=>by have:=hsum b' i;omega)
     have hl2:=Rep.length t' hr2
     have hcs:repl (loc.map (a.sz+·)) cs t'.sz cs2=cs.take a.sz++repl loc (cs.drop a.sz) t'.sz cs2:=by
      cases loc with
      | none=>simp[repl]
      | some off=>
       have:=(M.inn off rfl).1
       simp only[repl,spl,Option.map_some]
       rw[List.take_add,List.drop_drop,List.append_assoc,List.append_assoc,List.append_assoc,Nat.add_assoc]
     have hrl:(cs.take a.sz).length=a.sz:=by simp;omega
     have hsame:∀ d full,Stab d full w t' H' cs' ad' w2 H2 cs2->full->repl (loc.map (a.sz+·)) cs t'.sz cs2=cs:=fun d full hd hfull=>by
      obtain ⟨H5,c5,e1,e2⟩:=hd [] ⟨t',H',cs',ad'⟩ (Nat.zero_le _) rfl
      simp only[plc,Option.some.injEq,Pl.mk.injEq] at e1
      have e3:cs2=cs':=e1.2.2.1.trans (e2 (.inr hfull))
      cases loc with
      | none=>rfl
      | some off=>
       have:=M.inn off rfl
       rw[e3,this.2.1,List.drop_drop]
       exact spl_self (show a.sz+off+t'.sz<=cs.length by omega)
     have htk:(repl (loc.map (a.sz+·)) cs t'.sz cs2).take a.sz=cs.take a.sz:=by rw[hcs];exact List.take_left' hrl
     have hdr:(repl (loc.map (a.sz+·)) cs t'.sz cs2).drop a.sz=repl loc (cs.drop a.sz) t'.sz cs2:=by rw[hcs];exact List.drop_left' hrl
     have sib:∀ b' i,1<=F1 b' i->∀ u,ce w b' i=some u->ce w2 b' i=some u:=fun b' i hp u hu=>by
      refine hG b' i (by omega) (fun o hao hrange=>?_) u hu
      have hsb:=hs b' i;have hFb:=hF b' i
      cases loc with
      | none=>
       obtain ⟨b0,o0,q1,q2⟩:=M.out rfl
       rw[q1] at hao
       simp only[Option.some.injEq,Prod.mk.injEq] at hao
       obtain ⟨rfl,rfl⟩:=hao
       have:=(q2 (i - o0) (by omega)).1
       rw[show o0+(i - o0)=i by omega] at this
       have:=M.sum b0 i
       omega
      | some off=>
       obtain ⟨q1,q2,q3⟩:=M.inn off rfl
       cases ad with
       | none=>rw[q3] at hao;cases hao
       | some x=>
        rw[q3] at hao
        simp only[shiftA,Option.map_some,Option.some.injEq,Prod.mk.injEq] at hao
        obtain ⟨rfl,rfl⟩:=hao
        have:=hdis x.1 x.2 rfl (i - x.2) (by simp only[Ty.sz];omega)
        rw[show x.2+(i - x.2)=i by omega] at this
        omega
     refine ⟨_,_,_,fun b' i=>F3 b' i+F1 b' i,k1,fun b' i=>by have:=k2 b' i;show F3 b' i+F1 b' i<=_;omega,fun A3 hA3 hfr=>?_,fun d full hd=>?_⟩
     ·refine ⟨by rw[hole_append,hole_map,hole_map];rfl,F1,F3,fun b' i=>by show F1 b' i+F3 b' i<=F3 b' i+F1 b' i;omega,?_,?_⟩
      ·rw[htk,List.filterMap_append,strip_map_fst,strip_map_fs,List.append_nil]
       exact Rep.mono (fun b' i ha=>hA3 b' i (hA b' i ha)) hcA hb a h1 (fun _ _=>Nat.le_refl _) sib
      ·rw[hdr,List.filterMap_append,strip_map_sf,strip_map_snd,List.nil_append]
       refine k3 A3 hA3 fun b' i hp hz=>hfr b' i (by omega) ?_
       have:=hsum b' i
       show F3 b' i+F1 b' i=0;omega
     ·intro q pl hq hp
      cases q with
      | nil=>
       simp only[plc,Option.some.injEq] at hp;subst hp
       refine ⟨_,_,rfl,fun h=>?_⟩
       rcases h with ⟨_,hs⟩ | hfull
       ·simp[isSlc] at hs
       ·exact hsame d full hd hfull
      | cons s q=>
       cases s with
       | snd=>
        simp only[plc,h0,Bool.false_eq_true,if_false] at hp
        obtain ⟨H4,cs4,e1,e2⟩:=k4 d full hd q pl (by simpa [nidx] using hq) hp
        refine ⟨H4,cs4,?_,fun hd'=>e2 (by simpa [nidx] using hd')⟩
        simp only[plc,hole_append,hole_map,Bool.or_self,Bool.false_eq_true,if_false]
        rw[hdr,List.filterMap_append,strip_map_sf,strip_map_snd,List.nil_append]
        exact e1
       | fst=>
        simp only[plc,h0,Bool.false_eq_true,if_false] at hp
        refine ⟨pl.H,pl.cs,?_,fun _=>rfl⟩
        simp only[plc,hole_append,hole_map,Bool.or_self,Bool.false_eq_true,if_false]
        rw[htk,List.filterMap_append,strip_map_fst,strip_map_fs,List.append_nil]
        exact plc_frame hcA q a h1 sib hp
       | idx i=>simp[plc] at hp
       | aix i=>simp[plc] at hp
   | idx i=>simp[modK] at h
   | aix i=>simp[modK] at h
  | slc e=>
   cases s with
   | fst=>simp[modK] at h
   | snd=>simp[modK] at h
   | aix i=>simp[modK] at h
   | idx i=>
    simp only[modK] at h
    split at h
    ·rename_i hown
     obtain ⟨h1,h2,h3⟩:=holeAtK_some h
     cases hx:(v:List e.den)[i]? with
     | none=>rw[hx] at h1;cases h1
     | some x=>
      rw[hx] at h1
      simp only[Option.bind_some] at h1
      have hi:i < List.length v:=(List.getElem?_eq_some_iff.1 hx).1
      simp only[Rep,h3,Bool.false_eq_true,if_false,hown,if_true] at hr
      obtain ⟨a,cap,rfl,g2,g3,g4,g5⟩:=hr
      cases a with
      | none=>have:=g4 rfl;omega
      | some ad0=>
       obtain ⟨q1,q2,q3,Fi,q4,q5⟩:=g5 ad0 rfl
       obtain ⟨L,hl,hL,hrep⟩:=q5 i x hx
       have hlt:∀ k,k < List.length v->∀ j,j < e.sz->k*e.sz+j < cap*e.sz:=fun k hk j hj=>by
        have hlt:(k+1)*e.sz<=cap*e.sz:=Nat.mul_le_mul_right _ (by omega)
        rw[Nat.add_mul] at hlt;omega
       have hrng:∀ k,k < cap*e.sz->rng ad0.block 0 (cap*e.sz) ad0.block k=1:=fun k hk=>by simp[rng,hk]
       obtain ⟨t',m',H',v',cs',ad',F',G,kk,loc,M⟩:=ih e h1 hrep (fun b k=>by have:=q4 b k;have:=hF b k;have:=le_sumF Fi hi b k;omega)
        (ad:=some (ad0.block,i*e.sz)) (fun b o hb=>by simp only[Option.some.injEq,Prod.mk.injEq] at hb;obtain ⟨rfl,rfl⟩:=hb;exact hL)
        (fun b o hb j hj=>by
         simp only[Option.some.injEq,Prod.mk.injEq] at hb;obtain ⟨rfl,rfl⟩:=hb
         have:=q4 ad0.block (i*e.sz+j);have:=hF ad0.block (i*e.sz+j);have:=le_sumF Fi hi ad0.block (i*e.sz+j)
         have:=hrng _ (hlt i hi j hj);omega)
       have hsub:∀ b k,sumF (List.length v) (updF Fi i G) b k+Fi i b k=sumF (List.length v) Fi b k+G b k:=sumF_upd Fi hi G
       have hGle:∀ b k,G b k<=sumF (List.length v) (updF Fi i G) b k:=fun b k=>by
        have:=le_sumF (updF Fi i G) hi b k;simpa [updF] using this
       refine ⟨t',m',H',v',cs',ad',F',fun b k=>rng ad0.block 0 (cap*e.sz) b k+sumF (List.length v) (updF Fi i G) b k,kk,none,M.run,fun K0=>by simp only[navK];rw[holeAtK_eq h,hx];exact M.nav K0,?_,M.rep,fun b k=>by have:=hsub b k;have:=M.sum b k;have:=q4 b k;omega,M.has,(fun off ho=>by cases ho),(fun _=>rfl),?_,?_⟩
       ·simp only[plc,h3,Bool.false_eq_true,if_false,hi,if_true,q1,Nat.zero_add,rd_of_has hL hl];exact M.place
       ·intro _
        cases loc with
        | none=>
         obtain ⟨b',o,e1,e2⟩:=M.out rfl
         exact ⟨b',o,e1,fun j hj=>⟨by have:=(e2 j hj).1;have:=hGle b' (o+j);omega,(e2 j hj).2⟩⟩
        | some off=>
         obtain ⟨e1,e2,e3⟩:=M.inn off rfl
         refine ⟨ad0.block,i*e.sz+off,e3,fun j hj=>?_⟩
         have hj':=hlt i hi (off+j) (by omega)
         rw[<-Nat.add_assoc] at hj'
         exact ⟨by have:=hrng _ hj';omega,q3.frozen hj'⟩
       ·intro m2 H2 v2 hk w2 A2 cs2 F2' hb hA hcA hG had2 hr2 hsum
        obtain ⟨m3,H3,v3,F3,k1,k2,k3,k4⟩:=M.back m2 H2 v2 hk w2 A2 cs2 F2' hb hA hcA (fun b' i hp hn=>hG b' i (by have:=hGle b' i;omega) hn) had2 hr2
         (fun b' i=>by have:=hsum b' i;have:=hGle b' i;omega)
        have hl2:=Rep.length t' hr2
        have apart:∀ b' k,(∀ o,ad'=some (b',o)->o<=k/\k < o+t'.sz->1<=Fi i b' k\/(b'=ad0.block/\i*e.sz<=k/\k < i*e.sz+e.sz)):=fun b' k o hao hrange=>by
         cases loc with
         | none=>
          obtain ⟨b0,o0,e1,e2⟩:=M.out rfl
          rw[e1] at hao
          simp only[Option.some.injEq,Prod.mk.injEq] at hao
          obtain ⟨rfl,rfl⟩:=hao
          have:=(e2 (k - o0) (by omega)).1
          rw[show o0+(k - o0)=k by omega] at this
          have:=M.sum b0 k
          left;omega
         | some off=>
          obtain ⟨e1,e2,e3⟩:=M.inn off rfl
          rw[e3] at hao
          simp only[shiftA,Option.map_some,Option.some.injEq,Prod.mk.injEq] at hao
          obtain ⟨rfl,rfl⟩:=hao
          exact .inr ⟨rfl,by omega,by omega⟩
        have sib:∀ j,j < List.length v->j≠i->∀ b' k,1<=Fi j b' k->∀ u,ce w b' k=some u->ce w2 b' k=some u:=fun j hj hji b' k hp u hu=>by
         have h1:=le_sumF (updF Fi i G) hj b' k
         have e1:updF Fi i G j=Fi j:=by simp[updF,hji]
         rw[e1] at h1
         refine hG b' k (by omega) (fun o hao hrange=>?_) u hu
         have h2:=q4 b' k;have h3:=hF b' k;have h4:=le_sumF2 Fi hj hi hji b' k
         rcases apart b' k o hao hrange with h | ⟨rfl,hb1,hb2⟩
         ·omega
         ·have:=hrng (i*e.sz+(k - i*e.sz)) (hlt i hi _ (by omega))
          rw[show i*e.sz+(k - i*e.sz)=k by omega] at this
          omega
        have cell:∀ j,j < List.length v->j≠i->∀ k,k < e.sz->∀ u,ce w ad0.block (j*e.sz+k)=some u->ce w2 ad0.block (j*e.sz+k)=some u:=fun j hj hji k hk u hu=>by
         have hr1:=hrng _ (hlt j hj k hk)
         refine hG _ _ (by omega) (fun o hao hrange=>?_) u hu
         have h2:=q4 ad0.block (j*e.sz+k);have h3:=hF ad0.block (j*e.sz+k)
         rcases apart _ _ o hao hrange with h | ⟨_,hb1,hb2⟩
         ·have:=le_sumF Fi hi ad0.block (j*e.sz+k);omega
         ·have hne:j < i\/i < j:=by omega
          rcases hne with hlt' | hlt'
          ·have:(j+1)*e.sz<=i*e.sz:=Nat.mul_le_mul_right _ hlt'
           rw[Nat.add_mul] at this;omega
          ·have:(i+1)*e.sz<=j*e.sz:=Nat.mul_le_mul_right _ hlt'
           rw[Nat.add_mul] at this;omega
        have hL3:Has w2 ad0.block (i*e.sz) (repl loc L t'.sz cs2):=by
         have keep:∀ j u,L[j]?=some u->(∀ off,loc=some off->¬ (off<=j/\j < off+t'.sz))->ce w2 ad0.block (i*e.sz+j)=some u:=fun j u hu hn=>by
          have hj:j < e.sz:=hl ▸ (List.getElem?_eq_some_iff.1 hu).1
          have hr1:=hrng _ (hlt i hi j hj)
          refine hG _ _ (by omega) (fun o hao hrange=>?_) u (hL j u hu)
          cases loc with
          | none=>
           obtain ⟨b0,o0,e1,e2⟩:=M.out rfl
           rw[e1] at hao
           simp only[Option.some.injEq,Prod.mk.injEq] at hao
           obtain ⟨rfl,rfl⟩:=hao
           have:=(e2 (i*e.sz+j - o0) (by omega)).1
           rw[show o0+(i*e.sz+j - o0)=i*e.sz+j by omega] at this
           have h2:=q4 ad0.block (i*e.sz+j);have h3:=hF ad0.block (i*e.sz+j);have:=hGle ad0.block (i*e.sz+j);have:=hsub ad0.block (i*e.sz+j);have:=M.sum ad0.block (i*e.sz+j)
           have:=le_sumF Fi hi ad0.block (i*e.sz+j)
           omega
          | some off=>
           obtain ⟨e1,e2,e3⟩:=M.inn off rfl
           rw[e3] at hao
           simp only[shiftA,Option.map_some,Option.some.injEq,Prod.mk.injEq] at hao
           obtain ⟨_,rfl⟩:=hao
           exact hn off rfl (by omega)
         cases loc with
         | none=>exact fun j u hu=>keep j u hu (fun off ho=>by cases ho)
         | some off=>
          obtain ⟨e1,e2,e3⟩:=M.inn off rfl
          exact has_spl (by omega) hl2 (had2 _ _ e3) (fun j u hu hn=>keep j u hu (fun off' ho=>by injection ho with ho;subst ho;exact hn))
        have hl3:(repl loc L t'.sz cs2).length=e.sz:=by
         cases loc with
         | none=>exact hl
         | some off=>have:=(M.inn off rfl).1;simp only[repl];rw[spl_length (by omega) hl2,hl]
        have hset:∀ (j:Nat) (y:e.den),(List.set v i v3)[j]?=some y->(j=i/\y=v3)\/(j≠i/\(v:List e.den)[j]?=some y):=fun j y hy=>by
         rw[List.getElem?_set] at hy
         split at hy
         ·rename_i hij
          subst hij
          injection hy with hy
          exact .inl ⟨rfl,hy.symm⟩
         ·rename_i hij;exact .inr ⟨fun h=>hij h.symm,hy⟩
        have others:∀ A3:Cells,(∀ b i,A2 b i->A3 b i)->∀ (j:Nat) (y:e.den),j≠i->(v:List e.den)[j]?=some y->∃ L:List Value,L.length=e.sz/\Has w2 ad0.block (j*e.sz) L/\Has w ad0.block (j*e.sz) L/\Rep P w A e m.e [] y L (Fi j)/\Rep P w2 A3 e m.e [] y L (Fi j):=fun A3 hA3 j y hji hy=>by
         have hj:j < List.length v:=(List.getElem?_eq_some_iff.1 hy).1
         obtain ⟨Lj,hlj,hLj,hrj⟩:=q5 j y hy
         rw[h2 j hji] at hrj
         exact ⟨Lj,hlj,fun k u hu=>cell j hj hji k (hlj ▸ (List.getElem?_eq_some_iff.1 hu).1) u (hLj k u hu),hLj,hrj,Rep.mono (fun b' i ha=>hA3 b' i (hA b' i ha)) hcA hb e hrj (fun _ _=>Nat.le_refl _) (sib j hj hji)⟩
        have stab:∀ H4:List Path,hole H4=false->H4.filterMap (stripI i)=H3->(∀ j,j≠i->H4.filterMap (stripI j)=[])->∀ d full,Stab d full w t' H' cs' ad' w2 H2 cs2->Stab (d+nidx (.idx i::p)) full w (.slc e) H [.slice (some ad0) (List.length v) cap] ad w2 H4 [.slice (some ad0) (List.length v) cap]:=by
         intro H4 hH4 hHi hHj d full hd q pl hq hp
         cases q with
         | nil=>
          simp only[plc,Option.some.injEq] at hp;subst hp
          exact ⟨_,_,rfl,fun _=>rfl⟩
         | cons s q=>
          cases s with
          | fst=>simp[plc] at hp
          | snd=>simp[plc] at hp
          | aix j=>simp[plc] at hp
          | idx j=>
           simp only[plc,h3,Bool.false_eq_true,if_false] at hp
           split at hp
           ·rename_i hj
            by_cases hji:j=i
            ·subst hji
             rw[q1,Nat.zero_add,rd_of_has hL hl] at hp
             obtain ⟨H5,cs5,e1,e2⟩:=k4 d full hd q pl (by simp only[nidx] at hq;omega) hp
             refine ⟨H5,cs5,?_,fun hd'=>e2 (hd'.imp (fun h=>⟨by have:=h.1;simp only[nidx] at this;omega,h.2⟩) id)⟩
             simp only[plc,hH4,Bool.false_eq_true,if_false,hj,if_true,q1,Nat.zero_add,rd_of_has hL3 hl3,hHi]
             exact e1
            ·obtain ⟨Lj,hlj,hLj2,hLj,hrj,_⟩:=others A2 (fun _ _ h=>h) j _ hji (List.getElem?_eq_getElem hj)
             rw[q1,Nat.zero_add,rd_of_has hLj hlj,h2 j hji] at hp
             refine ⟨pl.H,pl.cs,?_,fun _=>rfl⟩
             simp only[plc,hH4,Bool.false_eq_true,if_false,hj,if_true,q1,Nat.zero_add,rd_of_has hLj2 hlj,hHj j hji]
             exact plc_frame hcA q e hrj (sib j hj hji) hp
           ·cases hp
        simp only[repl]
        by_cases hme:m3=m.e
        ·rw[if_pos hme] at k1
         subst hme
         refine ⟨_,_,_,fun b' k=>rng ad0.block 0 (cap*e.sz) b' k+sumF (List.length v) (updF Fi i F3) b' k,k1,fun b' k=>?_,fun A3 hA3 hfr=>?_,stab _ (hole_map _ _) (strip_map_idx _ _) (fun j hj=>strip_map_idx_ne hj _)⟩
         ·have:=sumF_upd Fi hi F3 b' k;have:=hsub b' k;have:=k2 b' k
          show rng ad0.block 0 (cap*e.sz) b' k+sumF (List.length v) (updF Fi i F3) b' k<=_
          omega
         ·simp only[Rep,hole_map,Bool.false_eq_true,if_false,Md.own,if_true]
          refine ⟨some ad0,cap,by simp,by simpa using g2,g3,(fun hn=>by cases hn),fun ad1 had1=>?_⟩
          injection had1 with had1;subst had1
          refine ⟨q1,q2,hb _ _ q3,updF Fi i F3,fun b' k=>by simp,fun j y hy=>?_⟩
          rcases hset j y hy with ⟨rfl,rfl⟩ | ⟨hji,hy'⟩
          ·refine ⟨_,hl3,hL3,?_⟩
           rw[strip_map_idx]
           simp only[Md.e,updF,if_true]
           refine k3 A3 hA3 fun b' k hp hz=>hfr b' k ?_ ?_
           ·have:=hGle b' k;omega
           ·have h5:=hsum b' k;have h6:=sumF_upd Fi hi F3 b' k;have h7:=hsub b' k;have:=hGle b' k
            have h8:=q4 b' k;have h9:=M.sum b' k
            have:=k2 b' k
            show rng ad0.block 0 (cap*e.sz) b' k+sumF (List.length v) (updF Fi j F3) b' k=0
            omega
          ·obtain ⟨Lj,hlj,hLj2,_,_,hrj2⟩:=others A3 hA3 j y hji hy'
           refine ⟨Lj,hlj,hLj2,?_⟩
           rw[strip_map_idx_ne hji]
           simp only[updF,if_neg hji]
           exact hrj2
        ·rw[if_neg hme] at k1
         split at k1
         ·rename_i hH3
          have hH3:H3=[]:=List.isEmpty_iff.1 hH3
          refine ⟨_,_,_,fun b' k=>rng ad0.block 0 (cap*e.sz) b' k,k1,fun b' k=>by show rng ad0.block 0 (cap*e.sz) b' k<=_;omega,fun A3 hA3 hfr=>?_,stab _ rfl (by rw[hH3];rfl) (fun j hj=>rfl)⟩
          simp only[Rep,hole,List.any_nil,Bool.false_eq_true,if_false,Md.own,if_true]
          refine ⟨some ad0,cap,by simp,by simpa using g2,g3,(fun hn=>by cases hn),fun ad1 had1=>?_⟩
          injection had1 with had1;subst had1
          refine ⟨q1,q2,hb _ _ q3,fun _ _ _=>0,fun b' k=>by rw[sumF_zero];simp,fun j y hy=>?_⟩
          have fz:∀ b' k,1<=F2' b' k+(rng ad0.block 0 (cap*e.sz) b' k+sumF (List.length v) (updF Fi i G) b' k)->rng ad0.block 0 (cap*e.sz) b' k=0->A3 b' k:=hfr
          rcases hset j y hy with ⟨rfl,rfl⟩ | ⟨hji,hy'⟩
          ·refine ⟨_,hl3,hL3,?_⟩
           have hr3:=k3 A3 hA3 fun b' k hp hz=>fz b' k (by have:=hGle b' k;omega) (by
            have h5:=hsum b' k;have:=hGle b' k;omega)
           rw[hH3] at hr3
           refine Ro.rep e _ (roMd_noOwn e) (Rep.toRo (fun _ _ h=>h) e hr3 fun b' k hp=>fz b' k ?_ ?_)
           ·have:=k2 b' k;have:=hGle b' k;omega
           ·have h5:=hsum b' k;have:=hGle b' k;have:=k2 b' k;omega
          ·obtain ⟨Lj,hlj,hLj2,_,_,hrj2⟩:=others A3 hA3 j y hji hy'
           have hj:j < List.length v:=(List.getElem?_eq_some_iff.1 hy').1
           refine ⟨Lj,hlj,hLj2,Ro.rep e _ (roMd_noOwn e) (Rep.toRo (fun _ _ h=>h) e hrj2 fun b' k hp=>?_)⟩
           have h1:=le_sumF (updF Fi i G) hj b' k
           have e1:updF Fi i G j=Fi j:=by simp[updF,hji]
           rw[e1] at h1
           have h5:=hsum b' k
           exact fz b' k (by omega) (by omega)
         ·cases k1
    ·cases h
  | arr n e=>
   cases s with
   | fst=>simp[modK] at h
   | snd=>simp[modK] at h
   | idx i=>simp[modK] at h
   | aix i=>
    obtain ⟨rfl,hf,hl,hlen,hr⟩:=hr
    simp only[modK,List.isEmpty_nil,if_true] at h
    cases hx:(v:List e.den)[i]? with
    | none=>rw[hx] at h;cases h
    | some x=>
     rw[hx] at h
     simp only[Option.bind_some] at h
     have hi:i < n:=hl ▸ (List.getElem?_eq_some_iff.1 hx).1
     have hin:∀ j,j < n->j*e.sz+e.sz<=cs.length:=fun j hj=>by
      have:(j+1)*e.sz<=n*e.sz:=Nat.mul_le_mul_right _ hj
      rw[Nat.add_mul] at this;omega
     have hsl:∀ j,j < n->((cs.drop (j*e.sz)).take e.sz).length=e.sz:=fun j hj=>by have:=hin j hj;simp;omega
     obtain ⟨t',m',H',v',cs',ad',F',G,kk,loc,M⟩:=ih e h (Ro.flat e (fun _ _=>0) hf (hr i x hx)) (fun _ _=>Nat.zero_le _) (ad:=shiftA ad (i*e.sz)) (fun b' o hb j u hu=>by
      cases ad with
      | none=>cases hb
      | some y=>
       simp only[shiftA,Option.map_some,Option.some.injEq,Prod.mk.injEq] at hb
       obtain ⟨rfl,rfl⟩:=hb
       rw[List.getElem?_take] at hu
       split at hu
       ·rw[List.getElem?_drop] at hu
        have:=had y.1 y.2 rfl _ u hu
        rwa [Nat.add_assoc]
       ·cases hu) (fun _ _ _ _ _=>rfl)
     have hG0:∀ b k,G b k=0:=fun b k=>by have:=M.sum b k;omega
     have hF0:∀ b k,F' b k=0:=fun b k=>by have:=M.sum b k;omega
     have hnone:∀ h:loc=none,t'.sz=0:=fun h=>by
      obtain ⟨b',o,e1,e2⟩:=M.out h
      rcases Nat.eq_zero_or_pos t'.sz with h0 | h0
      ·exact h0
      ·have:=(e2 0 h0).1;rw[hG0] at this;omega
     refine ⟨t',m',H',v',cs',ad',F',F,kk,loc.map (i*e.sz+·),M.run,fun K0=>by simp only[navK,List.isEmpty_nil,if_true,hx,Option.bind_some];exact M.nav K0,by simp only[plc,List.isEmpty_nil,if_true,hi];exact M.place,M.rep,fun b k=>by rw[hF0];omega,M.has,?_,(fun h=>by rw[M.locn (by simpa [nidx] using h)];rfl),?_,?_⟩
     ·intro off' ho
      obtain ⟨off,ho2,rfl⟩:=Option.map_eq_some_iff.1 ho
      obtain ⟨q1,q2,q3⟩:=M.inn off ho2
      have:=hin i hi
      refine ⟨by simp only[Ty.sz];omega,?_,by rw[q3];cases ad <;> simp[shiftA,Nat.add_assoc]⟩
      rw[q2,List.drop_take,List.take_take,List.drop_drop]
      congr 1;omega
     ·intro ho
      obtain ⟨b',o,q1,q2⟩:=M.out (by simpa using ho)
      have:=hnone (by simpa using ho)
      exact ⟨b',o,q1,fun j hj=>by omega⟩
     ·intro m2 H2 v2 hk w2 A2 cs2 F2' hb hA hcA hG had2 hr2 hsum
      obtain ⟨m3,H3,v3,F3,k1,k2,k3,k4⟩:=M.back m2 H2 v2 hk w2 A2 cs2 F2' hb hA hcA (fun b' i hp hn=>by rw[hG0] at hp;omega) had2 hr2 (fun b' i=>by have:=hsum b' i;rw[hG0];omega)
      have hl2:=Rep.length t' hr2
      split at k1
      ·rename_i hH3
       have hH3:H3=[]:=List.isEmpty_iff.1 hH3
       have hcs:repl (loc.map (i*e.sz+·)) cs t'.sz cs2=spl cs (i*e.sz) e.sz (repl loc ((cs.drop (i*e.sz)).take e.sz) t'.sz cs2):=by
        cases loc with
        | none=>simp only[repl,Option.map_none];exact (spl_self (hin i hi)).symm
        | some off=>
         have:=(M.inn off rfl).1
         exact (spl_spl this (hin i hi) hl2).symm
       have hrl:(repl loc ((cs.drop (i*e.sz)).take e.sz) t'.sz cs2).length=e.sz:=by
        cases loc with
        | none=>exact hsl i hi
        | some off=>have:=(M.inn off rfl).1;simp only[repl];rw[spl_length (by rw[hsl i hi];omega) hl2,hsl i hi]
       have hpart:∀ j,j < n->((repl (loc.map (i*e.sz+·)) cs t'.sz cs2).drop (j*e.sz)).take e.sz=if j=i then repl loc ((cs.drop (i*e.sz)).take e.sz) t'.sz cs2 else (cs.drop (j*e.sz)).take e.sz:=fun j hj=>by
        rw[hcs]
        apply List.ext_getElem?
        intro k
        rw[List.getElem?_take]
        split
        ·rename_i hk
         rw[List.getElem?_drop,spl_get (hin i hi) hrl]
         by_cases hji:j=i
         ·subst hji
          rw[if_pos (by omega),if_pos rfl];congr 1;omega
         ·rw[if_neg hji,List.getElem?_take,if_pos hk,List.getElem?_drop,if_neg]
          have hne:j < i\/i < j:=by omega
          rcases hne with hlt' | hlt'
          ·have:(j+1)*e.sz<=i*e.sz:=Nat.mul_le_mul_right _ hlt'
           rw[Nat.add_mul] at this;omega
          ·have:(i+1)*e.sz<=j*e.sz:=Nat.mul_le_mul_right _ hlt'
           rw[Nat.add_mul] at this;omega
        ·rename_i hk
         by_cases hji:j=i
         ·rw[if_pos hji,List.getElem?_eq_none (by omega)]
         ·rw[if_neg hji,List.getElem?_eq_none (by rw[hsl j hj];omega)]
       have hsame:∀ d full,Stab d full w t' H' cs' ad' w2 H2 cs2->full->repl (loc.map (i*e.sz+·)) cs t'.sz cs2=cs:=fun d full hd hfull=>by
        obtain ⟨H5,c5,e1,e2⟩:=hd [] ⟨t',H',cs',ad'⟩ (Nat.zero_le _) rfl
        simp only[plc,Option.some.injEq,Pl.mk.injEq] at e1
        have e3:cs2=cs':=e1.2.2.1.trans (e2 (.inr hfull))
        cases loc with
        | none=>rfl
        | some off=>
         have:=M.inn off rfl
         have:=hin i hi
         rw[e3,(M.inn off rfl).2.1,List.drop_take,List.take_take,show min t'.sz (e.sz - off)=t'.sz by omega,List.drop_drop]
         exact spl_self (show i*e.sz+off+t'.sz<=cs.length by omega)
       have hlen2:(repl (loc.map (i*e.sz+·)) cs t'.sz cs2).length=n*e.sz:=by rw[hcs,spl_length (hin i hi) hrl,hlen]
       refine ⟨_,_,_,fun b' k=>F3 b' k+F b' k,k1,fun b' k=>by have:=k2 b' k;have:=hG0 b' k;show F3 b' k+F b' k<=_;omega,fun A3 hA3 hfr=>?_,fun d full hd=>?_⟩
       ·refine ⟨rfl,hf,by simpa using hl,hlen2,fun j y hy=>?_⟩
        have hj:j < n:=by have:=(List.getElem?_eq_some_iff.1 hy).1;rw[List.length_set] at this;omega
        rw[hpart j hj]
        rw[List.getElem?_set] at hy
        split at hy
        ·rename_i hij
         subst hij
         have hy:some v3=some y:=by
          split at hy
          ·exact hy
          ·cases hy
         injection hy with hy
         rw[if_pos rfl,<- hy]
         exact Rep.flat e hf (k3 A3 hA3 fun b' k hp hz=>hfr b' k (by have:=hG0 b' k;omega) (by have:=hsum b' k;have:=hG0 b' k;show F3 b' k+F b' k=0;omega))
        ·rename_i hij
         rw[if_neg (fun h=>hij h.symm)]
         exact Ro.mono hcA (fun b' k ha=>hA3 b' k (hA b' k ha)) e (hr j y hy)
       ·intro q pl hq hp
        cases q with
        | nil=>
         simp only[plc,Option.some.injEq] at hp;subst hp
         refine ⟨_,_,rfl,fun h=>?_⟩
         rcases h with ⟨_,hs⟩ | hfull
         ·simp[isSlc] at hs
         ·exact hsame d full hd hfull
        | cons s q=>
         cases s with
         | fst=>simp[plc] at hp
         | snd=>simp[plc] at hp
         | idx j=>simp[plc] at hp
         | aix j=>
          simp only[plc,List.isEmpty_nil,if_true] at hp
          split at hp
          ·rename_i hj
           by_cases hji:j=i
           ·subst hji
            obtain ⟨H5,cs5,e1,e2⟩:=k4 d full hd q pl (by simp only[nidx] at hq;omega) hp
            refine ⟨H5,cs5,?_,fun hd'=>e2 (hd'.imp (fun h=>⟨by have:=h.1;simp only[nidx] at this;omega,h.2⟩) id)⟩
            simp only[plc,List.isEmpty_nil,if_true,hj]
            rw[hpart j hj,if_pos rfl]
            rw[hH3] at e1
            exact e1
           ·refine ⟨pl.H,pl.cs,?_,fun _=>rfl⟩
            simp only[plc,List.isEmpty_nil,if_true,hj]
            rw[hpart j hj,if_neg hji]
            exact plc_frame hcA q e (Ro.flat e (m:=.leaf) (fun _ _=>0) hf (hr j _ (List.getElem?_eq_getElem (by rw[hl];exact hj)))) (fun b k hp=>by simp at hp) hp
          ·cases hp
      ·cases k1
  | _=>cases s <;> simp[modK] at h
end
end OT
set_option linter.unusedVariables false
set_option linter.unusedSimpArgs false
namespace OT
open Go
def tmp (a:Act) (i:Nat):Value:=a.tmps.getD i undef
section
variable {P:Program} {w:World} {A:Cells}
theorem Ro.one:∀ (t:Ty) {v:t.den} {cs:List Value},Ro P w A t v cs->∀ x ∈ cs,x.oneCell'=true:=by
 intro t
 induction t with
 | pair a b iha ihb=>
  intro v cs h x hx
  rw[<-List.take_append_drop a.sz cs] at hx
  rcases List.mem_append.1 hx with hx | hx
  ·exact iha h.1 x hx
  ·exact ihb h.2 x hx
 | arr n e ih=>
  intro v cs h x hx
  obtain ⟨hf,hl,hlen,hr⟩:=h
  obtain ⟨k,hk,rfl⟩:=List.mem_iff_getElem.1 hx
  rw[hlen] at hk
  have hsz:0 < e.sz:=by
   grind
  have hi:k / e.sz < n:=(Nat.div_lt_iff_lt_mul hsz).2 hk
  refine ih (hr (k / e.sz) _ (List.getElem?_eq_getElem (by grind))) _ ?_
  rw[List.mem_iff_getElem?]
  refine ⟨k % e.sz,?_⟩
  grind [Nat.mod_lt,Nat.div_add_mod]
 | slc e ih=>rintro v cs ⟨a,cap,rfl,_⟩ x hx;simp at hx;subst hx;rfl
 | ptr e ih=>rintro v cs ⟨a,rfl,_⟩ x hx;simp at hx;subst hx;rfl
 | fn=>rintro v cs ⟨a,rfl,_⟩ x hx;simp at hx;subst hx;rfl
 | map k v=>rintro v cs ⟨_,_,r,kvs,rfl,_⟩ x hx;simp at hx;subst hx;rfl
 | unit=>grind [Ro]
 | _=>intro v cs h x hx;simp only[Ro] at h;subst h;simp at hx;subst hx;rfl
theorem Rep.one:∀ (t:Ty) {m:Md} {H:List Path} {v:t.den} {cs:List Value} {F:FP},Rep P w A t m H v cs F->∀ x ∈ cs,x.oneCell'=true:=by
 intro t
 induction t with
 | pair a b iha ihb=>
  intro m H v cs F h x hx
  obtain ⟨_,F1,F2,_,h1,h2⟩:=h
  grind [List.take_append_drop]
 | slc e ih=>
  intro m H v cs F h x hx
  simp only[Rep] at h
  split at h
  ·grind
  ·split at h
   ·obtain ⟨a,cap,rfl,_⟩:=h;simp at hx;subst hx;rfl
   grind [Ro.one]
 | ptr e ih=>
  intro m H v cs F h x hx
  simp only[Rep] at h
  split at h
  ·grind
  ·split at h
   ·obtain ⟨a,rfl,_⟩:=h;simp at hx;subst hx;rfl
   grind [Ro.one]
 | arr n e ih=>intro m H v cs F h;exact Ro.one _ h.2
 | map k v=>
  intro m H v cs F h x hx
  simp only[Rep] at h
  split at h
  ·grind
  ·split at h
   ·obtain ⟨_,_,r,kvs,rfl,_⟩:=h;simp at hx;subst hx;rfl
   grind [Ro.one]
 | _=>intro m H v cs F h;exact Ro.one _ h
end
theorem mkV_cells {t:Ty} {cs:List Value} (hl:cs.length=t.sz) (h1:∀ x ∈ cs,x.oneCell'=true):(mkV t cs).cells.toList=cs:=by
 unfold mkV
 split
 ·simp[Value.cells]
 ·rename_i h
  have:t.sz=1:=by cases t <;> simp_all [isAgg,Ty.sz]
  match cs,hl with
  | [x],_=>
   have:=h1 x (by simp)
   cases x <;> simp_all [Value.cells,Value.oneCell']
  | [],hl=>grind
  | _::_::_,hl=>grind
def Below (snap v:List Nat):Prop:=∀ (j x:Nat),snap[j]?=some x->∃ y,v[j]?=some y/\x<=y
theorem preB_iff:∀ (s v:List Nat),preB s v=true↔∀ (j x:Nat),s[j]?=some x->v[j]?=some x
 | [],v=>by simp[preB]
 | a::s,[]=>by
  simp only[preB,Bool.false_eq_true,false_iff]
  intro h
  have:=h 0 a rfl
  cases this
 | a::s,b::v=>by
  simp only[preB,Bool.and_eq_true,Nat.beq_eq,preB_iff s v]
  constructor
  ·grind
  ·intro h
   refine ⟨by have:=h 0 a rfl;simpa using this.symm,fun j x hj=>h (j+1) x hj⟩
theorem ok_back {s v v':List Nat} (hs:Below s v) (hv:Below v v') (h:preB s v'=true):preB s v=true/\∀ (j:Nat),j < s.length->v[j]?=v'[j]?:=by
 have key:∀ (j x:Nat),s[j]?=some x->v[j]?=some x/\v'[j]?=some x:=fun j x hj=>by
  obtain ⟨y,hy,hxy⟩:=hs j x hj
  obtain ⟨z,hz,hyz⟩:=hv j y hy
  grind [preB_iff]
 grind [preB_iff]
theorem Below.trans {s v v':List Nat} (h1:Below s v) (h2:Below v v'):Below s v':=fun j x hj=>by
 obtain ⟨y,hy,hxy⟩:=h1 j x hj
 obtain ⟨z,hz,hyz⟩:=h2 j y hy
 grind
theorem Below.refl (s:List Nat):Below s s:=fun j x hj=>⟨x,hj,Nat.le_refl _⟩
def rootPl (w:World) (tv:Value):Slot->Option Pl
 | .own t _ H _=>some ⟨t,H,tv.cells.toList,none⟩
 | .box t _ H _=>match tv with
  | .pointer (some a)=>some ⟨t,H,rd w a.block a.off t.sz,some (a.block,a.off)⟩
  | _=>none
 | _=>none
def place (σ:St) (a:Act) (w:World) (r:Nat) (p:Path):Option Pl:=
 (rootPl w (tmp a r) (σ.get r)).bind fun R=>plc w p R.t R.H R.cs R.ad
def RefRel (σ:St) (a:Act) (w:World) (tv:Value) (r:Nat) (p:Path) (snap:List Nat):Prop:=
 Below snap (σ.ver r)/\(σ.ok r snap=true->∃ pl,place σ a w r p=some pl/\tv=mkV pl.t pl.cs/\((isSlc pl.t=true/\snap.length=min 5 (2+nidx p))\/snap.length=5))
def PtrRel (σ:St) (a:Act) (w:World) (tv:Value) (r:Nat) (p:Path) (snap:List Nat):Prop:=
 Below snap (σ.ver r)/\(σ.ok r snap=true->∃ pl b o,place σ a w r p=some pl/\pl.ad=some (b,o)/\tv=.pointer (some ⟨b,o,none⟩)/\snap.length=min 5 (1+nidx p))
def SubRel (σ:St) (a:Act) (w:World) (tv:Value) (r:Nat) (p:Path) (snap:List Nat) (lo hi:Nat):Prop:=
 Below snap (σ.ver r)/\(σ.ok r snap=true->∃ pl e x n cap x' cap',place σ a w r p=some pl/\pl.t=.slc e/\pl.cs=[.slice x n cap]/\lo<=hi/\hi<=n/\tv=.slice x' (hi - lo) cap'/\cap'+lo=cap/\(lo=0->x'=x) /\
  (x=none->x'=none)/\(∀ ad,x=some ad->∃ ad',x'=some ad'/\ad'.spot=ad.spot/\ad'.block=ad.block/\(lo < hi->ad'.off=ad.off+lo*e.sz))/\(snap.length=min 5 (2+nidx p)\/snap.length=5))
section
variable (P:Program) (A:Cells)
def ResRel (w:World) (x:Res) (tv:Value) (F:FP):Prop:=x.t=.unit\/∃ cs,tv=mkV x.t cs/\Rep P w A x.t x.m [] x.v cs F
def SlotRel (σ:St) (a:Act) (w:World) (tv:Value):Slot->FP->Prop
 | .dead,_=>True
 | .nils,_=>tv=.slice none 0 0
 | .val t v,_=>∃ cs,tv=mkV t cs/\Ro P w A t v cs
 | .cp t v,_=>Ro P w A (.ptr t) v [tv]
 | .own t m H v,F=>∃ cs,tv=mkV t cs/\Rep P w A t m H v cs F
 | .box t m H v,F=>∃ b o L F1,tv=.pointer (some ⟨b,o,none⟩)/\L.length=t.sz/\Has w b o L/\(∀ j,j < t.sz->w.frozen? ⟨b,o+j,none⟩=false) /\
   (∀ x i,rng b o t.sz x i+F1 x i<=F x i)/\Rep P w A t m H v L F1
 | .ref r p snap,_=>RefRel σ a w tv r p snap
 | .ptr r p snap,_=>PtrRel σ a w tv r p snap
 | .sub r p snap lo hi,_=>SubRel σ a w tv r p snap lo hi
 | .tup xs,F=>∃ (vs:Array Value) (Fi:Nat->FP),tv=.tuple vs/\(∀ b i,sumF xs.length Fi b i<=F b i)/\∀ j x,xs[j]?=some x->∃ v,vs[j]?=some v/\ResRel P A w x v (Fi j)
end
structure Ext (w w':World) (F:FP):Prop where
 size:w.heap.size<=w'.heap.size
 cell:∀ b i,b < w.heap.size->F b i=0->∀ u,ce w b i=some u->ce w' b i=some u
 blk:∀ b n,OwnBlk w b n->OwnBlk w' b n
 froz:∀ b i,b < w.heap.size->w'.frozen? ⟨b,i,none⟩=w.frozen? ⟨b,i,none⟩
 os:w'.os=w.os
 tape:w'.tape=w.tape
 output:w'.output=w.output
 obj:∀ b,b < w.heap.size->(∀ i,F b i=0)->w'.heap[b]?=w.heap[b]?
 drawn:w.drawn<=w'.drawn
def hasTab (P:Program):Bool:=(P.globalNamed "internal/strconv.uint64pow10").isSome||(P.globalNamed "internal/bytealg.MaxLen").isSome
def TabAt (P:Program) (w:World) (F0:FP):Prop:=hasTab P=true->(∃ w0:World,(w0.ShapedOpen P/\((P.globalNamed "internal/strconv.uint64pow10").isSome=true->Go.Lib.TabIs P w0 "internal/strconv.uint64pow10" .u64 Go.Lib.pow10Tab))/\∀ b,b < P.globals.size->w.heap[b]?=w0.heap[b]?) /\
 P.globals.size<=w.heap.size/\∀ b i,b < P.globals.size->F0 b i=0
theorem TabAt.ext {P:Program} {w w':World} {F0 G:FP} (h:TabAt P w F0) (he:Ext w w' F0) (hG:∀ b i,1<=G b i->1<=F0 b i\/w.heap.size<=b):TabAt P w' G:=fun e=>by
 obtain ⟨⟨w0,g,hw⟩,hs,hf⟩:=h e
 refine ⟨⟨w0,g,fun b hb=>?_⟩,Nat.le_trans hs he.size,fun b i hb=>?_⟩
 ·rw[he.obj b (by omega) (fun i=>hf b i hb)];exact hw b hb
 grind
structure Ctx where
 w0:World
 A0:Cells
 F0:FP
 args:Array Value
structure Rel (P:Program) (C:Ctx) (A:Cells) (X:FP) (σ:St) (a:Act) (w:World) (F:Nat->FP):Prop where
 size:a.tmps.size=σ.n
 defers:a.defers=[]
 slots:∀ i,i < σ.n->SlotRel P A σ a w (tmp a i) (σ.get i) (F i)
 gh:∀ d r p snap,(d,r,p,snap) ∈ σ.gh->RefRel σ a w (tmp a d) r p snap
 tot:∀ b i,X b i+sumF σ.n F b i<=1
 dis:∀ b i,1<=X b i+sumF σ.n F b i->¬ A b i
 bnd:∀ b i,1<=X b i+sumF σ.n F b i\/A b i->b < w.heap.size
 vlen:∀ i,(σ.ver i).length=5
 ext:Ext C.w0 w C.F0
 own:∀ b i,1<=X b i+sumF σ.n F b i->1<=C.F0 b i\/C.w0.heap.size<=b
 a0:∀ b i,C.A0 b i->A b i
 a1:∀ b i,A b i->C.A0 b i\/1<=C.F0 b i\/C.w0.heap.size<=b
 lentP:∀ j k,(j,k,false) ∈ σ.lent->tmp a j=C.args.getD k undef
 whole:∀ r t m H v,σ.get r=.box t m H v->(∀ k,(r,k,false) ∉ σ.lent)->∃ b,tmp a r=.pointer (some ⟨b,0,none⟩)/\OwnBlk w b (t.sz,false)
 lentS:∀ j k,(j,k,true) ∈ σ.lent->∀ R,rootPl w (tmp a j) (σ.get j)=some R->mkV R.t R.cs=C.args.getD k undef
 tab:TabAt P C.w0 C.F0
theorem Rel.tabAt {P:Program} {C:Ctx} {A:Cells} {X:FP} {σ:St} {a:Act} {w:World} {F:Nat->FP} (h:Rel P C A X σ a w F) {G:FP} (hG:∀ b i,1<=G b i->1<=X b i+sumF σ.n F b i):TabAt P w G:=
 h.tab.ext h.ext fun b i hp=>h.own b i (hG b i hp)
def Pres (σ:St) (a:Act) (w:World) (σ':St) (a':Act) (w':World):Prop:=
 ∀ r p snap,Below snap (σ.ver r)->Below snap (σ'.ver r)/\(σ'.ok r snap=true->σ.ok r snap=true /\
  (snap.length=min 5 (1+nidx p)\/snap.length=min 5 (2+nidx p)\/snap.length=5->∀ pl,place σ a w r p=some pl->∃ H' cs',place σ' a' w' r p=some ⟨pl.t,H',cs',pl.ad⟩ /\
   ((isSlc pl.t=true/\snap.length=min 5 (2+nidx p))\/snap.length=5->cs'=pl.cs)))
section
variable {P:Program} {A A':Cells} {σ σ':St} {a a':Act} {w w':World} {tv:Value} {F:FP}
theorem RefRel.pres (hp:Pres σ a w σ' a' w') {r:Nat} {p:Path} {snap:List Nat} (h:RefRel σ a w tv r p snap):RefRel σ' a' w' tv r p snap:=by
 obtain ⟨h1,h2⟩:=h
 obtain ⟨h3,h4⟩:=hp r p snap h1
 refine ⟨h3,fun hok=>?_⟩
 grind
theorem PtrRel.pres (hp:Pres σ a w σ' a' w') {r:Nat} {p:Path} {snap:List Nat} (h:PtrRel σ a w tv r p snap):PtrRel σ' a' w' tv r p snap:=by
 obtain ⟨h1,h2⟩:=h
 obtain ⟨h3,h4⟩:=hp r p snap h1
 refine ⟨h3,fun hok=>?_⟩
 grind
theorem SubRel.pres (hp:Pres σ a w σ' a' w') {r:Nat} {p:Path} {snap:List Nat} {lo hi:Nat} (h:SubRel σ a w tv r p snap lo hi):SubRel σ' a' w' tv r p snap lo hi:=by
 obtain ⟨h1,h2⟩:=h
 obtain ⟨h3,h4⟩:=hp r p snap h1
 refine ⟨h3,fun hok=>?_⟩
 grind [isSlc]
theorem SlotRel.pres (hp:Pres σ a w σ' a' w') (hA:∀ b i,A b i->A' b i) (hc:∀ b i,A b i->∀ u,ce w b i=some u->ce w' b i=some u) (hb:∀ b n,OwnBlk w b n->OwnBlk w' b n)
  (hF:∀ b i,1<=F b i->(∀ u,ce w b i=some u->ce w' b i=some u)/\w'.frozen? ⟨b,i,none⟩=w.frozen? ⟨b,i,none⟩) {s:Slot} (h:SlotRel P A σ a w tv s F):SlotRel P A' σ' a' w' tv s F:=by
 cases s with
 | dead=>trivial
 | nils=>exact h
 | val t v=>obtain ⟨cs,h1,h2⟩:=h;exact ⟨cs,h1,Ro.mono hc hA t h2⟩
 | cp t v=>exact Ro.mono hc hA (.ptr t) h
 | own t m H v=>obtain ⟨cs,h1,h2⟩:=h;exact ⟨cs,h1,Rep.mono hA hc hb t h2 (fun _ _=>Nat.le_refl _) (fun b i hp=>(hF b i hp).1)⟩
 | box t m H v=>
  obtain ⟨b,o,L,F1,h1,h2,h3,h4,h5,h6⟩:=h
  have hr:∀ j,j < t.sz->1<=F b (o+j):=fun j hj=>by
   grind [rng]
  exact ⟨b,o,L,F1,h1,h2,fun j u hu=>(hF _ _ (hr j (h2 ▸ (List.getElem?_eq_some_iff.1 hu).1))).1 u (h3 j u hu),fun j hj=>by grind,h5,
   Rep.mono hA hc hb t h6 (fun _ _=>Nat.le_refl _) (fun b i hp=>(hF b i (by grind)).1)⟩
 | ref r p snap=>exact RefRel.pres hp h
 | ptr r p snap=>exact PtrRel.pres hp h
 | sub r p snap lo hi=>exact SubRel.pres hp h
 | tup xs=>
  obtain ⟨vs,Fi,h1,h2,h3⟩:=h
  refine ⟨vs,Fi,h1,h2,fun j x hx=>?_⟩
  obtain ⟨v,h4,h5⟩:=h3 j x hx
  refine ⟨v,h4,h5.imp id fun ⟨cs,h6,h7⟩=>⟨cs,h6,Rep.mono hA hc hb x.t h7 (fun _ _=>Nat.le_refl _) (fun b i hp=>(hF b i ?_).1)⟩⟩
  grind [le_sumF]
end
end OT
set_option linter.unusedVariables false
set_option linter.unusedSimpArgs false
namespace OT
open Go
theorem lookN_cons {α:Type} (k:Nat) (x:α) (l:List (Nat×α)) (i:Nat):lookN ((k,x)::l) i=if k=i then some x else lookN l i:=by
 simp_all [lookN]
theorem get_put (σ:St) (d:Nat) (s:Slot) (i:Nat):(σ.put d s).get i=if d=i/\i < σ.n then s else σ.get i:=by
 grind [St.get,St.put,lookN_cons,Nat.blt_eq]
theorem get_upd (σ:St) (d:Nat) (s:Slot) (i:Nat):(σ.upd d s).get i=if d=i/\i < σ.n then s else σ.get i:=by
 grind [St.get,St.upd,lookN_cons,Nat.blt_eq]
theorem ver_put (σ:St) (d:Nat) (s:Slot) (i:Nat):(σ.put d s).ver i=if d=i then bumpBase (σ.ver d) else σ.ver i:=by
 grind [St.ver,St.put,lookN_cons]
theorem ver_setVer (σ:St) (d:Nat) (f:List Nat->List Nat) (i:Nat):(σ.setVer d f).ver i=if d=i then f (σ.ver d) else σ.ver i:=by
 grind [St.ver,St.setVer,lookN_cons]
theorem mem_unlend {l:List (Nat×Nat×Bool)} {d:Nat} {e:Nat×Nat×Bool} (h:e ∈ unlend l d):e ∈ l/\e.1≠d:=by
 induction l with
 | nil=>cases h
 | cons x l ih=>
  obtain ⟨k,b⟩:=x
  simp only[unlend] at h
  split at h
  ·grind
  ·rename_i hk
   rcases List.mem_cons.1 h with rfl | h
   all_goals simp_all
theorem unlend_mem {l:List (Nat×Nat×Bool)} {d:Nat} {e:Nat×Nat×Bool} (h:e ∈ l) (hd:e.1≠d):e ∈ unlend l d:=by
 induction l with
 | nil=>cases h
 | cons x l ih=>
  obtain ⟨k,b⟩:=x
  simp only[unlend]
  rcases List.mem_cons.1 h with rfl | h
  ·simp_all
  grind
theorem unhead_mem {l:List (Nat×Nat×Bool)} {d j k:Nat} (h:(j,k,false) ∈ l):(j,k,false) ∈ unhead l d:=by
 induction l <;> grind [unhead]
theorem mem_unhead {l:List (Nat×Nat×Bool)} {d:Nat} {e:Nat×Nat×Bool} (h:e ∈ unhead l d):e ∈ l/\¬ (e.1=d/\e.2.2=true):=by
 induction l with
 | nil=>cases h
 | cons x l ih=>
  obtain ⟨k,n,b⟩:=x
  simp only[unhead] at h
  split at h
  ·grind
  ·rename_i hk
   rcases List.mem_cons.1 h with rfl | h
   all_goals simp_all
theorem mem_ungh {l:List (Nat×Nat×Path×List Nat)} {d:Nat} {e:Nat×Nat×Path×List Nat} (h:e ∈ ungh l d):e ∈ l/\e.1≠d:=by
 induction l with
 | nil=>cases h
 | cons x l ih=>
  obtain ⟨k,b⟩:=x
  simp only[ungh] at h
  split at h
  ·grind
  ·rename_i hk
   rcases List.mem_cons.1 h with rfl | h
   all_goals simp_all
theorem below_bumpBase (v:List Nat):Below v (bumpBase v):=fun j x hj=>⟨x+1,by simp[bumpBase,hj],by omega⟩
theorem len5 {v:List Nat} (h:v.length=5):∃ b x y z w,v=[b,x,y,z,w]:=by
 match v,h with
 | [b,x,y,z,w],_=>grind
theorem below5 {b x y z w b' x' y' z' w':Nat} (h0:b<=b') (h1:x<=x') (h2:y<=y') (h3:z<=z') (h4:w<=w'):Below [b,x,y,z,w] [b',x',y',z',w']:=by
 intro j n hj
 grind
theorem below_bumpAt (d:Nat) {v:List Nat} (h:v.length=5):Below v (bumpAt d v):=by
 obtain ⟨b,x,y,z,w,rfl⟩:=len5 h
 match d with
 | 0 | 1 | 2 | n+3=>exact below5 (by omega) (by omega) (by omega) (by omega) (by omega)
theorem below_bumpW {v:List Nat} (h:v.length=5):Below v (bumpW v):=by
 obtain ⟨b,x,y,z,w,rfl⟩:=len5 h
 exact below5 (by omega) (by omega) (by omega) (by omega) (by omega)
theorem len_bumpBase {v:List Nat}:(bumpBase v).length=v.length:=by simp[bumpBase]
theorem len_bumpAt (d:Nat) {v:List Nat} (h:v.length=5):(bumpAt d v).length=5:=by
 obtain ⟨b,x,y,z,w,rfl⟩:=len5 h
 match d with
 | 0 | 1 | 2 | n+3=>rfl
theorem len_bumpW {v:List Nat} (h:v.length=5):(bumpW v).length=5:=by
 obtain ⟨b,x,y,z,w,rfl⟩:=len5 h
 rfl
theorem ok_len {s v v':List Nat} (hs:Below s v) (hv:Below v v') (h:preB s v'=true) {j:Nat} (hj:v[j]?≠v'[j]?):s.length<=j:=by
 rcases Nat.lt_or_ge j s.length with h' | h'
 ·exact absurd ((ok_back hs hv h).2 j h') hj
 ·exact h'
theorem ok_bumpBase {s v:List Nat} (hl:v.length=5) (hs:Below s v) (h:preB s (bumpBase v)=true):s.length=0:=by
 obtain ⟨b,x,y,z,w,rfl⟩:=len5 hl
 have:=ok_len hs (below_bumpBase _) h (j:=0) (by simp[bumpBase])
 omega
theorem ok_bumpAt {s v:List Nat} (d:Nat) (hl:v.length=5) (hs:Below s v) (h:preB s (bumpAt d v)=true):s.length<=min 4 (1+d):=by
 have h4:s.length<=4:=by
  refine ok_len hs (below_bumpAt d hl) h ?_
  obtain ⟨b,x,y,z,w,rfl⟩:=len5 hl
  match d with
  | 0 | 1 | 2 | n+3=>simp[bumpAt]
 have hd:s.length<=1+d:=by
  rcases Nat.lt_or_ge d 3 with hd | hd
  ·refine ok_len hs (below_bumpAt d hl) h ?_
   obtain ⟨b,x,y,z,w,rfl⟩:=len5 hl
   match d,hd with
   | 0,_ | 1,_ | 2,_=>simp[bumpAt]
  ·omega
 omega
theorem ok_bumpW {s v:List Nat} (hl:v.length=5) (hs:Below s v) (h:preB s (bumpW v)=true):s.length<=4:=by
 refine ok_len hs (below_bumpW hl) h ?_
 grind [len5,bumpW]
section
variable {P:Program} {C:Ctx} {A A2:Cells} {X:FP} {σ:St} {a:Act} {w w2:World} {F:Nat->FP}
theorem tmp_put (a:Act) (d:Nat) (v:Value) (i:Nat):tmp (a.put (some d) v) i=if d=i/\i < a.tmps.size then v else tmp a i:=by
 simp only[tmp,Act.put,Array.getD_eq_getD_getElem?,Array.getElem?_setIfInBounds]
 grind
theorem rootPl_rep {tv:Value} {s:Slot} {G:FP} {R:Pl} (h:SlotRel P A σ a w tv s G) (hR:rootPl w tv s=some R) :
  ∃ (m:Md) (v:R.t.den) (F1:FP),Rep P w A R.t m R.H v R.cs F1/\(∀ b i,F1 b i<=G b i) /\
   (∀ b o,R.ad=some (b,o)->Has w b o R.cs/\(∀ x i,rng b o R.t.sz x i+F1 x i<=G x i)/\∀ j,j < R.t.sz->w.frozen? ⟨b,o+j,none⟩=false) /\
   ((∃ v',s=.own R.t m R.H v'/\HEq v v'/\R.ad=none)\/(∃ v',s=.box R.t m R.H v'/\HEq v v'/\R.ad.isSome=true)):=by
 cases s with
 | own t m H v=>
  simp only[rootPl,Option.some.injEq] at hR
  subst hR
  obtain ⟨cs,h1,h2⟩:=h
  refine ⟨m,v,G,?_,fun _ _=>Nat.le_refl _,(fun b o h=>by cases h),.inl ⟨v,rfl,HEq.rfl,rfl⟩⟩
  grind [mkV_cells,Rep.length,Rep.one]
 | box t m H v=>
  obtain ⟨b,o,L,F1,h1,h2,h3,h4,h5,h6⟩:=h
  grind [rootPl,rd_of_has]
 | _=>simp[rootPl] at hR
theorem rootPl_frame {tv:Value} {s:Slot} {G:FP} {R:Pl} (h:SlotRel P A σ a w tv s G) (hc:∀ b i,1<=G b i->∀ u,ce w b i=some u->ce w2 b i=some u)
  (hR:rootPl w tv s=some R):rootPl w2 tv s=some R:=by
 cases s with
 | own t m H v=>exact hR
 | box t m H v=>
  obtain ⟨b,o,L,F1,h1,h2,h3,h4,h5,h6⟩:=h
  subst h1
  simp only[rootPl,Option.some.injEq] at hR ⊢
  have:Has w2 b o L:=fun j u hu=>hc _ _ (by
   grind [rng]) u (h3 j u hu)
  grind [rd_of_has]
 | _=>simp[rootPl] at hR
theorem place_frame {σ':St} {a':Act} {r:Nat} {p:Path} {G:FP} {pl:Pl} (h:SlotRel P A σ a w (tmp a r) (σ.get r) G) (hg:σ'.get r=σ.get r) (ht:tmp a' r=tmp a r)
  (hA:∀ b i,A b i->∀ u,ce w b i=some u->ce w2 b i=some u) (hc:∀ b i,1<=G b i->∀ u,ce w b i=some u->ce w2 b i=some u)
  (hp:place σ a w r p=some pl):place σ' a' w2 r p=some pl:=by
 unfold place at hp ⊢
 rw[hg,ht]
 cases hR:rootPl w (tmp a r) (σ.get r) <;> grind [rootPl_frame,rootPl_rep,plc_frame]
theorem get_out {σ:St} {i:Nat} (h:¬ i < σ.n):σ.get i=.dead:=by simp[St.get,h]
theorem place_lt {r:Nat} {p:Path} {pl:Pl} (h:place σ a w r p=some pl):r < σ.n:=by
 grind [place,get_out,rootPl]
theorem Rel.put (h:Rel P C A X σ a w F) {d:Nat} (hd:d < σ.n) {s:Slot} {v:Value} {Fd X':FP} (hs:SlotRel P A σ a w v s Fd) (ht:∀ b i,X' b i+Fd b i<=X b i+F d b i)
  (hwh:∀ t m H v',s=.box t m H v'->∃ b,v=.pointer (some ⟨b,0,none⟩)/\OwnBlk w b (t.sz,false)) :
  Rel P C A X' (σ.put d s) (a.put (some d) v) w (updF F d Fd):=by
 have hsz:=h.size
 have hpres:Pres σ a w (σ.put d s) (a.put (some d) v) w:=by
  intro r p snap hb
  rw[ver_put,St.ok,ver_put]
  by_cases hr:d=r
  ·subst hr
   simp only[if_true]
   refine ⟨hb.trans (below_bumpBase _),fun hok=>?_⟩
   have h0:=ok_bumpBase (h.vlen d) hb hok
   exact ⟨(ok_back hb (below_bumpBase _) hok).1,fun hl=>by omega⟩
  ·simp only[if_neg hr]
   refine ⟨hb,fun hok=>⟨hok,fun hl pl hpl=>⟨pl.H,pl.cs,?_,fun _=>rfl⟩⟩⟩
   exact place_frame (h.slots r (place_lt hpl)) (by grind [get_put]) (by grind [tmp_put]) (fun _ _ _ _ h=>h) (fun _ _ _ _ h=>h) hpl
 have htot:∀ b i,X' b i+sumF σ.n (updF F d Fd) b i<=X b i+sumF σ.n F b i:=fun b i=>by
  grind [sumF_upd]
 refine ⟨by simp[Act.put,hsz,St.put],by simpa [Act.put] using h.defers,fun i hi=>?_,?_,fun b i=>Nat.le_trans (htot b i) (h.tot b i),fun b i hp=>h.dis b i (Nat.le_trans hp (htot b i)),
  fun b i hp=>h.bnd b i (hp.imp (fun hp=>Nat.le_trans hp (htot b i)) id),fun i=>?_,h.ext,fun b i hp=>h.own b i (Nat.le_trans hp (htot b i)),h.a0,h.a1,?_,?_,?_,h.tab⟩
 ·have hi:i < σ.n:=hi
  rw[get_put,tmp_put,hsz]
  by_cases hdi:d=i
  ·subst hdi
   rw[if_pos ⟨rfl,hi⟩,if_pos ⟨rfl,hi⟩]
   simp only[updF,if_true]
   exact SlotRel.pres hpres (fun _ _ h=>h) (fun _ _ _ _ h=>h) (fun _ _ h=>h) (fun _ _ _=>⟨fun _ h=>h,rfl⟩) hs
  ·rw[if_neg (fun h=>hdi h.1),if_neg (fun h=>hdi h.1)]
   simp only[updF,if_neg (fun h:i=d=>hdi h.symm)]
   exact SlotRel.pres hpres (fun _ _ h=>h) (fun _ _ _ _ h=>h) (fun _ _ h=>h) (fun _ _ _=>⟨fun _ h=>h,rfl⟩) (h.slots i hi)
 ·intro d' r p snap hm
  obtain ⟨hm,hne⟩:=mem_ungh hm
  rw[tmp_put,if_neg (fun h=>hne h.1.symm)]
  exact RefRel.pres hpres (h.gh d' r p snap hm)
 ·rw[ver_put]
  split
  ·rw[len_bumpBase];exact h.vlen d
  ·exact h.vlen i
 ·intro j k hm
  obtain ⟨hm,hne⟩:=mem_unlend hm
  rw[tmp_put,if_neg (fun h=>hne h.1.symm)]
  exact h.lentP j k hm
 ·intro r t m H v' hg hl
  rw[get_put] at hg
  rw[tmp_put,hsz]
  by_cases hdr:d=r/\r < σ.n
  ·grind
  ·rw[if_neg hdr] at hg ⊢
   refine h.whole r t m H v' hg fun k hm=>hl k (unlend_mem hm fun e=>hdr ⟨e.symm,?_⟩)
   grind
 ·intro j k hm R hR
  obtain ⟨hm,hne⟩:=mem_unlend hm
  rw[tmp_put,if_neg (fun h=>hne h.1.symm),get_put,if_neg (fun h=>hne h.1.symm)] at hR
  exact h.lentS j k hm R hR
theorem Rel.less (h:Rel P C A X σ a w F) {X':FP} (ht:∀ b i,X' b i<=X b i):Rel P C A X' σ a w F:=
 { h with
  tot:=fun b i=>by have:=h.tot b i;grind
  dis:=fun b i hp=>h.dis b i (by grind)
  bnd:=fun b i hp=>h.bnd b i (hp.imp (fun hp=>by grind) id)
  own:=fun b i hp=>h.own b i (by grind) }
theorem Ext.refl (w:World) (F:FP):Ext w w F:=⟨Nat.le_refl _,fun _ _ _ _ _ h=>h,fun _ _ h=>h,fun _ _ _=>rfl,rfl,rfl,rfl,fun _ _ _=>rfl,Nat.le_refl _⟩
theorem Ext.mono {F F':FP} (h:Ext w w2 F) (hF:∀ b i,F' b i=0->F b i=0):Ext w w2 F':={ h with cell:=fun b i hb hz=>h.cell b i hb (hF b i hz),obj:=fun b hb hz=>h.obj b hb fun i=>hF b i (hz i) }
theorem Ext.trans {w3:World} {F G:FP} (h:Ext w w2 F) (h2:Ext w2 w3 G) (hG:∀ b i,b < w.heap.size->F b i=0->G b i=0):Ext w w3 F:=
 ⟨Nat.le_trans h.size h2.size,fun b i hb hz u hu=>h2.cell b i (Nat.lt_of_lt_of_le hb h.size) (hG b i hb hz) u (h.cell b i hb hz u hu),fun b n hn=>h2.blk b n (h.blk b n hn),
  fun b i hb=>(h2.froz b i (Nat.lt_of_lt_of_le hb h.size)).trans (h.froz b i hb),h2.os.trans h.os,h2.tape.trans h.tape,h2.output.trans h.output,
  fun b hb hz=>(h2.obj b (Nat.lt_of_lt_of_le hb h.size) fun i=>hG b i hb (hz i)).trans (h.obj b hb hz),Nat.le_trans h.drawn h2.drawn⟩
theorem Rel.chg (h:Rel P C A X σ a w F) {r:Nat} (hr:r < σ.n) {σ':St} (hn:σ'.n=σ.n) (hget:∀ i,i≠r->σ'.get i=σ.get i) (hver:∀ i,i≠r->σ'.ver i=σ.ver i)
  (hvr:Below (σ.ver r) (σ'.ver r)) (hvl:(σ'.ver r).length=5) (hlent:∀ e,e ∈ σ'.lent->e ∈ σ.lent) (hlentF:∀ j k,(j,k,false) ∈ σ.lent->(j,k,false) ∈ σ'.lent) (hgh:∀ e,e ∈ σ'.gh->e ∈ σ.gh)
  {X2 Fr2:FP} {R:Pl} {H2:List Path} {cs2:List Value} (hs:SlotRel P A2 σ' a w2 (tmp a r) (σ'.get r) Fr2) (hR:rootPl w (tmp a r) (σ.get r)=some R)
  (hR2:rootPl w2 (tmp a r) (σ'.get r)=some ⟨R.t,H2,cs2,R.ad⟩)
  (hst:∀ (p:Path) (snap:List Nat),Below snap (σ.ver r)->σ'.ok r snap=true->(snap.length=min 5 (1+nidx p)\/snap.length=min 5 (2+nidx p)\/snap.length=5) ->
   ∃ D full,nidx p<=D/\(snap.length=min 5 (2+nidx p)->nidx p < D\/full)/\(snap.length=5->full)/\Stab D full w R.t R.H R.cs R.ad w2 H2 cs2)
  (hA:∀ b i,A b i->A2 b i) (hA2:∀ b i,A2 b i->A b i\/(1<=X b i+F r b i/\X2 b i+Fr2 b i=0))
  (hx:∀ b i,X2 b i+Fr2 b i<=X b i+F r b i) (hw:Ext w w2 fun b i=>X b i+F r b i) (hbox:∀ t m H v,σ'.get r=.box t m H v->∃ m0 H0 v0,σ.get r=.box t m0 H0 v0) (hlS:∀ k,(r,k,true) ∈ σ'.lent->cs2=R.cs) :
  Rel P C A2 X2 σ' a w2 (updF F r Fr2):=by
 have hle:∀ b i,X b i+F r b i<=X b i+sumF σ.n F b i:=fun b i=>by grind [le_sumF]
 have hcA:∀ b i,A b i->∀ u,ce w b i=some u->ce w2 b i=some u:=fun b i ha u hu=>by
  refine hw.cell b i (h.bnd b i (.inr ha)) ?_ u hu
  rcases Nat.eq_zero_or_pos (X b i+F r b i) with h0 | h0
  ·exact h0
  ·exact absurd ha (h.dis b i (Nat.le_trans h0 (hle b i)))
 have hcF:∀ j,j < σ.n->j≠r->∀ b i,1<=F j b i->(∀ u,ce w b i=some u->ce w2 b i=some u)/\w2.frozen? ⟨b,i,none⟩=w.frozen? ⟨b,i,none⟩:=fun j hj hjr b i hp=>by
  have h1:=le_sumF2 F hj hr hjr b i
  have h2:=h.tot b i
  have hb:=h.bnd b i (.inl (by grind))
  exact ⟨fun u hu=>hw.cell b i hb (by grind) u hu,hw.froz b i hb⟩
 have hpres:Pres σ a w σ' a w2:=by
  intro r' p snap hb
  by_cases hrr:r'=r
  ·subst hrr
   refine ⟨hb.trans hvr,fun hok=>?_⟩
   refine ⟨(ok_back hb hvr hok).1,fun hl pl hpl=>?_⟩
   obtain ⟨D,full,h1,h2,h3,h4⟩:=hst p snap hb hok hl
   unfold place at hpl ⊢
   rw[hR] at hpl
   rw[hR2]
   obtain ⟨H',cs',h5,h6⟩:=h4 p pl h1 hpl
   grind
  ·rw[St.ok,hver r' hrr]
   refine ⟨hb,fun hok=>⟨hok,fun hl pl hpl=>⟨pl.H,pl.cs,?_,fun _=>rfl⟩⟩⟩
   have hlt:=place_lt hpl
   exact place_frame (h.slots r' hlt) (hget r' hrr) rfl hcA (fun b i hp=>(hcF r' hlt hrr b i hp).1) hpl
 have htot:∀ b i,X2 b i+sumF σ.n (updF F r Fr2) b i<=X b i+sumF σ.n F b i:=fun b i=>by
  grind [sumF_upd]
 refine ⟨by rw[hn];exact h.size,h.defers,fun i hi=>?_,fun d r' p snap hm=>RefRel.pres hpres (h.gh d r' p snap (hgh _ hm)),fun b i=>by rw[hn];exact Nat.le_trans (htot b i) (h.tot b i),fun b i hp ha=>?_,
  fun b i hp=>?_,fun i=>?_,h.ext.trans hw fun b i hb hz=>?_,fun b i hp=>by rw[hn] at hp;exact h.own b i (Nat.le_trans hp (htot b i)),fun b i ha=>hA b i (h.a0 b i ha),fun b i ha=>?_,
  fun j k hm=>h.lentP j k (hlent _ hm),fun r' t m H v hg hl=>?_,fun j k hm R' hR'=>?_,h.tab⟩
 ·rw[hn] at hi
  by_cases hir:i=r
  ·grind [updF]
  ·simp only[updF,if_neg hir]
   rw[hget i hir]
   exact SlotRel.pres hpres hA hcA hw.blk (hcF i hi hir) (h.slots i hi)
 ·rw[hn] at hp
  rcases hA2 b i ha with ha | ⟨h1,h2⟩
  ·exact h.dis b i (Nat.le_trans hp (htot b i)) ha
  ·have h3:=h.tot b i
   grind [sumF_upd]
 ·rw[hn] at hp
  refine Nat.lt_of_lt_of_le (h.bnd b i ?_) hw.size
  grind
 ·by_cases hir:i=r
  ·grind
  ·rw[hver i hir];exact h.vlen i
 ·rcases Nat.eq_zero_or_pos (X b i+F r b i) with h0 | h0
  ·exact h0
  ·have:=h.own b i (Nat.le_trans h0 (hle b i));omega
 ·rcases hA2 b i ha with ha | ⟨h1,_⟩
  ·exact h.a1 b i ha
  ·exact .inr (h.own b i (Nat.le_trans h1 (hle b i)))
 ·have:∃ m0 H0 v0,σ.get r'=.box t m0 H0 v0:=by
   grind
  obtain ⟨m0,H0,v0,hg0⟩:=this
  obtain ⟨b,h1,h2⟩:=h.whole r' t m0 H0 v0 hg0 fun k hm=>hl k (hlentF _ _ hm)
  exact ⟨b,h1,hw.blk _ _ h2⟩
 ·by_cases hjr:j=r
  ·subst hjr
   rw[hR2] at hR'
   injection hR' with hR'
   subst hR'
   show mkV R.t cs2=_
   rw[hlS k hm]
   exact h.lentS j k (hlent _ hm) R hR
  ·rcases Nat.lt_or_ge j σ.n with hj | hj
   ·rw[hget j hjr] at hR'
    have hsl:=h.slots j hj
    cases hR0:rootPl w (tmp a j) (σ.get j) with
    | none=>exfalso;cases hg:σ.get j <;> rw[hg] at hR0 hR' <;> simp only[rootPl] at hR0 hR' <;> first | grind | grind | grind
    | some R0=>
     rw[rootPl_frame hsl (fun b i hp=>(hcF j hj hjr b i hp).1) hR0] at hR'
     injection hR' with hR'
     subst hR'
     exact h.lentS j k (hlent _ hm) _ hR0
   ·rw[get_out (by rw[hn];omega)] at hR';cases hR'
end
end OT
set_option linter.unusedVariables false
set_option linter.unusedSimpArgs false
namespace OT
open Go
def rngO (ad:Option (Nat×Nat)) (n:Nat):FP:=fun b i=>match ad with
 | some (b',o)=>rng b' o n b i
 | none=>0
section
variable {P:Program} {C:Ctx} {A:Cells} {X:FP} {σ:St} {a:Act} {w:World} {F:Nat->FP} {R:Type} {x:R}
theorem rootK_some {r:Nat} {K:(t:Ty)->Md->List Path->t.den->Option R} (h:rootK σ r K=some x) :
  r < σ.n/\∃ t m H v,(σ.get r=.own t m H v\/σ.get r=.box t m H v)/\K t m H v=some x:=by
 grind [rootK,get_out]
structure RootOk (P:Program) (A:Cells) (σ:St) (a:Act) (w:World) (r:Nat) (G:FP) (t:Ty) (m:Md) (H:List Path) (v:t.den) (cs:List Value) (ad:Option (Nat×Nat)) (F1:FP):Prop where
 root:rootPl w (tmp a r) (σ.get r)=some ⟨t,H,cs,ad⟩
 rep:Rep P w A t m H v cs F1
 le:∀ b i,rngO ad t.sz b i+F1 b i<=G b i
 has:∀ b o,ad=some (b,o)->Has w b o cs
 froz:∀ b o,ad=some (b,o)->∀ j,j < t.sz->w.frozen? ⟨b,o+j,none⟩=false
 val:ad=none->tmp a r=mkV t cs/\σ.get r=.own t m H v
 ptr:∀ b o,ad=some (b,o)->tmp a r=.pointer (some ⟨b,o,none⟩)/\σ.get r=.box t m H v
theorem SlotRel.root {r:Nat} {G:FP} (h:SlotRel P A σ a w (tmp a r) (σ.get r) G) {t:Ty} {m:Md} {H:List Path} {v:t.den} (hg:σ.get r=.own t m H v\/σ.get r=.box t m H v) :
  ∃ cs ad F1,RootOk P A σ a w r G t m H v cs ad F1:=by
 rcases hg with hg | hg
 ·rw[hg] at h
  obtain ⟨cs,h1,h2⟩:=h
  refine ⟨cs,none,G,by grind [rootPl,mkV_cells,Rep.length,Rep.one],h2,fun b i=>by simp[rngO],(fun b o h=>by cases h),(fun b o h=>by cases h),fun _=>⟨h1,hg⟩,(fun b o h=>by cases h)⟩
 ·rw[hg] at h
  obtain ⟨b,o,L,F1,h1,h2,h3,h4,h5,h6⟩:=h
  refine ⟨L,some (b,o),F1,by grind [rootPl,rd_of_has],h6,fun b i=>h5 b i,?_,?_,(fun h=>by cases h),?_⟩
  all_goals grind
theorem at_ok (h:Rel P C A X σ a w F) {r:Nat} {p:Path} {K:(t:Ty)->Md->List Path->t.den->Option R} (hk:atK σ r p K=some x) :
  r < σ.n/\∃ (t':Ty) (m':Md) (H':List Path) (v':t'.den) (cs':List Value) (ad':Option (Nat×Nat)) (F':FP),K t' m' H' v'=some x/\(∀ {S:Type} (K0:(t:Ty)->Md->List Path->t.den->Option S),atK σ r p K0=K0 t' m' H' v')/\place σ a w r p=some ⟨t',H',cs',ad'⟩/\Rep P w A t' m' H' v' cs' F' /\
   (∀ b i,F' b i<=F r b i)/\(∀ b o,ad'=some (b,o)->Has w b o cs'):=by
 obtain ⟨hr,t,m,H,v,hg,hk⟩:=rootK_some hk
 obtain ⟨cs,ad,F1,RO⟩:=(h.slots r hr).root hg
 obtain ⟨t',m',H',v',cs',ad',F',h1,hn,h2,h3,h4,h5,_⟩:=nav_ok p t hk RO.rep (ad:=ad) RO.has
 refine ⟨hr,t',m',H',v',cs',ad',F',h1,fun K0=>?_,?_,h3,fun b i=>by have:=h4 b i;have:=RO.le b i;omega,h5⟩
 ·grind [atK,rootK]
 unfold place
 rw[RO.root];exact h2
theorem get_setRoot (r:Nat) (t:Ty) (m:Md) (H:List Path) (v:t.den) (i:Nat) (h:i≠r):(σ.setRoot r t m H v).get i=σ.get i:=by
 grind [St.setRoot,get_upd]
theorem get_setRoot_own {r:Nat} (hr:r < σ.n) {t t0:Ty} {m m0:Md} {H H0:List Path} {v0:t0.den} (v:t.den) (h:σ.get r=.own t0 m0 H0 v0):(σ.setRoot r t m H v).get r=.own t m H v:=by
 grind [St.setRoot,get_upd]
theorem get_setRoot_box {r:Nat} (hr:r < σ.n) {t t0:Ty} {m m0:Md} {H H0:List Path} {v0:t0.den} (v:t.den) (h:σ.get r=.box t0 m0 H0 v0):(σ.setRoot r t m H v).get r=.box t m H v:=by
 grind [St.setRoot,get_upd]
theorem n_setRoot (r:Nat) (t:Ty) (m:Md) (H:List Path) (v:t.den):(σ.setRoot r t m H v).n=σ.n:=by unfold St.setRoot;split <;> rfl
theorem ver_setRoot (r:Nat) (t:Ty) (m:Md) (H:List Path) (v:t.den) (i:Nat):(σ.setRoot r t m H v).ver i=σ.ver i:=by unfold St.setRoot;split <;> rfl
theorem lent_setRoot (r:Nat) (t:Ty) (m:Md) (H:List Path) (v:t.den):(σ.setRoot r t m H v).lent=σ.lent:=by unfold St.setRoot;split <;> rfl
theorem gh_setRoot (r:Nat) (t:Ty) (m:Md) (H:List Path) (v:t.den):(σ.setRoot r t m H v).gh=σ.gh:=by unfold St.setRoot;split <;> rfl
def Roots (σ σ':St):Prop:=∀ (w:World) (tv:Value) (i:Nat) (R:Pl),rootPl w tv (σ'.get i)=some R->∃ H,rootPl w tv (σ.get i)=some ⟨R.t,H,R.cs,R.ad⟩
theorem Roots.refl (σ:St):Roots σ σ:=fun w tv i R h=>⟨R.H,h⟩
theorem Roots.trans {σ σ' σ'':St} (h:Roots σ σ') (h':Roots σ' σ''):Roots σ σ'':=by
 intro w tv i R0 hR
 obtain ⟨H,h1⟩:=h' w tv i R0 hR
 exact h w tv i ⟨R0.t,H,R0.cs,R0.ad⟩ h1
theorem roots_setRoot {r:Nat} (hr:r < σ.n) {t:Ty} {m m0:Md} {H H0:List Path} {v0:t.den} (v:t.den) (h:σ.get r=.own t m0 H0 v0\/σ.get r=.box t m0 H0 v0) {σ':St} (hg:∀ i,σ'.get i=(σ.setRoot r t m H v).get i):Roots σ σ':=by
 intro w tv i R hR
 rw[hg] at hR
 by_cases hi:i=r
 ·subst hi
  rcases h with h | h
  ·grind [get_setRoot_own,rootPl]
  ·rw[get_setRoot_box hr v h] at hR
   rw[h]
   simp only[rootPl] at hR ⊢
   grind
 ·rw[get_setRoot r t m H v i hi] at hR
  exact ⟨R.H,hR⟩
structure Onto (σ:St) (r:Nat) (s:Slot) (lentOk:Prop) (σ':St):Prop where
 n:σ'.n=σ.n
 get:∀ i,i≠r->σ'.get i=σ.get i
 root:σ'.get r=s
 ver:∀ i,i≠r->σ'.ver i=σ.ver i
 below:Below (σ.ver r) (σ'.ver r)
 vlen:(σ'.ver r).length=5
 lent:∀ e,e ∈ σ'.lent->e ∈ σ.lent
 lentF:∀ j k,(j,k,false) ∈ σ.lent->(j,k,false) ∈ σ'.lent
 gh:∀ e,e ∈ σ'.gh->e ∈ σ.gh
 head:∀ k,(r,k,true) ∈ σ'.lent->lentOk
theorem Rel.turn (h:Rel P C A X σ a w F) {r:Nat} {p:Path} {f:(t':Ty)->Md->List Path->t'.den->(Md->List Path->t'.den->Option R)->Option R}
  {Kf:(t:Ty)->Md->List Path->t.den->Option R} (hk:rootK σ r (fun t0 m0 H0 v0=>modK p t0 m0 H0 v0 f fun m' H' v'=>Kf t0 m' H' v')=some x) :
  r < σ.n/\∃ (t':Ty) (m':Md) (H':List Path) (v':t'.den) (cs':List Value) (ad':Option (Nat×Nat)) (F':FP) (kk:Md->List Path->t'.den->Option R),
   f t' m' H' v' kk=some x/\(∀ {S:Type} (K0:(t:Ty)->Md->List Path->t.den->Option S),atK σ r p K0=K0 t' m' H' v')/\place σ a w r p=some ⟨t',H',cs',ad'⟩/\Rep P w A t' m' H' v' cs' F' /\
   (∀ b i,rngO ad' t'.sz b i+F' b i<=F r b i)/\(∀ b o,ad'=some (b,o)->Has w b o cs')/\(∀ b o,ad'=some (b,o)->∀ j,j < t'.sz->w.frozen? ⟨b,o+j,none⟩=false) /\
   ∀ m2 H2 (v2:t'.den),kk m2 H2 v2=some x->∀ (w2:World) (A2:Cells) (cs2:List Value) (F2 X2:FP),
    Ext w w2 (fun b i=>X b i+(F' b i+rngO ad' t'.sz b i))->(∀ b i,A b i->A2 b i)->(∀ b i,A2 b i->A b i\/(1<=X b i+F' b i/\X2 b i+F2 b i=0)) ->
    (∀ b i,X2 b i+F2 b i<=X b i+F' b i)->(∀ b o,ad'=some (b,o)->Has w2 b o cs2)->(ad'=none->cs2=cs')->Rep P w2 A2 t' m2 H2 v2 cs2 F2 ->
    ∃ (t0:Ty) (m3:Md) (H3:List Path) (v3:t0.den) (Fr:FP) (A3:Cells),Kf t0 m3 H3 v3=some x/\(∃ (m0:Md) (H0:List Path) (v0:t0.den),σ.get r=.own t0 m0 H0 v0\/σ.get r=.box t0 m0 H0 v0)/\(∀ b i,A2 b i->A3 b i)/\(∀ b i,Fr b i<=F r b i+X b i) /\
     ∀ σ',Onto σ r ((σ.setRoot r t0 m3 H3 v3).get r) (1<=nidx p\/cs2=cs') σ' ->
      (∀ (p':Path) (snap:List Nat),Below snap (σ.ver r)->σ'.ok r snap=true->(snap.length=min 5 (1+nidx p')\/snap.length=min 5 (2+nidx p')\/snap.length=5) ->
       ∃ D full,nidx p'<=D+nidx p/\(snap.length=min 5 (2+nidx p')->nidx p' < D+nidx p\/full)/\(snap.length=5->full)/\Stab D full w t' H' cs' ad' w2 H2 cs2) ->
      Rel P C A3 X2 σ' a w2 (updF F r Fr):=by
 obtain ⟨hr,t,m,H,v,hg,hk⟩:=rootK_some hk
 obtain ⟨cs,ad,F1,RO⟩:=(h.slots r hr).root hg
 have hFr:∀ b i,X b i+F r b i<=1:=fun b i=>by have:=h.tot b i;grind [le_sumF]
 have hdis:∀ b o,ad=some (b,o)->∀ j,j < t.sz->F1 b (o+j)=0:=fun b o e j hj=>by
  have h1:=RO.le b (o+j);grind [rngO,rng]
 obtain ⟨t',m',H',v',cs',ad',F',G,kk,loc,M⟩:=mod_ok p t hk RO.rep (fun b i=>by have:=hFr b i;have:=RO.le b i;omega) RO.has hdis
 have hlen:=Rep.length t RO.rep
 have hplace:∀ b i,rngO ad' t'.sz b i+F' b i<=F r b i/\(1<=rngO ad' t'.sz b i->1<=G b i\/1<=rngO ad t.sz b i)/\rngO ad' t'.sz b i<=1:=fun b i=>by
  have h1:=M.sum b i;have h2:=RO.le b i;have h3:=hFr b i
  cases had:ad' with
  | none=>grind [rngO]
  | some bo=>
   obtain ⟨b0,o0⟩:=bo
   simp only[rngO,rng]
   split
   ·rename_i hin
    obtain ⟨rfl,hin1,hin2⟩:=hin
    cases loc with
    | none=>
     obtain ⟨b',o',e1,e2⟩:=M.out rfl
     rw[had] at e1
     simp only[Option.some.injEq,Prod.mk.injEq] at e1
     obtain ⟨rfl,rfl⟩:=e1
     have:=(e2 (i - o0) (by omega)).1
     grind
    | some off=>
     obtain ⟨e1,e2,e3⟩:=M.inn off rfl
     grind [shiftA,rng,rngO]
   ·omega
 refine ⟨hr,t',m',H',v',cs',ad',F',kk,M.run,fun K0=>?_,by unfold place;rw[RO.root];exact M.place,M.rep,fun b i=>(hplace b i).1,M.has,fun b o e j hj=>?_,?_⟩
 ·unfold atK rootK
  rcases hg with hg | hg <;> rw[hg] <;> exact M.nav K0
 ·cases loc with
  | none=>
   obtain ⟨b',o',e1,e2⟩:=M.out rfl
   grind
  | some off=>
   obtain ⟨e1,e2,e3⟩:=M.inn off rfl
   cases hadr:ad with
   | none=>rw[e,hadr] at e3;cases e3
   | some y=>
    rw[e,hadr] at e3
    simp only[shiftA,Option.map_some,Option.some.injEq,Prod.mk.injEq] at e3
    obtain ⟨rfl,rfl⟩:=e3
    have:=RO.froz y.1 y.2 hadr (off+j) (by omega)
    grind
 intro m2 H2 v2 hkk w2 A2 cs2 F2 X2 hext hA hA2 hX hhas hnone hrep2
 have hl2:=Rep.length t' hrep2
 have hcA:∀ b i,A b i->∀ u,ce w b i=some u->ce w2 b i=some u:=fun b i ha u hu=>by
  refine hext.cell b i (h.bnd b i (.inr ha)) ?_ u hu
  have h1:=(hplace b i).1
  have h2:=le_sumF F hr b i
  have h3:=h.dis b i
  grind
 have hGc:∀ b i,1<=G b i\/1<=rngO ad t.sz b i->(∀ o,ad'=some (b,o)->¬ (o<=i/\i < o+t'.sz))->∀ u,ce w b i=some u->ce w2 b i=some u:=fun b i hp hn u hu=>by
  have h1:=hplace b i;have h2:=hFr b i;have h3:=M.sum b i;have h4:=RO.le b i
  refine hext.cell b i (h.bnd b i (.inl (by grind [le_sumF]))) ?_ u hu
  show X b i+(F' b i+rngO ad' t'.sz b i)=0
  have h5:rngO ad' t'.sz b i=0:=by
   cases had:ad' <;> grind [rngO,rng]
  omega
 have hsum2:∀ b i,F2 b i+G b i<=1:=fun b i=>by
  have:=hX b i;have:=M.sum b i;have:=RO.le b i;grind
 obtain ⟨m3,H3,v3,F3,k1,k2,k3,k4⟩:=M.back m2 H2 v2 hkk w2 A2 cs2 F2 hext.blk hA hcA (fun b i hp hn=>hGc b i (.inl hp) hn) hhas hrep2 hsum2
 have hrepl3:(repl loc cs t'.sz cs2).length=t.sz:=by
  cases loc with
  | none=>exact hlen
  | some off=>have:=(M.inn off rfl).1;grind [repl,spl_length]
 have hsame:cs2=cs'->repl loc cs t'.sz cs2=cs:=fun e=>by
  cases loc with
  | none=>rfl
  | some off=>
   obtain ⟨e1,e2,_⟩:=M.inn off rfl
   rw[e,e2];exact spl_self (by omega)
 have hroot:∀ b o,ad=some (b,o)->Has w2 b o (repl loc cs t'.sz cs2):=fun b o e=>by
  have cells:∀ j u,cs[j]?=some u->(∀ o',ad'=some (b,o')->¬ (o'<=o+j/\o+j < o'+t'.sz))->ce w2 b (o+j)=some u:=fun j u hu hn=>by
   have hj:j < t.sz:=hlen ▸ (List.getElem?_eq_some_iff.1 hu).1
   exact hGc b (o+j) (.inr (by grind [rngO,rng])) hn u (RO.has b o e j u hu)
  cases hloc:loc with
  | none=>
   intro j u hu
   refine cells j u hu fun o' he hin=>?_
   have hj:j < t.sz:=hlen ▸ (List.getElem?_eq_some_iff.1 hu).1
   obtain ⟨b',o'',e1,e2⟩:=M.out hloc
   rw[he] at e1
   simp only[Option.some.injEq,Prod.mk.injEq] at e1
   obtain ⟨rfl,rfl⟩:=e1
   have h1:=(e2 (o+j - o') (by omega)).1
   rw[show o'+(o+j - o')=o+j by omega] at h1
   have h2:=RO.le b (o+j);have h3:=hFr b (o+j);have h4:=M.sum b (o+j)
   grind
  | some off=>
   obtain ⟨e1,e2,e3⟩:=M.inn off hloc
   rw[e] at e3
   simp only[shiftA,Option.map_some] at e3
   exact has_spl (by omega) hl2 (hhas b (o+off) e3) (fun j u hu hn=>cells j u hu fun o' he hin=>by
    grind)
 refine ⟨t,m3,H3,v3,fun b i=>rngO ad t.sz b i+F3 b i,fun b i=>A2 b i\/(1<=F2 b i+G b i/\F3 b i=0),k1,⟨m,H,v,hg⟩,fun _ _ h=>.inl h,fun b i=>?_,fun σ' on hst=>?_⟩
 ·have h1:=k2 b i;have h2:=hX b i;have h3:=M.sum b i;have h4:=RO.le b i
  grind
 have hrep3:=k3 (fun b i=>A2 b i\/(1<=F2 b i+G b i/\F3 b i=0)) (fun _ _ h=>.inl h) (fun b i h1 h2=>.inr ⟨h1,h2⟩)
 have hslot:SlotRel P (fun b i=>A2 b i\/(1<=F2 b i+G b i/\F3 b i=0)) σ' a w2 (tmp a r) (σ'.get r) (fun b i=>rngO ad t.sz b i+F3 b i)/\rootPl w2 (tmp a r) (σ'.get r)=some ⟨t,H3,repl loc cs t'.sz cs2,ad⟩:=by
  rw[on.root]
  cases hadr:ad with
  | none=>
   obtain ⟨e1,e2⟩:=RO.val hadr
   have e3:repl loc cs t'.sz cs2=cs:=by
    cases hloc:loc with
    | none=>rfl
    | some off=>
     have:=(M.inn off hloc).2.2
     rw[hadr] at this
     rw[<-hloc];exact hsame (hnone this)
   rw[get_setRoot_own hr v3 e2]
   rw[e3] at hrep3 ⊢
   exact ⟨⟨cs,e1,Rep.le hrep3 (fun b i=>by grind)⟩,by grind [rootPl,mkV_cells,Rep.one]⟩
  | some bo=>
   obtain ⟨b,o⟩:=bo
   obtain ⟨e1,e2⟩:=RO.ptr b o hadr
   rw[get_setRoot_box hr v3 e2,e1]
   have hh:=hroot b o hadr
   refine ⟨⟨b,o,_,F3,rfl,hrepl3,hh,fun j hj=>?_,fun b' i=>?_,hrep3⟩,by grind [rootPl,rd_of_has]⟩
   ·have hb:b < w.heap.size:=h.bnd b (o+j) (.inl (by
     have h1:=RO.le b (o+j);grind [le_sumF,rngO,rng]))
    rw[hext.froz b (o+j) hb]
    exact RO.froz b o hadr j hj
   ·exact Nat.le_refl _
 refine h.chg hr on.n on.get on.ver on.below on.vlen on.lent on.lentF on.gh hslot.1 RO.root hslot.2 (fun p' snap h1 h2 h3=>?_) (fun b i ha=>.inl (hA b i ha)) (fun b i ha=>?_) (fun b i=>?_) (hext.mono fun b i hz=>?_) (fun t5 m5 H5 v5 hg5=>?_) (fun k hm=>?_)
 ·grind
 ·have h1:=hX b i;have h2:=k2 b i;have h3:=M.sum b i;have h4:=RO.le b i;grind
 ·have h1:=hX b i;have h2:=k2 b i;have h3:=M.sum b i;have h4:=RO.le b i
  grind
 ·grind
 ·rw[on.root] at hg5
  grind [get_setRoot_own,get_setRoot_box]
 ·rcases on.head k hm with hp | he
  ·rw[M.locn hp];rfl
  grind
end
end OT
set_option linter.unusedVariables false
set_option linter.unusedSimpArgs false
namespace OT
open Go
theorem Rep.holes {P:Program} {w:World} {A:Cells}:∀ (t:Ty) {m:Md} {H:List Path} {v:t.den} {cs:List Value} {F:FP},Rep P w A t m H v cs F->Rep P w A t m (holesOf t) v cs (fun _ _=>0):=by
 intro t
 induction t with
 | pair a b iha ihb=>
  intro m H v cs F h
  obtain ⟨_,F1,F2,hs,h1,h2⟩:=h
  refine ⟨by grind [holesOf,hole_append,hole_map],fun _ _=>0,fun _ _=>0,fun _ _=>Nat.le_refl _,?_,?_⟩
  all_goals grind [holesOf,strip_map_fst,strip_map_fs,strip_map_sf,strip_map_snd]
 | slc e ih=>
  intro m H v cs F h
  have h1:=Rep.length _ h
  have h2:=Rep.one _ h
  match cs,h1 with
  | [y],_=>grind [Rep,holesOf,hole]
 | ptr e ih=>
  intro m H v cs F h
  have h1:=Rep.length _ h
  have h2:=Rep.one _ h
  match cs,h1 with
  | [y],_=>grind [Rep,holesOf,hole]
 | arr n e ih=>intro m H v cs F h;rw[holesOf,h.2.1];obtain ⟨rfl,h⟩:=h;exact ⟨rfl,h⟩
 | map k v=>
  intro m H v cs F h
  have h1:=Rep.length _ h
  have h2:=Rep.one _ h
  match cs,h1 with
  | [y],_=>grind [Rep,holesOf,hole]
 | _=>intro m H v cs F h;exact h
section
variable {P:Program} {C:Ctx} {A:Cells} {X:FP} {σ:St} {a:Act} {w:World} {F:Nat->FP} {R:Type} {x:R}
structure At (σ:St) (r:Nat) (p:Path) (t:Ty) (m:Md) (H:List Path) (v:t.den):Prop where
 eq:∀ {S:Type} (K0:(t:Ty)->Md->List Path->t.den->Option S),atK σ r p K0=K0 t m H v
theorem At.inj {r:Nat} {p:Path} {t t':Ty} {m m':Md} {H H':List Path} {v:t.den} {v':t'.den} (h:At σ r p t m H v) (h':At σ r p t' m' H' v'):t=t'/\m=m'/\H=H'/\HEq v v':=by
 have h1:=h.eq (fun t m H v=>some (⟨t,m,H,v⟩:(t:Ty)×Md×List Path×t.den))
 rw[h'.eq] at h1
 grind
theorem n_head (σ:St) (r d:Nat):(σ.head r d).n=σ.n:=by unfold St.head;split <;> rfl
theorem get_head (σ:St) (r d i:Nat):(σ.head r d).get i=σ.get i:=by unfold St.head;split <;> rfl
theorem ver_head (σ:St) (r d i:Nat):(σ.head r d).ver i=σ.ver i:=by unfold St.head;split <;> rfl
theorem gh_head (σ:St) (r d:Nat):(σ.head r d).gh=σ.gh:=by unfold St.head;split <;> rfl
theorem onto_set {r d:Nat} {f:List Nat->List Nat} (h1:Below (σ.ver r) (f (σ.ver r))) (h2:(f (σ.ver r)).length=5) {t:Ty} {m:Md} {H:List Path} {v:t.den} {q:Prop} (hq:1<=d->q) :
  Onto σ r ((σ.setRoot r t m H v).get r) q (((σ.setRoot r t m H v).setVer r f).head r d) where
 n:=by rw[n_head];exact n_setRoot r t m H v
 get i hi:=by rw[get_head];exact get_setRoot r t m H v i hi
 root:=by rw[get_head];rfl
 ver i hi:=by grind [ver_head,ver_setVer,ver_setRoot]
 below:=by grind [ver_head,ver_setVer,ver_setRoot]
 vlen:=by grind [ver_head,ver_setVer,ver_setRoot]
 lent e he:=by
  unfold St.head at he
  grind [mem_unhead,St.setVer,lent_setRoot]
 lentF j k hm:=by
  unfold St.head
  grind [unhead_mem,St.setVer,lent_setRoot]
 gh e he:=by grind [gh_head,St.setVer,gh_setRoot]
 head k hm:=by
  unfold St.head at hm
  split at hm
  ·exact absurd ⟨rfl,rfl⟩ (mem_unhead hm).2
  grind
theorem take_okF (h:Rel P C A X σ a w F) {r:Nat} {p:Path} {K:St->Option R} (hk:takeK σ r p K=some x) {t':Ty} {m':Md} {H':List Path} {v':t'.den} (hn:At σ r p t' m' H' v') :
  ∃ (A':Cells) (σ':St) (F':Nat->FP) (cs:List Value) (ad:Option (Nat×Nat)) (Fv:FP),K σ'=some x/\(∀ b i,A b i->A' b i)/\Rel P C A' (fun b i=>X b i+Fv b i) σ' a w F'/\σ'.n=σ.n/\Roots σ σ' /\
   place σ a w r p=some ⟨t',H',cs,ad⟩/\Rep P w A t' m' H' v' cs Fv/\∀ b i,Fv b i<=F r b i:=by
 obtain ⟨hr,t1,m1,H1,v1,cs,ad,Fv,kk,h1,h2,h3,h4,h5,h6,h7,h8⟩:=h.turn hk
 obtain ⟨e1,e2,e3,e4⟩:=hn.inj ⟨h2⟩
 subst e1;subst e2;subst e3
 have e4:=eq_of_heq e4
 subst e4
 obtain ⟨t0,m3,H3,v3,Fr,A3,k1,⟨m0,H0,v0,k0⟩,k2,k3,k4⟩:=h8 _ _ _ h1 w A cs (fun _ _=>0) (fun b i=>X b i+Fv b i) (Ext.refl _ _) (fun _ _ h=>h) (fun _ _ h=>.inl h) (fun b i=>Nat.le_refl _) h6 (fun _=>rfl) (Rep.holes _ h4)
 refine ⟨A3,_,_,cs,ad,Fv,k1,k2,k4 _ (onto_set (below_bumpAt _ (h.vlen r)) (len_bumpAt _ (h.vlen r)) .inl) (fun p' snap hb hok hl=>?_),?_,roots_setRoot hr v3 k0 (fun i=>by rw[get_head];rfl),h3,h4,fun b i=>by grind⟩
 ·refine ⟨0,False,?_,?_,?_,Stab.zero (A:=A) ad (Rep.holes _ h4)⟩
  all_goals
   unfold St.ok at hok
   rw[ver_head,ver_setVer,if_pos rfl,ver_setRoot] at hok
   have:=ok_bumpAt (nidx p) (h.vlen r) hb hok
  all_goals omega
 ·rw[n_head];exact n_setRoot _ _ _ _ _
theorem take_ok (h:Rel P C A X σ a w F) {r:Nat} {p:Path} {K:St->Option R} (hk:takeK σ r p K=some x) {t':Ty} {m':Md} {v':t'.den} (hn:At σ r p t' m' [] v') :
  ∃ (A':Cells) (σ':St) (F':Nat->FP) (cs:List Value) (ad:Option (Nat×Nat)) (Fv:FP),K σ'=some x/\(∀ b i,A b i->A' b i)/\Rel P C A' (fun b i=>X b i+Fv b i) σ' a w F'/\σ'.n=σ.n/\Roots σ σ' /\
   place σ a w r p=some ⟨t',[],cs,ad⟩/\Rep P w A t' m' [] v' cs Fv:=
 have ⟨A',σ',F',cs,ad,Fv,h1,h2,h3,h4,h5,h6,h7,_⟩:=take_okF h hk hn
 ⟨A',σ',F',cs,ad,Fv,h1,h2,h3,h4,h5,h6,h7⟩
theorem onto_same {r:Nat} (hv:(σ.ver r).length=5) {t:Ty} {m:Md} {H:List Path} {v:t.den} {q:Prop} (hq:q):Onto σ r ((σ.setRoot r t m H v).get r) q (σ.setRoot r t m H v):=
 ⟨n_setRoot _ _ _ _ _,fun i hi=>get_setRoot _ _ _ _ _ i hi,rfl,fun i _=>ver_setRoot _ _ _ _ _ i,by rw[ver_setRoot];exact Below.refl _,by grind [ver_setRoot],
  fun e he=>by grind [lent_setRoot],fun j k hm=>by grind [lent_setRoot],fun e he=>by grind [gh_setRoot],fun _ _=>hq⟩
theorem freezeTo_ok (h:Rel P C A X σ a w F) {r:Nat} {p:Path} {m2:Md} {K:St->Option R} (hk:freezeToK σ r p m2 K=some x) :
  ∃ (A':Cells) (σ':St) (F':Nat->FP),K σ'=some x/\(∀ b i,A b i->A' b i)/\Rel P C A' X σ' a w F'/\σ'.n=σ.n/\Roots σ σ':=by
 obtain ⟨hr,t1,m1,H1,v1,cs,ad,Fv,kk,h1,h2,h3,h4,h5,h6,h7,h8⟩:=h.turn hk
 have hFr:∀ b i,X b i+F r b i<=1:=fun b i=>by have:=h.tot b i;grind [le_sumF]
 split at h1
 ·rename_i hc
  simp only[Bool.and_eq_true,List.isEmpty_iff] at hc
  obtain ⟨rfl,hc⟩:=hc
  obtain ⟨F1,hF1,hrep⟩:=Rep.fits _ hc h4 (fun b i=>by grind)
  have hrep':=hrep (fun b i=>A b i\/(1<=Fv b i/\F1 b i=0)) (fun _ _ h=>.inl h) (fun b i h1 h2=>.inr ⟨h1,h2⟩)
  obtain ⟨t0,m3,H3,v3,Fr,A3,k1,⟨m0,H0,v0,k0⟩,k2,k3,k4⟩:=h8 _ _ _ h1 w (fun b i=>A b i\/(1<=Fv b i/\F1 b i=0)) cs F1 X (Ext.refl _ _) (fun _ _ h=>.inl h)
   (fun b i ha=>ha.imp id fun ⟨h1,h2⟩=>⟨by omega,by grind⟩) (fun b i=>by grind) h6 (fun _=>rfl) hrep'
  exact ⟨A3,_,_,k1,fun b i ha=>k2 b i (.inl ha),k4 _ (onto_same (h.vlen r) (.inr rfl)) (fun p' snap hb hok hl=>⟨nidx p'+1,True,by omega,fun _=>.inr trivial,fun _=>trivial,
   Stab.same ad h4 (fun _ _ _ _ h=>h) (fun _ _ _ _ h=>h) _ True⟩),n_setRoot _ _ _ _ _,roots_setRoot hr v3 k0 (fun i=>rfl)⟩
 ·cases h1
theorem freeze_ok (h:Rel P C A X σ a w F) {r:Nat} {p:Path} {K:St->Option R} (hk:freezeK σ r p K=some x) :
  ∃ (A':Cells) (σ':St) (F':Nat->FP) (t':Ty) (m':Md) (v':t'.den) (cs:List Value) (ad:Option (Nat×Nat)),K σ'=some x/\(∀ b i,A b i->A' b i)/\Rel P C A' X σ' a w F'/\σ'.n=σ.n/\Roots σ σ' /\
   At σ r p t' m' [] v'/\place σ a w r p=some ⟨t',[],cs,ad⟩/\Ro P w A' t' v' cs:=by
 obtain ⟨hr,t1,m1,H1,v1,cs,ad,Fv,kk,h1,h2,h3,h4,h5,h6,h7,h8⟩:=h.turn hk
 have hFr:∀ b i,X b i+F r b i<=1:=fun b i=>by have:=h.tot b i;grind [le_sumF]
 split at h1
 ·rename_i hc
  simp only[Bool.and_eq_true,List.isEmpty_iff] at hc
  obtain ⟨rfl,hc⟩:=hc
  have hro:Ro P w (fun b i=>A b i\/1<=Fv b i) t1 v1 cs:=Rep.toRo (fun _ _ h=>.inl h) t1 h4 (fun b i hp=>.inr hp)
  obtain ⟨t0,m3,H3,v3,Fr,A3,k1,⟨m0,H0,v0,k0⟩,k2,k3,k4⟩:=h8 _ _ _ h1 w (fun b i=>A b i\/1<=Fv b i) cs (fun _ _=>0) X (Ext.refl _ _) (fun _ _ h=>.inl h)
   (fun b i ha=>ha.imp id fun h1=>⟨by omega,by grind⟩) (fun b i=>by omega) h6 (fun _=>rfl) (Ro.rep _ _ (roMd_noOwn _) hro)
  exact ⟨A3,_,_,t1,m1,v1,cs,ad,k1,fun b i ha=>k2 b i (.inl ha),k4 _ (onto_same (h.vlen r) (.inr rfl)) (fun p' snap hb hok hl=>⟨nidx p'+1,True,by omega,fun _=>.inr trivial,fun _=>trivial,
   Stab.same ad h4 (fun _ _ _ _ h=>h) (fun _ _ _ _ h=>h) _ True⟩),n_setRoot _ _ _ _ _,roots_setRoot hr v3 k0 (fun i=>rfl),⟨h2⟩,h3,Ro.mono (fun _ _ _ _ h=>h) k2 _ hro⟩
 ·cases h1
theorem castK_some {t t':Ty} {v:t.den} {K:t'.den->Option R} (h:castK t t' v K=some x):∃ e:t=t',K (e ▸ v)=some x:=by
 grind [castK]
theorem set_ok (h:Rel P C A X σ a w F) {r:Nat} {p:Path} {t:Ty} {m:Md} {v:t.den} {K:St->Option R} (hk:setK σ r p t m v K=some x) :
  r < σ.n/\∃ (m':Md) (H':List Path) (v':t.den) (cs:List Value) (ad:Option (Nat×Nat)) (F':FP),At σ r p t m' H' v'/\place σ a w r p=some ⟨t,H',cs,ad⟩/\Rep P w A t m' H' v' cs F' /\
   (∀ b i,rngO ad t.sz b i+F' b i<=F r b i)/\(∀ b o,ad=some (b,o)->Has w b o cs/\∀ j,j < t.sz->w.frozen? ⟨b,o+j,none⟩=false) /\
   ∀ (w2:World) (A2:Cells) (cs2:List Value) (Fv X2:FP),Ext w w2 (fun b i=>X b i+(F' b i+rngO ad t.sz b i))->(∀ b i,A b i->A2 b i)->(∀ b i,A2 b i->A b i\/(1<=X b i+F' b i/\X2 b i+Fv b i=0)) ->
    (∀ b i,X2 b i+Fv b i<=X b i+F' b i)->(∀ b o,ad=some (b,o)->Has w2 b o cs2)->(ad=none->cs2=cs)->Rep P w2 A2 t m [] v cs2 Fv ->
    ∃ (A3:Cells) (σ':St) (Fr:FP),K σ'=some x/\(∀ b i,A2 b i->A3 b i)/\Rel P C A3 X2 σ' a w2 (updF F r Fr)/\σ'.n=σ.n /\
     ∀ g:List Nat->List Nat,Below (σ.ver r) (g (σ.ver r))->(g (σ.ver r)).length=5->cs2=cs ->
      (∀ (p':Path) (snap:List Nat),Below snap (σ.ver r)->preB snap (g (σ.ver r))=true->(snap.length=min 5 (1+nidx p')\/snap.length=min 5 (2+nidx p')\/snap.length=5) ->
       ∃ D full,nidx p'<=D+nidx p/\(snap.length=min 5 (2+nidx p')->nidx p' < D+nidx p\/full)/\(snap.length=5->full)/\Stab D full w t H' cs ad w2 [] cs2) ->
      Rel P C A3 X2 { σ' with vr:=(σ.setVer r g).vr,lent:=σ.lent } a w2 (updF F r Fr):=by
 obtain ⟨hr,t1,m1,H1,v1,cs,ad,Fv,kk,h1,h2,h3,h4,h5,h6,h7,h8⟩:=h.turn hk
 obtain ⟨e,h1⟩:=castK_some h1
 subst e
 refine ⟨hr,m1,H1,v1,cs,ad,Fv,⟨h2⟩,h3,h4,h5,fun b o e=>⟨h6 b o e,h7 b o e⟩,fun w2 A2 cs2 Fv2 X2 g1 g2 g3 g4 g5 g6 g7=>?_⟩
 obtain ⟨t0,m3,H3,v3,Fr,A3,k1,⟨m0,H0,v0,k0⟩,k2,k3,k4⟩:=h8 m [] v h1 w2 A2 cs2 Fv2 X2 g1 g2 g3 g4 g5 g6 g7
 refine ⟨A3,_,Fr,k1,k2,k4 _ (onto_set ?_ ?_ .inl) (fun p' snap hb hok hl=>?_),?_,fun g hg1 hg2 hcs hst=>?_⟩
 ·split
  ·exact below_bumpW (h.vlen r)
  ·exact below_bumpAt _ (h.vlen r)
 ·split
  ·exact len_bumpW (h.vlen r)
  ·exact len_bumpAt _ (h.vlen r)
 ·unfold St.ok at hok
  rw[ver_head,ver_setVer,if_pos rfl,ver_setRoot] at hok
  by_cases hf:t.flat=true
  ·rw[if_pos hf] at hok
   have:=ok_bumpW (h.vlen r) hb hok
   exact ⟨nidx p'+1,False,by omega,fun _=>.inl (by omega),fun _=>by omega,Stab.flat (A:=A) ad g7 hf _⟩
  ·rw[if_neg hf] at hok
   have:=ok_bumpAt (nidx p) (h.vlen r) hb hok
   exact ⟨0,False,by omega,fun _=>.inl (by omega),fun _=>by omega,Stab.zero (A:=A) ad g7⟩
 ·rw[n_head];exact n_setRoot _ _ _ _ _
 ·refine k4 _ ⟨by rw[n_head];exact n_setRoot _ _ _ _ _,fun i hi=>?_,?_,fun i hi=>?_,?_,?_,fun e he=>he,fun j k hm=>hm,fun e he=>?_,fun _ _=>.inr hcs⟩ (fun p' snap hb hok hl=>hst p' snap hb ?_ hl)
  ·show (((σ.setRoot r t0 m3 H3 v3).setVer r _).head r _).get i=_
   rw[get_head];exact get_setRoot r t0 m3 H3 v3 i hi
  ·show (((σ.setRoot r t0 m3 H3 v3).setVer r _).head r _).get r=_
   rw[get_head];rfl
  ·show (σ.setVer r g).ver i=σ.ver i
   grind [ver_setVer]
  ·show Below _ ((σ.setVer r g).ver r)
   grind [ver_setVer]
  ·show ((σ.setVer r g).ver r).length=5
   grind [ver_setVer]
  ·grind [gh_head,St.setVer,gh_setRoot]
  ·have hok:preB snap ((σ.setVer r g).ver r)=true:=hok
   grind [ver_setVer]
end
end OT
set_option linter.unusedVariables false
set_option linter.unusedSimpArgs false
namespace OT
open Go
section
variable {P:Program} {C:Ctx} {A:Cells} {X:FP} {σ:St} {a:Act} {w:World} {F:Nat->FP} {R:Type} {x:R}
theorem Rel.grow (h:Rel P C A X σ a w F) {w1:World} (hw:Ext w w1 (fun _ _=>0)) {A1:Cells} {X1:FP} (hA:∀ b i,A b i->A1 b i)
  (hA1:∀ b i,A1 b i->A b i\/(w.heap.size<=b/\b < w1.heap.size/\X1 b i=0)) (hX:∀ b i,X1 b i<=X b i\/(w.heap.size<=b/\b < w1.heap.size/\X1 b i<=1)):Rel P C A1 X1 σ a w1 F:=by
 have hcA:∀ b i,A b i->∀ u,ce w b i=some u->ce w1 b i=some u:=fun b i ha u hu=>hw.cell b i (h.bnd b i (.inr ha)) rfl u hu
 have hb0:∀ b i,w.heap.size<=b->sumF σ.n F b i=0:=fun b i hb=>by
  rcases Nat.eq_zero_or_pos (sumF σ.n F b i) with h0 | h0
  ·exact h0
  ·have:=h.bnd b i (.inl (by omega));omega
 have hcF:∀ j,j < σ.n->∀ b i,1<=F j b i->(∀ u,ce w b i=some u->ce w1 b i=some u)/\w1.frozen? ⟨b,i,none⟩=w.frozen? ⟨b,i,none⟩:=fun j hj b i hp=>by
  have hb:=h.bnd b i (.inl (by grind [le_sumF]))
  exact ⟨fun u hu=>hw.cell b i hb rfl u hu,hw.froz b i hb⟩
 have hpres:Pres σ a w σ a w1:=fun r p snap hb=>⟨hb,fun hok=>⟨hok,fun hl pl hpl=>⟨pl.H,pl.cs,by
  have hlt:=place_lt hpl
  exact place_frame (h.slots r hlt) rfl rfl hcA (fun b i hp=>(hcF r hlt b i hp).1) hpl,fun _=>rfl⟩⟩⟩
 refine ⟨h.size,h.defers,fun i hi=>SlotRel.pres hpres hA hcA hw.blk (hcF i hi) (h.slots i hi),fun d r p snap hm=>RefRel.pres hpres (h.gh d r p snap hm),fun b i=>?_,fun b i hp ha=>?_,fun b i hp=>?_,
  h.vlen,h.ext.trans hw (fun _ _ _ _=>rfl),fun b i hp=>?_,fun b i ha=>hA b i (h.a0 b i ha),fun b i ha=>?_,h.lentP,fun r t m H v hg hl=>?_,fun j k hm R' hR'=>?_,h.tab⟩
 ·have h1:=h.tot b i
  grind
 ·rcases hA1 b i ha with ha | ⟨h1,h2,h3⟩
  ·have hlt:=h.bnd b i (.inr ha)
   rcases hX b i with h2 | ⟨h2,_⟩
   ·exact h.dis b i (by omega) ha
   ·omega
  grind
 ·rcases hp with hp | ha
  ·rcases hX b i with h2 | ⟨h2,h3,_⟩
   ·exact Nat.lt_of_lt_of_le (h.bnd b i (.inl (by omega))) hw.size
   ·exact h3
  ·rcases hA1 b i ha with ha | ⟨h1,h2,h3⟩
   ·exact Nat.lt_of_lt_of_le (h.bnd b i (.inr ha)) hw.size
   ·exact h2
 ·rcases hX b i with h2 | ⟨h2,_⟩
  ·exact h.own b i (by omega)
  ·exact .inr (Nat.le_trans h.ext.size h2)
 ·rcases hA1 b i ha with ha | ⟨h1,_⟩
  ·exact h.a1 b i ha
  ·exact .inr (.inr (Nat.le_trans h.ext.size h1))
 ·obtain ⟨b,h1,h2⟩:=h.whole r t m H v hg hl
  exact ⟨b,h1,hw.blk _ _ h2⟩
 ·rcases Nat.lt_or_ge j σ.n with hj | hj
  ·have hsl:=h.slots j hj
   cases hR0:rootPl w (tmp a j) (σ.get j) with
   | none=>exfalso;cases hg:σ.get j <;> rw[hg] at hR0 hR' <;> simp only[rootPl] at hR0 hR' <;> first | grind | grind | grind
   | some R0=>
    rw[rootPl_frame hsl (fun b i hp=>(hcF j hj b i hp).1) hR0] at hR'
    injection hR' with hR'
    subst hR'
    exact h.lentS j k hm _ hR0
  ·rw[get_out (Nat.not_lt.2 hj)] at hR';cases hR'
def opdOk (P:Program):Operand->Bool
 | .func f=>(P.funcs[f]?).any (·.nfree == 0)
 | _=>true
theorem opd_ok (h:Rel P C A X σ a w F) {o:Operand} (ho:opdOk P o=true):SlotRel P A σ a w (a.eval o) (opd σ o) (fun _ _=>0)\/∃ xs,opd σ o=.tup xs:=by
 cases o with
 | tmp i=>
  show SlotRel P A σ a w (tmp a i) _ _\/_
  rcases Nat.lt_or_ge i σ.n with hi | hi
  ·have hs:=h.slots i hi
   simp only[opd]
   cases hg:σ.get i with
   | own t m H v=>
    rw[hg] at hs
    obtain ⟨cs,h1,h2⟩:=hs
    left
    have hpl:place σ a w i []=some ⟨t,H,cs,none⟩:=by
     grind [place,rootPl,mkV_cells,Rep.length,Rep.one,plc]
    have h5:=h.vlen i
    refine ⟨?_,fun _=>⟨_,hpl,h1,?_⟩⟩
    ·unfold snapRef
     split
     ·intro j y hj;grind
     ·intro j y hj;grind
     ·exact Below.refl _
    ·unfold snapRef
     grind [isSlc]
   | box t m H v=>
    rw[hg] at hs
    obtain ⟨b,o,L,F1,h1,h2,h3,h4,h5,h6⟩:=hs
    left
    have h5':=h.vlen i
    refine ⟨?_,fun _=>⟨⟨t,H,L,some (b,o)⟩,b,o,?_,rfl,h1,by grind [snapPtr]⟩⟩
    ·unfold snapPtr
     intro j y hj;grind
    grind [place,rootPl,rd_of_has,plc]
   | tup xs=>grind
   | dead=>exact .inl trivial
   | nils=>rw[hg] at hs;exact .inl hs
   | val t v=>rw[hg] at hs;exact .inl hs
   | cp t v=>rw[hg] at hs;exact .inl hs
   | ref r p snap=>rw[hg] at hs;exact .inl hs
   | ptr r p snap=>rw[hg] at hs;exact .inl hs
   | sub r p snap lo hi=>rw[hg] at hs;exact .inl hs
  ·simp only[opd,get_out (Nat.not_lt.2 hi)];exact .inl trivial
 | const v=>
  left
  show SlotRel P A σ a w v (constSlot v) _
  unfold constSlot
  split
  ·split
   ·rename_i hn;exact ⟨[_],rfl,by grind [Ro,toI]⟩
   ·trivial
  ·exact ⟨[_],rfl,rfl⟩
  ·exact ⟨[_],rfl,rfl⟩
  ·exact ⟨[_],rfl,rfl⟩
  ·exact ⟨[_],rfl,rfl⟩
  ·exact ⟨[_],rfl,rfl⟩
  ·exact ⟨[_],rfl,by simp[Ro]⟩
  ·rfl
  ·trivial
 | func f=>
  left
  simp only[opdOk,Option.any_eq_true,beq_iff_eq] at ho
  obtain ⟨fn,h1,h2⟩:=ho
  exact ⟨[_],rfl,#[],rfl,fn,h1,.inl ⟨h2,rfl⟩⟩
 | global g=>exact .inl trivial
def AO (A:Cells) (σ:St) (F:Nat->FP):Cells:=fun b i=>A b i\/1<=sumF σ.n F b i
theorem mkV_one (t:Ty) (y:Value) (h:isAgg t=false):mkV t [y]=y:=by simp[mkV,h]
theorem Ro.piece {e:Ty} {v:List e.den} {xa:Option Addr} {n cap lo hi cap':Nat} {xa':Option Addr} (h:Ro P w A (.slc e) v [.slice xa n cap]) (h1:lo<=hi) (h2:hi<=n) (h3:cap'+lo=cap) (h4:xa=none->xa'=none)
  (h5:∀ ad,xa=some ad->∃ ad',xa'=some ad'/\ad'.spot=ad.spot/\ad'.block=ad.block/\(lo < hi->ad'.off=ad.off+lo*e.sz)) :
  Ro P w A (.slc e) ((v.take hi).drop lo) [.slice xa' (hi - lo) cap']:=by
 obtain ⟨a0,cap0,g1,g2,g3,g4⟩:=h
 simp only[List.cons.injEq,Value.slice.injEq,and_true] at g1
 obtain ⟨rfl,rfl,rfl⟩:=g1
 have hlen:List.length ((v.take hi).drop lo)=hi - lo:=by simp;omega
 refine ⟨xa',cap',by rw[hlen],by grind,fun hn=>?_,fun ad' had'=>?_⟩
 ·rw[hlen]
  cases hxa:xa <;> grind
 ·cases hxa:xa <;> grind
def AR (A:Cells) (F:Nat->FP) (rs:List Nat):Cells:=fun b i=>A b i\/∃ r ∈ rs,1<=F r b i
theorem read_root (h:Rel P C A X σ a w F) {s:Slot} {tv:Value} {G:FP} (hs:SlotRel P A σ a w tv s G) {t:Ty} {K:t.den->Option R} (hk:readK σ s t K=some x) :
  ∃ (v:t.den) (cs:List Value),K v=some x/\tv=mkV t cs/\Ro P w (AR A F (slotRoot s)) t v cs:=by
 have hAO:∀ b i,A b i->AR A F (slotRoot s) b i:=fun b i ha=>.inl ha
 have hsame:∀ b i,A b i->∀ u,ce w b i=some u->ce w b i=some u:=fun _ _ _ _ h=>h
 cases s with
 | val t' v=>
  obtain ⟨e,hk⟩:=castK_some hk;subst e
  obtain ⟨cs,h1,h2⟩:=hs
  grind [Ro.mono]
 | cp t' v=>
  obtain ⟨e,hk⟩:=castK_some hk;subst e
  exact ⟨v,[tv],hk,(mkV_one _ _ rfl).symm,Ro.mono hsame hAO _ hs⟩
 | nils=>
  simp only[readK] at hk
  split at hk
  ·rename_i t e
   have hs:tv=.slice none 0 0:=hs
   subst hs
   exact ⟨[],_,hk,(mkV_one _ _ rfl).symm,none,0,rfl,Nat.le_refl _,fun _=>rfl,fun ad had=>by cases had⟩
  ·cases hk
 | ref r p snap=>
  simp only[readK] at hk
  split at hk
  ·rename_i hok
   obtain ⟨hr,t',m',H',v',cs',ad',F',h1,h2,h3,h4,h5,h6⟩:=at_ok h hk
   obtain ⟨pl,g1,g2,g3⟩:=hs.2 hok
   rw[h3] at g1
   injection g1 with g1
   subst g1
   split at h1
   ·rename_i hH
    have hH:=List.isEmpty_iff.1 hH;subst hH
    obtain ⟨e,h1⟩:=castK_some h1;subst e
    exact ⟨v',cs',h1,g2,Rep.toRo hAO _ h4 (fun b i hp=>.inr ⟨r,List.mem_singleton.2 rfl,by grind⟩)⟩
   ·cases h1
  ·cases hk
 | sub r p snap lo hi=>
  simp only[readK] at hk
  split at hk
  ·rename_i hok
   obtain ⟨hr,t',m',H',v',cs',ad',F',h1,h2,h3,h4,h5,h6⟩:=at_ok h hk
   obtain ⟨pl,e,xa,n,cap,xa',cap',g1,g2,g3,g4,g5,g6,g7,g7',g8,g9,g10⟩:=hs.2 hok
   rw[h3] at g1
   injection g1 with g1
   subst g1
   simp only at g2 g3
   subst g2;subst g3
   split at h1
   ·rename_i hH
    have hH:=List.isEmpty_iff.1 hH;subst hH
    obtain ⟨e',h1⟩:=castK_some h1;subst e'
    exact ⟨_,_,h1,by rw[mkV_one _ _ rfl];exact g6,Ro.piece (Rep.toRo hAO _ h4 (fun b i hp=>.inr ⟨r,List.mem_singleton.2 rfl,by grind⟩)) g4 g5 g7 g8 g9⟩
   ·cases h1
  ·cases hk
 | ptr r p snap=>
  simp only[readK] at hk
  split at hk
  ·rename_i hok
   obtain ⟨hr,t',m',H',v',cs',ad',F',h1,h2,h3,h4,h5,h6⟩:=at_ok h hk
   obtain ⟨pl,b,o,g1,g2,g3,g4⟩:=hs.2 hok
   rw[h3] at g1
   injection g1 with g1
   subst g1
   split at h1
   ·rename_i hH
    have hH:=List.isEmpty_iff.1 hH;subst hH
    obtain ⟨e',h1⟩:=castK_some h1;subst e'
    simp only at g2
    subst g2
    refine ⟨v',[tv],h1,(mkV_one _ _ rfl).symm,⟨b,o,none⟩,by rw[g3],rfl,cs',Rep.length _ h4,fun j u hu=>⟨h6 b o rfl j u hu,?_⟩,
     Rep.toRo hAO _ h4 (fun b i hp=>.inr ⟨r,List.mem_singleton.2 rfl,by grind⟩)⟩
    have hj:j < t'.sz:=Rep.length _ h4 ▸ (List.getElem?_eq_some_iff.1 hu).1
    unfold place at h3
    cases hR:rootPl w (tmp a r) (σ.get r) with
    | none=>grind
    | some R0=>
     rw[hR] at h3
     obtain ⟨m0,v0,F1,q1,q2,q3,_⟩:=rootPl_rep (h.slots r hr) hR
     exact plc_cells hAO p R0.t q1 (fun b i hp=>.inr ⟨r,List.mem_singleton.2 rfl,by grind⟩) (fun b' o' e' j hj=>.inr ⟨r,List.mem_singleton.2 rfl,by
      grind [rng]⟩) h3 b o rfl j hj
   ·cases h1
  ·cases hk
 | _=>simp[readK] at hk
theorem slot_root_lt (h:Rel P C A X σ a w F) {s:Slot} {t:Ty} {K:t.den->Option R} (hk:readK σ s t K=some x):∀ r ∈ slotRoot s,r < σ.n:=by
 intro r hr
 cases s <;> simp only[slotRoot,List.mem_singleton,List.not_mem_nil] at hr
 all_goals
  subst hr
  simp only[readK] at hk
  split at hk
  ·exact (at_ok h hk).1
  ·cases hk
theorem read_ok (h:Rel P C A X σ a w F) {s:Slot} {tv:Value} {G:FP} (hs:SlotRel P A σ a w tv s G) {t:Ty} {K:t.den->Option R} (hk:readK σ s t K=some x) :
  ∃ (v:t.den) (cs:List Value),K v=some x/\tv=mkV t cs/\Ro P w (AO A σ F) t v cs:=by
 obtain ⟨v,cs,h1,h2,h3⟩:=read_root h hs hk
 refine ⟨v,cs,h1,h2,Ro.mono (fun _ _ _ _ h=>h) (fun b i ha=>?_) t h3⟩
 rcases ha with ha | ⟨r,hr,hp⟩
 ·exact .inl ha
 ·have:=le_sumF F (slot_root_lt h hk r hr) b i
  exact .inr (by omega)
end
end OT
set_option linter.unusedVariables false
set_option linter.unusedSimpArgs false
namespace OT
open Go
section
variable {P:Program} {C:Ctx} {A:Cells} {X:FP} {σ:St} {a:Act} {w:World} {F:Nat->FP} {R:Type} {x:R}
theorem lentB_none {l:List (Nat×Nat×Bool)} {r:Nat} (h:lentB l r=false) (k:Nat):(r,k,false) ∉ l:=by
 induction l with
 | nil=>grind
 | cons y l ih=>
  obtain ⟨k',n,b⟩:=y
  simp_all [lentB]
theorem put_same (a:Act) (i:Nat):a.put (some i) (tmp a i)=a:=by
 have:a.tmps.setIfInBounds i (tmp a i)=a.tmps:=by
  apply Array.ext
  all_goals simp_all [Array.getElem_setIfInBounds,tmp]
 simp[Act.put,this]
theorem use_ok (h:Rel P C A X σ a w F) {s:Slot} {tv:Value} {G:FP} (hs:SlotRel P A σ a w tv s G) {mv:Bool} {t:Ty} {K:Md->t.den->St->Option R} (hk:useK σ s mv t K=some x) :
  ∃ (A':Cells) (σ':St) (F':Nat->FP) (m:Md) (v:t.den) (cs:List Value) (Fv:FP),K m v σ'=some x/\(∀ b i,A b i->A' b i)/\Rel P C A' (fun b i=>X b i+Fv b i) σ' a w F'/\σ'.n=σ.n/\Roots σ σ' /\
   tv=mkV t cs/\Rep P w A' t m [] v cs Fv:=by
 have hz:Rel P C A (fun b i=>X b i+0) σ a w F:=h
 cases s with
 | val t' v=>
  simp only[useK] at hk
  obtain ⟨e,hk⟩:=castK_some hk;subst e
  obtain ⟨cs,h1,h2⟩:=hs
  exact ⟨A,σ,F,_,v,cs,fun _ _=>0,hk,fun _ _ h=>h,hz,rfl,Roots.refl σ,h1,Ro.rep _ _ (roMd_noOwn _) h2⟩
 | cp t' v=>
  simp only[useK] at hk
  obtain ⟨e,hk⟩:=castK_some hk;subst e
  exact ⟨A,σ,F,_,v,[tv],fun _ _=>0,hk,fun _ _ h=>h,hz,rfl,Roots.refl σ,(mkV_one _ _ rfl).symm,Ro.rep _ _ (roMd_noOwn _) hs⟩
 | nils=>
  simp only[useK] at hk
  split at hk
  ·rename_i t e
   have hs:tv=.slice none 0 0:=hs
   subst hs
   refine ⟨A,σ,F,_,_,[.slice none 0 0],fun _ _=>0,hk,fun _ _ h=>h,hz,rfl,Roots.refl σ,(mkV_one _ _ rfl).symm,?_⟩
   grind [Rep,hole,mdOf,Md.own]
  ·cases hk
 | ref r p snap=>
  simp only[useK] at hk
  split at hk
  ·rename_i hok
   obtain ⟨hr,t',m',H',v',cs',ad',F',h1,h2,h3,h4,h5,h6⟩:=at_ok h hk
   obtain ⟨pl,g1,g2,g3⟩:=hs.2 hok
   rw[h3] at g1
   injection g1 with g1
   subst g1
   split at h1
   ·rename_i hH
    have hH:=List.isEmpty_iff.1 hH;subst hH
    obtain ⟨e,h1⟩:=castK_some h1;subst e
    split at h1
    ·rename_i hm;subst hm
     exact ⟨A,σ,F,_,v',cs',fun _ _=>0,h1,fun _ _ h=>h,hz,rfl,Roots.refl σ,g2,Ro.rep _ _ (roMd_noOwn _) (Rep.ro _ (roMd_noOwn _) h4)⟩
    ·split at h1
     ·obtain ⟨A',σ',F2,cs,ad,Fv,k1,k2,k3,k4,kr,k5,k6⟩:=take_ok h h1 ⟨h2⟩
      rw[h3] at k5
      injection k5 with k5
      simp only[Pl.mk.injEq,true_and] at k5
      obtain ⟨rfl,rfl⟩:=k5
      exact ⟨A',σ',F2,_,v',cs',Fv,k1,k2,k3,k4,kr,g2,Rep.mono k2 (fun _ _ _ _ h=>h) (fun _ _ h=>h) _ k6 (fun _ _=>Nat.le_refl _) (fun _ _ _ _ h=>h)⟩
     ·obtain ⟨A',σ',F2,t2,m2,v2,cs,ad,k1,k2,k3,k4,kr,k5,k6,k7⟩:=freeze_ok h h1
      obtain ⟨e1,e2,e3,e4⟩:=At.inj ⟨h2⟩ k5
      subst e1
      have e4:=eq_of_heq e4
      subst e4
      rw[h3] at k6
      injection k6 with k6
      simp only[Pl.mk.injEq,true_and] at k6
      obtain ⟨rfl,rfl⟩:=k6
      exact ⟨A',σ',F2,_,v',cs',fun _ _=>0,k1,k2,k3,k4,kr,g2,Ro.rep _ _ (roMd_noOwn _) k7⟩
   ·cases h1
  ·cases hk
 | sub r p snap lo hi=>
  simp only[useK] at hk
  split at hk
  ·rename_i hok
   obtain ⟨hr,t',m',H',v',cs',ad',F',h1,h2,h3,h4,h5,h6⟩:=at_ok h hk
   obtain ⟨pl,e,xa,n,cap,xa',cap',g1,g2,g3,g4,g5,g6,g7,g7',g8,g9,g10⟩:=hs.2 hok
   rw[h3] at g1
   injection g1 with g1
   subst g1
   simp only at g2 g3
   subst g2;subst g3
   split at h1
   ·rename_i hH
    have hH:=List.isEmpty_iff.1 hH;subst hH
    obtain ⟨e',h1⟩:=castK_some h1;subst e'
    simp only at h1
    have htv:tv=mkV (.slc e) [.slice xa' (hi - lo) cap']:=by rw[mkV_one _ _ rfl];exact g6
    split at h1
    ·rename_i hm;subst hm
     exact ⟨A,σ,F,_,_,_,fun _ _=>0,h1,fun _ _ h=>h,hz,rfl,Roots.refl σ,htv,Ro.rep _ _ (roMd_noOwn _) (Ro.piece (Rep.ro _ (roMd_noOwn _) h4) g4 g5 g7 g8 g9)⟩
    ·split at h1
     ·split at h1
      ·rename_i hlo
       subst hlo
       obtain ⟨A',σ',F2,cs,ad,Fv,k1,k2,k3,k4,kr,k5,k6⟩:=take_ok h h1 ⟨h2⟩
       rw[h3] at k5
       injection k5 with k5
       simp only[Pl.mk.injEq,true_and] at k5
       obtain ⟨rfl,rfl⟩:=k5
       have k6:=Rep.mono k2 (fun _ _ _ _ h=>h) (fun _ _ h=>h) _ k6 (fun _ _=>Nat.le_refl _) (fun _ _ _ _ h=>h)
       refine ⟨A',σ',F2,_,_,_,Fv,k1,k2,k3,k4,kr,htv,?_⟩
       have hxa:=g7' rfl
       subst hxa
       simp only[Nat.add_zero] at g7
       subst g7
       simp only[Rep,hole,List.any_nil,Bool.false_eq_true,if_false] at k6 ⊢
       split at k6
       ·rename_i hown
        rw[if_pos hown]
        obtain ⟨a0,cap0,q1,q2,q3,q4,q5⟩:=k6
        simp only[List.cons.injEq,Value.slice.injEq,and_true] at q1
        obtain ⟨rfl,rfl,rfl⟩:=q1
        have hlen:List.length ((v'.take hi).drop 0)=hi:=by simp;omega
        refine ⟨xa',cap',by rw[hlen];rfl,by grind,q3,q4,fun ad had=>?_⟩
        obtain ⟨r1,r2,r3,Fi,r4,r5⟩:=q5 ad had
        refine ⟨r1,r2,r3,Fi,fun b i=>?_,fun i y hy=>?_⟩
        ·rw[hlen]
         have:=r4 b i;have:=sumF_part (List.length v') Fi 0 hi (by omega) b i
         grind
        simp_all [List.getElem?_take]
       ·rename_i hown
        rw[if_neg hown]
        exact ⟨trivial,k6.2.1,Ro.piece (cap':=cap') k6.2.2 g4 g5 rfl g8 g9⟩
      ·cases h1
     ·obtain ⟨A',σ',F2,t2,m2,v2,cs,ad,k1,k2,k3,k4,kr,k5,k6,k7⟩:=freeze_ok h h1
      obtain ⟨e1,e2,e3,e4⟩:=At.inj ⟨h2⟩ k5
      subst e1
      have e4:=eq_of_heq e4
      subst e4
      rw[h3] at k6
      injection k6 with k6
      simp only[Pl.mk.injEq,true_and] at k6
      obtain ⟨rfl,rfl⟩:=k6
      exact ⟨A',σ',F2,_,_,_,fun _ _=>0,k1,k2,k3,k4,kr,htv,Ro.rep _ _ (roMd_noOwn _) (Ro.piece k7 g4 g5 g7 g8 g9)⟩
   ·cases h1
  ·cases hk
 | ptr r p snap=>
  cases p with
  | cons s p=>simp[useK] at hk
  | nil=>
   simp only[useK] at hk
   split at hk
   ·rename_i hok
    split at hk
    ·rename_i t' m' H' v' hg
     split at hk
     ·rename_i hc
      simp only[Bool.and_eq_true,List.isEmpty_iff,Bool.not_eq_true'] at hc
      obtain ⟨rfl,hl⟩:=hc
      obtain ⟨e,hk⟩:=castK_some hk;subst e
      have hr:r < σ.n:=by
       grind [get_out]
      obtain ⟨pl,b,o,g1,g2,g3,g4⟩:=hs.2 hok
      have hsl:=h.slots r hr
      rw[hg] at hsl
      obtain ⟨b0,o0,L,F1,q1,q2,q3,q4,q5,q6⟩:=hsl
      unfold place at g1
      rw[hg,q1] at g1
      simp only[rootPl,Option.bind_some,plc,Option.some.injEq] at g1
      subst g1
      simp only[Option.some.injEq,Prod.mk.injEq] at g2
      obtain ⟨rfl,rfl⟩:=g2
      obtain ⟨b1,w1,w2⟩:=h.whole r t' m' [] v' hg (lentB_none hl)
      rw[q1] at w1
      simp only[Value.pointer.injEq,Option.some.injEq,Addr.mk.injEq,and_true] at w1
      obtain ⟨rfl,rfl⟩:=w1
      have hput:=h.put hr (s:=.dead) (v:=tmp a r) (Fd:=fun _ _=>0) (X':=fun b i=>X b i+F r b i) trivial (fun b i=>by omega) (fun t m H v e=>by cases e)
      rw[put_same] at hput
      refine ⟨A,_,_,_,v',[tv],F r,hk,fun _ _ h=>h,hput,rfl,(fun w tv i R hR=>⟨R.H,by
       rw[get_put] at hR
       split at hR
       ·cases hR
       ·exact hR⟩),(mkV_one _ _ rfl).symm,?_⟩
      grind [Rep,hole,Md.own,Md.e]
     ·cases hk
    ·cases hk
   ·cases hk
 | _=>simp[useK] at hk
theorem laid_ok {t:Ty} {m:Md} {v:t.den} {cs:List Value} {Fv:FP} (h:Rep P w A t m [] v cs Fv) :
  SlotRel P A σ a w (mkV t cs) (laid t m v) Fv/\∀ t' m' H' v',laid t m v=.box t' m' H' v'->∃ b,mkV t cs=.pointer (some ⟨b,0,none⟩)/\OwnBlk w b (t'.sz,false):=by
 unfold laid
 split
 ·rename_i hm;subst hm
  exact ⟨⟨cs,rfl,Rep.ro _ (roMd_noOwn _) h⟩,fun t' m' H' v' e=>by cases e⟩
 ·split
  ·rename_i e m' v' _
   simp only[Rep,hole,List.any_nil,Bool.false_eq_true,if_false,Md.own,if_true,Md.e] at h
   obtain ⟨b,rfl,h2,L,F1,h3,h4,h5,h6⟩:=h
   rw[mkV_one _ _ rfl]
   refine ⟨⟨b,0,L,F1,rfl,h3,h4,fun j hj=>by rw[Nat.zero_add];exact h2.frozen hj,h5,h6⟩,fun t' m' H' v' e=>?_⟩
   grind
  ·exact ⟨⟨cs,rfl,h⟩,fun t' m' H' v' e=>by cases e⟩
theorem Rel.put_out (h:Rel P C A X σ a w F) {d:Nat} (hd:σ.n<=d) (s:Slot) (v:Value) {X':FP} (ht:∀ b i,X' b i<=X b i):Rel P C A X' (σ.put d s) (a.put (some d) v) w F:=by
 have hsz:=h.size
 have ha:a.put (some d) v=a:=by simp[Act.put,Array.setIfInBounds,hsz,Nat.not_lt.2 hd]
 rw[ha]
 have hget:∀ i,(σ.put d s).get i=σ.get i:=fun i=>by
  grind [get_put]
 have hpres:Pres σ a w (σ.put d s) a w:=by
  intro r p snap hb
  rw[ver_put,St.ok,ver_put]
  by_cases hr:d=r
  ·subst hr
   simp only[if_true]
   refine ⟨hb.trans (below_bumpBase _),fun hok=>?_⟩
   have h0:=ok_bumpBase (h.vlen d) hb hok
   exact ⟨(ok_back hb (below_bumpBase _) hok).1,fun hl=>by omega⟩
  ·simp only[if_neg hr]
   refine ⟨hb,fun hok=>⟨hok,fun hl pl hpl=>⟨pl.H,pl.cs,?_,fun _=>rfl⟩⟩⟩
   simp_all [place]
 refine ⟨h.size,h.defers,fun i hi=>?_,?_,fun b i=>by have:=h.tot b i;have:=ht b i;show X' b i+sumF σ.n F b i<=1;omega,fun b i hp=>h.dis b i (by have:=ht b i;have hp:1<=X' b i+sumF σ.n F b i:=hp;omega),
  fun b i hp=>h.bnd b i (hp.imp (fun hp=>by have:=ht b i;have hp:1<=X' b i+sumF σ.n F b i:=hp;omega) id),fun i=>?_,h.ext,fun b i hp=>h.own b i (by have:=ht b i;have hp:1<=X' b i+sumF σ.n F b i:=hp;omega),h.a0,h.a1,?_,?_,?_,h.tab⟩
 ·rw[hget]
  exact SlotRel.pres hpres (fun _ _ h=>h) (fun _ _ _ _ h=>h) (fun _ _ h=>h) (fun _ _ _=>⟨fun _ h=>h,rfl⟩) (h.slots i hi)
 ·intro d' r p snap hm
  exact RefRel.pres hpres (h.gh d' r p snap (mem_ungh hm).1)
 ·rw[ver_put]
  split
  ·rw[len_bumpBase];exact h.vlen d
  ·exact h.vlen i
 ·intro j k hm;exact h.lentP j k (mem_unlend hm).1
 ·intro r t m H v' hg hl
  rw[hget] at hg
  refine h.whole r t m H v' hg fun k hm=>hl k (unlend_mem hm fun e=>?_)
  grind [get_out]
 ·intro j k hm R hR
  rw[hget] at hR
  exact h.lentS j k (mem_unlend hm).1 R hR
theorem Rel.putD (h:Rel P C A X σ a w F) (d:Option Tmp) {s:Slot} {v:Value} {Fd X':FP} (hs:SlotRel P A σ a w v s Fd) (ht:∀ b i,X' b i+Fd b i<=X b i)
  (hwh:∀ t m H v',s=.box t m H v'->∃ b,v=.pointer (some ⟨b,0,none⟩)/\OwnBlk w b (t.sz,false)):∃ F',Rel P C A X' (σ.putD d s) (a.put d v) w F':=by
 cases d with
 | none=>exact ⟨F,h.less fun b i=>by grind⟩
 | some d=>
  rcases Nat.lt_or_ge d σ.n with hd | hd
  ·exact ⟨_,h.put hd hs (fun b i=>by grind) hwh⟩
  ·exact ⟨_,h.put_out hd s v fun b i=>by grind⟩
def RelE (P:Program) (C:Ctx) (σ:St) (a:Act) (w:World):Prop:=∃ A F,Rel P C A (fun _ _=>0) σ a w F
end
end OT
set_option linter.unusedVariables false
set_option linter.unusedSimpArgs false
namespace OT
open Go
def zc:Ty->Option (List Value)
 | .int k=>some [.int k 0]
 | .bool=>some [.bool false]
 | .str=>some [.string ⟨#[]⟩]
 | .unit=>some []
 | .pair a b=>match zc a,zc b with
  | some x,some y=>some (x++y)
  | _,_=>none
 | .arr n e=>match zc e with
  | some x=>some (List.replicate n x).flatten
  | none=>none
 | .slc _=>some [.slice none 0 0]
 | _=>none
def veq:Value->Value->Bool
 | .int k n,.int k' n'=>decide (k=k')&&decide (n=n')
 | .bool a,.bool b=>a == b
 | .string s,.string t=>decide (s.data.toList=t.data.toList)
 | .slice none 0 0,.slice none 0 0=>true
 | _,_=>false
def vseq:List Value->List Value->Bool
 | [],[]=>true
 | a::x,b::y=>veq a b&&vseq x y
 | _,_=>false
theorem veq_eq {a b:Value} (h:veq a b=true):a=b:=by
 unfold veq at h
 split at h
 ·grind
 ·grind
 ·rename_i s t
  simp only[decide_eq_true_eq] at h
  congr 1
  cases s;simp_all
 all_goals grind
theorem vseq_eq:∀ {x y:List Value},vseq x y=true->x=y
 | [],[],_=>rfl
 | a::x,b::y,h=>by
  simp only[vseq,Bool.and_eq_true] at h
  rw[veq_eq h.1,vseq_eq h.2]
 | [],_::_,h=>by simp[vseq] at h
 | _::_,[],h=>by simp[vseq] at h
def infoOk (P:Program) (t:Ty) (i:TypeId):Bool:=
 match P.info? i with
 | some inf=>Nat.beq inf.size t.sz&&Nat.ble inf.bytes 512&&(match inf.zero with
  | some z=>Nat.beq z.cells.size t.sz&&(match zc t with
   | some L=>vseq z.cells.toList L
   | none=>true)
  | none=>false)
 | none=>false
def eqB (P:Program):Ty->Sum TypeId (List Field)->Bool
 | .int _,.inl _=>true
 | .bool,.inl _=>true
 | .str,.inl _=>true
 | .unit,.inl i=>!P.stoodInHeld i
 | .unit,.inr _=>true
 | .pair a b,.inl i=>!P.stoodInHeld i&&(match P.underlying i with
  | some (.struct fs)=>(match fs.toList with
   | f::r=>f.name != "_" && eqB P a (.inl f.type)&&eqB P b (.inr r)
   | []=>false)
  | _=>false)
 | .pair a b,.inr (f::r)=>f.name != "_" && eqB P a (.inl f.type)&&eqB P b (.inr r)
 | .arr _ e,.inl i=>(match P.underlying i with
  | some (.array _ el)=>eqB P e (.inl el)
  | _=>false)
 | _,_=>false
def dep:Ty->Nat
 | .arr _ e=>dep e+1
 | .pair a b=>max (dep a+1) (dep b)
 | _=>1
def keyB (P:Program) (k:Ty) (i:TypeId):Bool:=isAgg k&&k.eqOk&&k.flat&&eqB P k (.inl i)&&Nat.ble (dep k) 9000
def zvB (P:Program) (v:Ty) (i:TypeId):Bool:=match P.info? i with
 | some inf=>(match inf.zero with
  | some (.agg _)=>isAgg v
  | some _=>!isAgg v
  | none=>false)
 | none=>false
def layB (P:Program):Ty->Sum TypeId (List Field×Nat)->Bool
 | .int k,.inl i=>infoOk P (.int k) i&&(match P.underlying i with | some (.int k')=>decide (k=k') | _=>false)
 | .bool,.inl i=>infoOk P .bool i&&(match P.underlying i with | some .bool=>true | _=>false)
 | .str,.inl i=>infoOk P .str i&&(match P.underlying i with | some .string=>true | _=>false)
 | .unit,.inl i=>infoOk P .unit i&&(match P.underlying i with | some (.struct fs)=>fs.toList.isEmpty | _=>false)
 | .unit,.inr (fs,_)=>fs.isEmpty
 | .pair a b,.inl i=>infoOk P (.pair a b) i&&(match P.underlying i with
  | some (.struct fs)=>(match fs.toList with
   | f::r=>Nat.beq f.offset 0&&Nat.ble 1 a.sz&&layB P a (.inl f.type)&&layB P b (.inr (r,a.sz))
   | []=>false)
  | _=>false)
 | .pair a b,.inr (f::r,off)=>Nat.beq f.offset off&&Nat.ble 1 a.sz&&layB P a (.inl f.type)&&layB P b (.inr (r,off+a.sz))
 | .arr n e,.inl i=>infoOk P (.arr n e) i&&e.flat&&(match P.underlying i with | some (.array n' el)=>Nat.beq n n'&&Nat.ble 1 e.sz&&layB P e (.inl el) | _=>false)
 | .slc e,.inl i=>infoOk P (.slc e) i&&(match P.underlying i with | some (.slice el)=>Nat.ble 1 e.sz&&layB P e (.inl el) | _=>false)
 | .ptr e,.inl i=>infoOk P (.ptr e) i&&(match P.underlying i with | some (.pointer el)=>layB P e (.inl el) | _=>false)
 | .fn,.inl i=>infoOk P .fn i&&(match P.underlying i with | some (.func ..)=>true | _=>false)
 | .map k v,.inl i=>infoOk P (.map k v) i&&(match P.underlying i with | some (.map ki vi)=>layB P k (.inl ki)&&layB P v (.inl vi)&&keyB P k ki&&zvB P v vi | _=>false)
 | _,_=>false
section
variable {P:Program} {w:World} {A:Cells}
theorem infoOk_zero {t:Ty} {i:TypeId} (h:infoOk P t i=true):∃ inf z,P.info? i=some inf/\inf.size=t.sz/\inf.bytes<=512/\inf.zero=some z/\z.cells.size=t.sz/\∀ L,zc t=some L->z.cells.toList=L:=by
 grind [infoOk,Nat.beq_eq,Nat.ble_eq,vseq_eq]
theorem infoOk_some {t:Ty} {i:TypeId} (h:infoOk P t i=true):∃ inf,P.info? i=some inf/\inf.size=t.sz/\inf.bytes<=512/\∀ L,zc t=some L->∃ z,inf.zero=some z/\z.cells.toList=L:=by
 grind [infoOk_zero]
theorem layB_info {t:Ty} {i:TypeId} (h:layB P t (.inl i)=true):infoOk P t i=true:=by
 cases t <;> simp only[layB,Bool.and_eq_true] at h <;> first | exact h.1 | exact h.1.1 | cases h
theorem layB_isAgg {t:Ty} {i:TypeId} (h:layB P t (.inl i)=true):∃ d,P.underlying i=some d/\(isAgg t=true->(∃ fs,d=.struct fs)\/∃ n e,d=.array n e)/\(isAgg t=false->(∀ fs,d≠.struct fs)/\∀ n e,d≠.array n e):=by
 cases hd:P.underlying i with
 | none=>cases t <;> simp[layB,hd] at h
 | some d=>
  refine ⟨d,rfl,?_,?_⟩
  ·intro ha
   cases t <;> simp only[isAgg] at ha <;> first | cases ha | skip
   all_goals grind [layB]
  ·intro ha
   cases t <;> simp only[isAgg] at ha <;> first | cases ha | skip
   all_goals grind [layB]
theorem run_isAgg {t:Ty} {i:TypeId} (h:layB P t (.inl i)=true):(Go.isAgg i).run P w=.ok (isAgg t) w:=by
 obtain ⟨d,h1,h2,h3⟩:=layB_isAgg h
 unfold Go.isAgg
 simp only[Sem.run_bind,run_underlying h1,Result.andThen_ok]
 cases ht:isAgg t with
 | true=>
  rcases h2 ht with ⟨fs,rfl⟩ | ⟨n,e,rfl⟩ <;> rfl
 | false=>
  simp_all
theorem run_sizeOf {t:Ty} {i:TypeId} (h:layB P t (.inl i)=true):(Go.sizeOf i).run P w=.ok t.sz w:=by
 obtain ⟨inf,h1,h2,_⟩:=infoOk_some (layB_info h)
 simp[Go.sizeOf,typeInfo,h1,h2]
theorem isAgg_sz {t:Ty} (h:isAgg t=false):t.sz=1:=by cases t <;> simp_all [isAgg,Ty.sz]
theorem addr_add (b o n:Nat):(⟨b,o,none⟩:Addr).add n=⟨b,o+n,none⟩:=by grind [Addr.add]
theorem run_loadVar {t:Ty} {i:TypeId} (h:layB P t (.inl i)=true) {b o:Nat} {L:List Value} (hL:Has w b o L) (hl:L.length=t.sz) (hone:∀ u ∈ L,u.oneCell'=true):(loadVar i ⟨b,o,none⟩).run P w=.ok (mkV t L) w:=by
 unfold loadVar
 simp only[Sem.run_bind,run_isAgg h,Result.andThen_ok]
 cases ht:isAgg t with
 | true=>
  have:=run_loadCells_list (P:=P) w ⟨b,o,none⟩ L (fun j v hj=>by rw[addr_add];exact ce_cell (hL j v hj) (hone v (List.mem_of_getElem? hj)))
  rw[hl] at this
  simp only[if_true,Sem.run_bind,run_sizeOf h,Result.andThen_ok,this,Sem.run_pure,mkV,ht]
 | false=>
  have hs:=isAgg_sz ht
  match L,hl with
  | [y],_=>
   have:=ce_cell (hL 0 y rfl) (hone y (by simp))
   grind [run_load,mkV]
  | [],hl=>grind
  | _::_::_,hl=>grind
theorem zc_ok:∀ (t:Ty) {L:List Value} {i:Sum TypeId (List Field×Nat)},zc t=some L->layB P t i=true->Rep P w A t (ownMd t) [] t.zero L (fun _ _=>0)/\Ro P w A t t.zero L/\L.length=t.sz:=by
 intro t
 induction t with
 | int k=>intro L i h _;injection h with h;subst h;cases k <;> exact ⟨rfl,rfl,rfl⟩
 | bool=>intro L i h _;injection h with h;subst h;exact ⟨rfl,rfl,rfl⟩
 | str=>intro L i h _;injection h with h;subst h;exact ⟨rfl,rfl,rfl⟩
 | unit=>intro L i h _;injection h with h;subst h;exact ⟨rfl,rfl,rfl⟩
 | pair a b iha ihb=>
  intro L i h hl
  simp only[zc] at h
  split at h
  ·rename_i x y hx hy
   injection h with h;subst h
   have:∃ ia ib,layB P a ia=true/\layB P b ib=true:=by
    cases i with
    | inl i=>
     grind [layB]
    | inr fo=>
     obtain ⟨fs,off⟩:=fo
     cases fs <;> grind [layB]
   obtain ⟨ia,ib,h1,h2⟩:=this
   obtain ⟨ra,oa,la⟩:=iha hx h1
   obtain ⟨rb,ob,lb⟩:=ihb hy h2
   have e1:(x++y).take a.sz=x:=List.take_left' la
   have e2:(x++y).drop a.sz=y:=List.drop_left' la
   refine ⟨⟨rfl,fun _ _=>0,fun _ _=>0,fun _ _=>Nat.le_refl _,by rw[e1];exact ra,by rw[e2];exact rb⟩,⟨by rw[e1];exact oa,by rw[e2];exact ob⟩,by grind [Ty.sz]⟩
  ·cases h
 | arr n e ih=>
  intro L i h hl
  simp only[zc] at h
  split at h
  ·rename_i z hz
   injection h with h;subst h
   have:e.flat=true/\∃ ie,layB P e ie=true:=by
    grind [layB]
   obtain ⟨hf,ie,he⟩:=this
   obtain ⟨re,oe,le⟩:=ih hz he
   have hlen:∀ n,((List.replicate n z).flatten).length=n*e.sz:=fun n=>by
    simp_all
   have hro:Ro P w A (.arr n e) (Ty.arr n e).zero ((List.replicate n z).flatten):=by
    refine ⟨hf,by simp[Ty.zero],hlen n,fun i x hx=>?_⟩
    have hi:i < n:=by grind [Ty.zero]
    have hx:x=e.zero:=by
     grind [Ty.zero]
    subst hx
    have:(((List.replicate n z).flatten).drop (i*e.sz)).take e.sz=z:=by
     have e1:n=i+(1+(n - i - 1)):=by omega
     rw[e1,<- List.replicate_append_replicate,<- List.replicate_append_replicate,List.flatten_append,List.flatten_append]
     grind
    grind
   exact ⟨⟨rfl,hro⟩,hro,hlen n⟩
  ·cases h
 | slc e ih=>
  intro L i h _
  injection h with h;subst h
  refine ⟨?_,⟨none,0,rfl,Nat.le_refl _,fun _=>rfl,fun ad had=>by cases had⟩,rfl⟩
  simp only[Rep,hole,List.any_nil,Bool.false_eq_true,if_false,ownMd,mdOf,Md.own,if_true]
  exact ⟨none,0,rfl,Nat.le_refl _,by simp[maxLen],fun _=>rfl,fun ad had=>by cases had⟩
 | ptr e ih=>grind [zc]
 | fn=>grind [zc]
 | map k v=>grind [zc]
theorem run_zeroValue {t:Ty} {i:TypeId} (h:layB P t (.inl i)=true) {L:List Value} (hz:zc t=some L):∃ z,(zeroValue i).run P w=.ok z w/\z.cells.toList=L:=by
 obtain ⟨inf,h1,h2,_,h3⟩:=infoOk_some (layB_info h)
 obtain ⟨z,h4,h5⟩:=h3 L hz
 simp_all [zeroValue,typeInfo]
end
end OT
