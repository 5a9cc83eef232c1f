/- The proof's parts, merged: The pure interpreter of the model s code over owned trees  definitions alone, nothing is claimed here.. No conditions but those that each states. -/
import GoSem.Core.Code
import GoSem.Core.View
import Derived.Laws.IdiomCopy
import Derived.Laws.Cells
import Derived.Laws.AppendOwn
import Derived.Calls
import Derived.Lib.LaidTab
import Derived.Lib.ItoaNum
import Derived.Laws.Entries
import Derived.Laws.NewFold
import Derived.Laws.Sem
namespace OT
open Go
inductive Ty where
 | int (k:IntKind)
 | bool
 | str
 | unit
 | pair (a b:Ty)
 | arr (n:Nat) (e:Ty)
 | aa (e:Ty)
 | ptr (e:Ty)
 | fn
 | map (k v:Ty)
 deriving DecidableEq
@[reducible] def ry:IntKind->Type
 | .u8=>UInt8
 | _=>Int
@[reducible] def Ty.den:Ty->Type
 | .int k=>ry k
 | .bool=>Bool
 | .str=>List UInt8
 | .unit=>Unit
 | .pair a b=>a.den×b.den
 | .arr _ e=>List e.den
 | .aa e=>List e.den
 | .ptr e=>e.den
 | .fn=>Nat×Int
 | .map k v=>List (k.den×v.den)
def Ty.sz:Ty->Nat
 | .unit=>0
 | .pair a b=>a.sz+b.sz
 | .arr n e=>n*e.sz
 | _=>1
def Ty.flat:Ty->Bool
 | .pair a b=>a.flat&&b.flat
 | .arr _ e=>e.flat
 | .aa _ | .ptr _ | .map _ _=>false
 | _=>true
def fZ:(k:IntKind)->ry k->Int
 | .u8,n=>(n.toNat:Int)
 | .i8,n=>n
 | .i16,n=>n
 | .i32,n=>n
 | .i64,n=>n
 | .u16,n=>n
 | .u32,n=>n
 | .u64,n=>n
def ta:(k:IntKind)->Int->ry k
 | .u8,n=>UInt8.ofInt n
 | .i8,n=>IntKind.wrap .i8 n
 | .i16,n=>IntKind.wrap .i16 n
 | .i32,n=>IntKind.wrap .i32 n
 | .i64,n=>IntKind.wrap .i64 n
 | .u16,n=>IntKind.wrap .u16 n
 | .u32,n=>IntKind.wrap .u32 n
 | .u64,n=>IntKind.wrap .u64 n
def Jl:(k:IntKind)->Int->ry k
 | .u8,n=>UInt8.ofInt n
 | .i8,n=>n
 | .i16,n=>n
 | .i32,n=>n
 | .i64,n=>n
 | .u16,n=>n
 | .u32,n=>n
 | .u64,n=>n
def Ty.zero:(t:Ty)->t.den
 | .int k=>Jl k 0
 | .bool=>false
 | .str=>[]
 | .unit=>()
 | .pair a b=>(a.zero,b.zero)
 | .arr n e=>List.replicate n e.zero
 | .aa _=>[]
 | .ptr e=>e.zero
 | .fn=>(0,0)
 | .map _ _=>[]
def Ty.lw:Ty->Bool
 | .pair a b=>a.lw&&b.lw
 | .arr _ e=>e.lw
 | .ptr _ | .fn | .map _ _=>false
 | _=>true
def Ty.eq:(t:Ty)->t.den->t.den->Bool
 | .int .u8,a,b=>a == b
 | .int .i8,a,b=>decide (a=b)
 | .int .i16,a,b=>decide (a=b)
 | .int .i32,a,b=>decide (a=b)
 | .int .i64,a,b=>decide (a=b)
 | .int .u16,a,b=>decide (a=b)
 | .int .u32,a,b=>decide (a=b)
 | .int .u64,a,b=>decide (a=b)
 | .bool,a,b=>a == b
 | .str,a,b=>decide (a=b)
 | .pair x y,a,b=>x.eq a.1 b.1&&y.eq a.2 b.2
 | .arr _ e,a,b=>(a.zip b).all λp=>e.eq p.1 p.2
 | _,_,_=>true
def Ty.fv:Ty->Bool
 | .int _ | .bool | .str | .unit=>true
 | .pair a b=>a.fv&&b.fv
 | .arr _ e=>e.fv
 | _=>false
def Ty.gz:Ty->Bool
 | .pair a b=>a.gz&&b.gz
 | .arr _ e | .aa e | .ptr e=>e.gz
 | .map k v=>k.gz&&v.gz
 | .fn=>false
 | _=>true
inductive Md where
 | leaf
 | pair (a b:Md)
 | arr (e:Md)
 | aa (own:Bool) (e:Md)
 | ptr (own:Bool) (e:Md)
 deriving DecidableEq
def lz (own:Bool):Ty->Md
 | .pair a b=>.pair (lz own a) (lz own b)
 | .arr _ e=>.arr (lz own e)
 | .aa e=>.aa own (lz own e)
 | .ptr e=>.ptr own (lz own e)
 | .map _ _=>.aa own .leaf
 | _=>.leaf
abbrev ag:=lz false
abbrev av:=lz true
def Md.l:Md->Md
 | .pair a _=>a
 | _=>.leaf
def Md.r:Md->Md
 | .pair _ b=>b
 | _=>.leaf
def Md.e:Md->Md
 | .arr e | .aa _ e | .ptr _ e=>e
 | _=>.leaf
def Md.own:Md->Bool
 | .aa o _ | .ptr o _=>o
 | _=>false
def Md.dv:Md->Bool
 | .leaf=>true
 | .pair a b=>a.dv&&b.dv
 | .arr e=>e.dv
 | .aa o e=>!o&&e.dv
 | .ptr o e=>!o&&e.dv
def fits:Md->Md->Bool
 | .leaf,.leaf=>true
 | .pair a b,.pair c d=>fits a c&&fits b d
 | .arr a,.arr b=>fits a b
 | .aa o a,.aa o' b=>(o||!o')&&(o'||b.dv)&&fits a b
 | .ptr o a,.ptr o' b=>(o||!o')&&(o'||b.dv)&&fits a b
 | _,_=>false
inductive Step where
 | fst
 | snd
 | idx (i:Nat)
 | hJ (i:Nat)
abbrev Path:=List Step
def bm:Path->Nat
 | []=>0
 | .idx _::p=>bm p+1
 | _::p=>bm p
structure wG where
 t:Ty
 m:Md
 v:t.den
inductive Slot where
 | dead
 | mn
 | val (t:Ty) (v:t.den)
 | cp (t:Ty) (v:t.den)
 | own (t:Ty) (m:Md) (H:List Path) (v:t.den)
 | box (t:Ty) (m:Md) (H:List Path) (v:t.den)
 | ref (r:Nat) (p:Path) (snap:List Nat)
 | sub (r:Nat) (p:Path) (snap:List Nat) (lo hi:Nat)
 | ptr (r:Nat) (p:Path) (snap:List Nat)
 | iI (xs:List wG)
structure St where
 n:Nat
 sl:List (Nat×Slot)
 vr:List (Nat×List Nat)
 aA:List (Nat×Nat×Bool)
 gh:List (Nat×Nat×Path×List Nat):=[]
def fd {α:Type}:List (Nat×α)->Nat->Option α
 | [],_=>none
 | (k,x)::l,i=>if Nat.beq k i then some x else fd l i
def St.get (σ:St) (i:Nat):Slot:=if Nat.blt i σ.n then (match fd σ.sl i with | some s=>s | none=>.dead) else .dead
def St.dJ (σ:St) (i:Nat):List Nat:=match fd σ.vr i with | some v=>v | none=>[0,0,0,0,0]
def jk:List Nat->List Nat:=λv=>v.map (·+1)
def kb (d:Nat):List Nat->List Nat
 | [b,x,y,z,w]=>match d with
  | 0=>[b,x+1,y,z,w+1]
  | 1=>[b,x,y+1,z,w+1]
  | 2=>[b,x,y,z+1,w+1]
  | _=>[b+1,x,y,z,w+1]
 | v=>jk v
def mp:List Nat->List Nat
 | [b,x,y,z,w]=>[b,x,y,z,w+1]
 | v=>jk v
def St.eI (σ:St) (i:Nat) (f:List Nat->List Nat):St:={ σ with vr:=(i,f (σ.dJ i))::σ.vr }
def pz:List (Nat×Nat×Bool)->Nat->List (Nat×Nat×Bool)
 | [],_=>[]
 | (k,b)::l,i=>if Nat.beq k i then pz l i else (k,b)::pz l i
def Ar:List (Nat×Nat×Path×List Nat)->Nat->List (Nat×Nat×Path×List Nat)
 | [],_=>[]
 | (d,x)::l,i=>if Nat.beq d i then Ar l i else (d,x)::Ar l i
def pA:List (Nat×Nat×Bool)->Nat->List (Nat×Nat×Bool)
 | [],_=>[]
 | (k,n,b)::l,i=>if Nat.beq k i&&b then pA l i else (k,n,b)::pA l i
def rz:List (Nat×Nat×Bool)->Nat->Nat->Bool->Bool
 | [],_,_,_=>false
 | (k,n,b)::l,i,j,c=>(Nat.beq k i&&Nat.beq n j&&(b == c))||rz l i j c
def rX:List (Nat×Nat×Bool)->Nat->Bool
 | [],_=>false
 | (k,_,b)::l,i=>(Nat.beq k i&&!b)||rX l i
def wH:List (Nat×Nat×Bool)->Nat->Option Nat
 | [],_=>none
 | (k,n,b)::l,i=>if Nat.beq k i&&b then some n else wH l i
def St.put (σ:St) (i:Nat) (s:Slot):St:={ n:=σ.n,sl:=(i,s)::σ.sl,vr:=(i,jk (σ.dJ i))::σ.vr,aA:=pz σ.aA i,gh:=Ar σ.gh i }
def St.head (σ:St) (r d:Nat):St:=match d with
 | 0=>{ σ with aA:=pA σ.aA r }
 | _=>σ
def St.y8 (σ:St) (i:Nat) (s:Slot):St:={ σ with sl:=(i,s)::σ.sl }
def St.aI (σ:St) (d:Option Tmp) (s:Slot):St:=match d with
 | some i=>σ.put i s
 | none=>σ
def preB:List Nat->List Nat->Bool
 | [],_=>true
 | a::x,b::y=>Nat.beq a b&&preB x y
 | _::_,[]=>false
section
variable {R:Type}
def cS (t t':Ty) (v:t.den) (K:t'.den->Option R):Option R:=
 if h:t=t' then K (h ▸ v) else none
def lE:Path->Option Path
 | .fst::p=>some p
 | _=>none
def lF:Path->Option Path
 | .snd::p=>some p
 | _=>none
def nx (H:List Path) (i:Nat) (K:List Path->Option R):Option R:=
 match H with
 | []=>K []
 | [.idx j::q]=>if i=j then K [q] else none
 | _=>none
def fw:(p:Path)->(t:Ty)->Md->List Path->t.den->((t':Ty)->Md->List Path->t'.den->Option R)->Option R
 | [],t,m,H,v,K=>K t m H v
 | .fst::p,.pair a _,m,H,v,K=>if H.any (·.isEmpty) then none else fw p a m.l (H.filterMap lE) v.1 K
 | .snd::p,.pair _ b,m,H,v,K=>if H.any (·.isEmpty) then none else fw p b m.r (H.filterMap lF) v.2 K
 | .idx i::p,.aa e,m,H,v,K=>nx H i λH'=>(v[i]?).bind λx=>fw p e m.e H' x K
 | .hJ i::p,.arr _ e,m,H,v,K=>if H.isEmpty then (v[i]?).bind λx=>fw p e m.e [] x K else none
 | _,_,_,_,_,_=>none
def ir:(p:Path)->(t:Ty)->Md->List Path->t.den ->
    ((t':Ty)->Md->List Path->t'.den->(Md->List Path->t'.den->Option R)->Option R)->(Md->List Path->t.den->Option R)->Option R
 | [],t,m,H,v,f,K=>f t m H v K
 | .fst::p,.pair a _,m,H,v,f,K=>
  if H.any (·.isEmpty) then none else
  ir p a m.l (H.filterMap lE) v.1 f λm' H' x=>K (.pair m' m.r) (H'.map (.fst::·)++(H.filterMap lF).map (.snd::·)) (x,v.2)
 | .snd::p,.pair _ b,m,H,v,f,K=>
  if H.any (·.isEmpty) then none else
  ir p b m.r (H.filterMap lF) v.2 f λm' H' x=>K (.pair m.l m') ((H.filterMap lE).map (.fst::·)++H'.map (.snd::·)) (v.1,x)
 | .idx i::p,.aa e,m,H,v,f,K=>
  if m.own then
   nx H i λH0=>(v[i]?).bind λx=>
    ir p e m.e H0 x f λm' H' y=>
     if m'=m.e then K (.aa true m.e) (H'.map (.idx i::·)) (v.set i y)
     else if H'.isEmpty then K (.aa true (ag e)) [] (v.set i y) else none
  else none
 | .hJ i::p,.arr _ e,m,H,v,f,K=>
  if H.isEmpty then (v[i]?).bind λx=>
   ir p e m.e [] x f λ_ H' y=>if H'.isEmpty then K m [] (v.set i y) else none
  else none
 | _,_,_,_,_,_,_=>none
def qT:Path->Ty->Option Ty
 | [],t=>some t
 | .fst::p,.pair a _=>qT p a
 | .snd::p,.pair _ b=>qT p b
 | .idx _::p,.aa e=>qT p e
 | .hJ _::p,.arr _ e=>qT p e
 | _,_=>none
def mq (σ:St) (r:Nat) (K:(t:Ty)->Md->List Path->t.den->Option R):Option R:=
 match σ.get r with
 | .own t m H v | .box t m H v=>K t m H v
 | _=>none
def St.dq (σ:St) (r:Nat) (t:Ty) (m:Md) (H:List Path) (v:t.den):St:=
 match σ.get r with
 | .box ..=>σ.y8 r (.box t m H v)
 | _=>σ.y8 r (.own t m H v)
def St.ok (σ:St) (r:Nat) (snap:List Nat):Bool:=preB snap (σ.dJ r)
def gg (σ:St) (r:Nat) (p:Path) (K:(t:Ty)->Md->List Path->t.den->Option R):Option R:=
 mq σ r λt m H v=>fw p t m H v K
def lA (σ:St) (r:Nat) (p:Path) (t:Ty) (m:Md) (v:t.den) (K:St->Option R):Option R:=
 mq σ r λt0 m0 H0 v0=>
  ir p t0 m0 H0 v0 (λt' _ _ _ k=>cS t t' v λx=>k m [] x) λm' H' v'=>
   K (((σ.dq r t0 m' H' v').eI r (if t.flat then mp else kb (bm p))).head r (bm p))
def ku:Ty->List Path
 | .pair a b=>(ku a).map (.fst::·)++(ku b).map (.snd::·)
 | .aa _ | .ptr _ | .map _ _=>[[]]
 | .arr _ e=>if e.flat then [] else [[]]
 | _=>[]
def oU (σ:St) (r:Nat) (p:Path) (K:St->Option R):Option R:=
 mq σ r λt0 m0 H0 v0=>
  ir p t0 m0 H0 v0 (λt' m' _ x k=>k m' (ku t') x) λm' H' v'=>
   K (((σ.dq r t0 m' H' v').eI r (kb (bm p))).head r (bm p))
def ny (σ:St) (r:Nat) (p:Path) (K:St->Option R):Option R:=
 mq σ r λt0 m0 H0 v0=>
  ir p t0 m0 H0 v0 (λt' m H x k=>if H.isEmpty&&fits m (ag t') then k (ag t') [] x else none) λm' H' v'=>
   K (σ.dq r t0 m' H' v')
def lW (σ:St) (r:Nat) (p:Path) (m1:Md) (K:St->Option R):Option R:=
 mq σ r λt0 m0 H0 v0=>
  ir p t0 m0 H0 v0 (λ_ m H x k=>if H.isEmpty&&fits m m1 then k m1 [] x else none) λm' H' v'=>
   K (σ.dq r t0 m' H' v')
def lX (σ:St) (r:Nat) (p:Path):List Nat:=(σ.dJ r).take (1+bm p)
def ld (σ:St) (r:Nat) (p:Path) (t:Ty):List Nat:=match t with
 | .aa _ | .map _ _=>(σ.dJ r).take (2+bm p)
 | _=>σ.dJ r
def jM:Value->Slot
 | .int .u8 n=>if ((UInt8.ofInt n).toNat:Int)=n then .val (.int .u8) (UInt8.ofInt n) else .dead
 | .int .i64 n=>.val (.int .i64) n
 | .int .u64 n=>.val (.int .u64) n
 | .int .u32 n=>.val (.int .u32) n
 | .int .i32 n=>.val (.int .i32) n
 | .bool b=>.val .bool b
 | .string s=>.val .str s.data.toList
 | .slice none 0 0=>.mn
 | _=>.dead
def bh (σ:St):Operand->Slot
 | .tmp i=>match σ.get i with
  | .own t _ _ _=>.ref i [] (ld σ i [] t)
  | .box _ _ _ _=>.ptr i [] (lX σ i [])
  | s=>s
 | .const v=>jM v
 | .func f=>.val .fn (f,0)
 | .global _=>.dead
def ep (σ:St) (s:Slot) (mv:Bool) (t:Ty) (K:Md->t.den->St->Option R):Option R:=
 match s with
 | .val t' v=>cS t' t v λv=>K (ag t) v σ
 | .cp t' v=>cS (.ptr t') t v λv=>K (ag t) v σ
 | .mn=>match t with
  | .aa e=>K (av (.aa e)) [] σ
  | _=>none
 | .ref r p snap=>
  if σ.ok r snap then
   gg σ r p λt' m H v=>
    if H.isEmpty then cS t' t v λv=>
     if m=ag t then K m v σ
     else if mv then oU σ r p λσ=>K m v σ
     else ny σ r p λσ=>K (ag t) v σ
    else none
  else none
 | .sub r p snap lo hi=>
  if σ.ok r snap then
   gg σ r p λt' m H v=>
    if H.isEmpty then cS t' t v λv=>match t,v with
     | .aa e,v=>
      if m=ag (.aa e) then K m ((v.take hi).drop lo) σ
      else if mv then (if lo=0 then oU σ r p λσ=>K m ((v.take hi).drop lo) σ else none)
      else ny σ r p λσ=>K (ag (.aa e)) ((v.take hi).drop lo) σ
     | _,_=>none
    else none
  else none
 | .ptr r [] snap=>
  if σ.ok r snap then
   match σ.get r with
   | .box t' m H v=>if H.isEmpty&&!rX σ.aA r then cS (.ptr t') t v λv=>K (.ptr true m) v (σ.put r .dead) else none
   | _=>none
  else none
 | _=>none
def jy (σ:St) (s:Slot) (t:Ty) (K:t.den->Option R):Option R:=
 match s with
 | .val t' v=>cS t' t v K
 | .cp t' v=>cS (.ptr t') t v K
 | .mn=>match t with
  | .aa _=>K []
  | _=>none
 | .ref r p snap=>
  if σ.ok r snap then gg σ r p λt' _ H v=>if H.isEmpty then cS t' t v K else none
  else none
 | .sub r p snap lo hi=>
  if σ.ok r snap then
   gg σ r p λt' _ H v=>if H.isEmpty then cS t' t v λv=>match t,v with
    | .aa _,v=>K ((v.take hi).drop lo)
    | _,_=>none
   else none
  else none
 | .ptr r p snap=>
  if σ.ok r snap then gg σ r p λt' _ H v=>if H.isEmpty then cS (.ptr t') t v K else none
  else none
 | _=>none
def lQ (s:Slot) (K:Int->Option R):Option R:=
 match s with
 | .val (.int k) n=>K (fZ k n)
 | _=>none
def wI (s:Slot) (K:Bool->Option R):Option R:=
 match s with
 | .val .bool b=>K b
 | _=>none
def laid (t:Ty) (m:Md) (v:t.den):Slot:=
 if m=ag t then .val t v else
 match t,m,v with
 | .ptr e,.ptr true m',v=>.box e m' [] v
 | t,m,v=>.own t m [] v
end
end OT
namespace OT
open Go
noncomputable section
inductive PM where
 | ro
 | du (m m':Md)
 | fx (m:Md)
 | iU (m:Md)
 | fh (m:Md)
 | fix (f:Nat)
 deriving DecidableEq
def ba:List Ty->Ty
 | []=>.unit
 | t::ts=>.pair t (ba ts)
def dT:List (PM×Ty)->List Ty
 | []=>[]
 | (.du _ _,t)::ps=>t::dT ps
 | (.fx _,t)::ps=>t::dT ps
 | _::ps=>dT ps
structure kF where
 cap:Bool:=false
 ps:List (PM×Ty)
 rs:List (Ty×Md)
 F:(ba (ps.map (·.2))).den->Option (ba (rs.map (·.1)++dT ps)).den
 vj:(ba (ps.map (·.2))).den->List Path->Bool:=λ_ H=>H.isEmpty
structure Env where
 TI:Nat->Option Ty
 G:Nat->Option kF
 fz:List (Nat×Nat×Nat):=[]
 lv:List (Nat×List Nat):=[]
 lx:List (Nat×List Nat):=[]
 lf:List (Nat×List (Nat×Md)):=[]
 od:List (Nat×List Nat):=[]
 ar:List (Nat×List Nat):=[]
 bx:List (Nat×List Nat):=[]
 pd:List (Nat×List Nat):=[]
 er:List (Nat×List (Nat×Nat)):=[]
def D1:List (Nat×Nat×Nat)->Nat->Nat->Nat->Bool
 | [],_,_,_=>false
 | (a,b,c)::l,i,j,k=>(Nat.beq a i&&Nat.beq b j&&Nat.beq c k)||D1 l i j k
def bX:Nat:=274877906944
section
variable {R:Type}
def gA (E:Env) (t:Nat) (K:Ty->Option R):Option R:=
 match E.TI t with
 | some t=>K t
 | none=>none
def fy:Nat->Path
 | 0=>[.fst]
 | n+1=>.snd::fy n
def kA:Nat->Ty->Option Ty
 | 0,.pair a _=>some a
 | n+1,.pair _ b=>kA n b
 | _,_=>none
def D2:Nat->(t:Ty)->t.den->((t':Ty)->t'.den->Option R)->Option R
 | 0,.pair a _,v,K=>K a v.1
 | n+1,.pair _ b,v,K=>D2 n b v.2 K
 | _,_,_,_=>none
def As (σ:St) (r:Nat):Option Ty:=
 match σ.get r with
 | .own t _ _ _ | .box t _ _ _=>some t
 | _=>none
def vS (σ:St) (r:Nat) (p:Path):Option Ty:=
 match As σ r with
 | some t=>qT p t
 | none=>none
def rY (E:Env) (σ:St) (T:Nat) (a:Slot) (mv:Bool) (d:Option Tmp) (K:St->Option R):Option R:=
 gA E T λT=>
 match a with
 | .cp t v=>if t=T then K (σ.aI d (.val t v)) else none
 | .ptr r p snap=>
  if σ.ok r snap then
   gg σ r p λt m H v=>
    if t=T then
     if t.flat then (if H.isEmpty then K (σ.aI d (.val t v)) else none)
     else if m=ag t then (if H.isEmpty then (match mv with
      | true=>K (σ.aI d (.ref r p (ld σ r p t)))
      | false=>K (σ.aI d (.val t v))) else none)
     else match mv with
      | false=>K (σ.aI d (.ref r p (ld σ r p t)))
      | true=>if H.isEmpty then oU σ r p λσ=>K (σ.aI d (laid t m v)) else none
    else none
  else none
 | _=>none
def wJ (E:Env) (σ:St) (T:Nat) (a:Operand) (mv fr:Bool) (d:Option Tmp) (K:St->Option R):Option R:=
 match fr with
 | false=>rY E σ T (bh σ a) mv d K
 | true=>match bh σ a with
  | .ptr r p snap=>if σ.ok r snap then ny σ r p λσ=>rY E σ T (bh σ a) mv d K else none
  | _=>none
def Au (E:Env) (σ:St) (T:Nat) (a x:Slot) (mv:Bool) (K:St->Option R):Option R:=
 gA E T λT=>
 match a with
 | .ptr r p snap=>
  if σ.ok r snap then
   if vS σ r p=some T then ep σ x mv T λm v σ=>lA σ r p T m v K else none
  else none
 | _=>none
def rZ (E:Env) (σ:St) (S:Nat) (x:Slot) (j:Nat) (d:Option Tmp) (K:St->Option R):Option R:=
 gA E S λS=>
 match x with
 | .cp t v=>if t=S then D2 j t v λt' v'=>K (σ.aI d (.cp t' v')) else none
 | .ptr r p snap=>if σ.ok r snap then (if vS σ r p=some S then (if (kA j S).isSome then K (σ.aI d (.ptr r (p++fy j) snap)) else none) else none) else none
 | _=>none
def ye (E:Env) (σ:St) (S:Nat) (x:Slot) (j:Nat) (d:Option Tmp) (K:St->Option R):Option R:=
 gA E S λS=>
 match x with
 | .val t v=>if t=S then D2 j t v λt' v'=>K (σ.aI d (.val t' v')) else none
 | .ref r p snap=>
  if σ.ok r snap then
   if vS σ r p=some S then
    gg σ r (p++fy j) λt m H v=>
     if t.flat||(m=ag t) then (if H.isEmpty then K (σ.aI d (.val t v)) else none)
     else K (σ.aI d (.ref r (p++fy j) (ld σ r (p++fy j) t)))
   else none
  else none
 | _=>none
def FI (n:Int) (len:Nat) (K:Nat->Option R):Option R:=
 if 0<=n/\n < (len:Int) then K n.toNat else none
def r_ (E:Env) (σ:St) (T:Nat) (x ix:Slot) (d:Option Tmp) (K:St->Option R):Option R:=
 gA E T λT=>lQ ix λn=>
 match x with
 | .val (.aa e) v=>if T=.aa e then (if 0<=n then (v[n.toNat]?).bind λy=>K (σ.aI d (.cp e y)) else none) else none
 | .cp (.arr m e) v=>if T=.arr m e then (if 0<=n then (v[n.toNat]?).bind λy=>K (σ.aI d (.cp e y)) else none) else none
 | .ref r p snap=>
  if σ.ok r snap then
   gg σ r p λt m H v=>
    if H.any (·.isEmpty) then none else
    if t=T then
     match t,v with
     | .aa e,v=>
      if m.own then FI n v.length λi=>K (σ.aI d (.ptr r (p++[.idx i]) (lX σ r (p++[.idx i]))))
      else if 0<=n then (v[n.toNat]?).bind λy=>K (σ.aI d (.cp e y)) else none
     | _,_=>none
    else none
  else none
 | .sub r p snap lo hi=>
  if σ.ok r snap then
   gg σ r p λt _ H _=>if H.any (·.isEmpty) then none else if t=T then FI n (hi - lo) λi=>K (σ.aI d (.ptr r (p++[.idx (lo+i)]) (lX σ r (p++[.idx (lo+i)])))) else none
  else none
 | .ptr r p snap=>
  if σ.ok r snap then
   gg σ r p λt _ _ v=>
    if t=T then
     match t,v with
     | .arr _ _,v=>FI n v.length λi=>K (σ.aI d (.ptr r (p++[.hJ i]) snap))
     | _,_=>none
    else none
  else none
 | _=>none
def Av (E:Env) (σ:St) (T:Nat) (x ix:Slot) (d:Option Tmp) (K:St->Option R):Option R:=
 gA E T λT=>lQ ix λn=>
 match x with
 | .val .str s=>if T=.str then (if 0<=n then (s[n.toNat]?).bind λc=>K (σ.aI d (.val (.int .u8) c)) else none) else none
 | .val (.arr m e) v=>if T=.arr m e then (if 0<=n then (v[n.toNat]?).bind λy=>K (σ.aI d (.val e y)) else none) else none
 | _=>none
def kw (len:Nat) (lo hi:Option Slot) (K:Nat->Nat->Option R):Option R:=
 match lo,hi with
 | none,none=>K 0 len
 | some l,none=>lQ l λl=>if 0<=l/\l<=(len:Int) then K l.toNat len else none
 | none,some h=>lQ h λh=>if 0<=h/\h<=(len:Int) then K 0 h.toNat else none
 | some l,some h=>lQ l λl=>lQ h λh=>if 0<=l/\l<=h/\h<=(len:Int) then K l.toNat h.toNat else none
def Aw (E:Env) (σ:St) (T:Nat) (x:Slot) (lo hi:Option Slot) (d:Option Tmp) (K:St->Option R):Option R:=
 gA E T λT=>
 match x with
 | .val .str s=>if T=.str then kw s.length lo hi λl h=>K (σ.aI d (.val .str ((s.take h).drop l))) else none
 | .val (.aa e) v=>if T=.aa e then kw v.length lo hi λl h=>K (σ.aI d (.val (.aa e) ((v.take h).drop l))) else none
 | .ref r p snap=>
  if σ.ok r snap then
   gg σ r p λt m H v=>
    if H.any (·.isEmpty) then none else
    if t=T then
     match t,v with
     | .aa e,v=>
      if m.own then kw v.length lo hi λl h=>K (σ.aI d (.sub r p snap l h))
      else kw v.length lo hi λl h=>K (σ.aI d (.val (.aa e) ((v.take h).drop l)))
     | _,_=>none
    else none
  else none
 | .sub r p snap l0 h0=>
  if σ.ok r snap then
   gg σ r p λt _ H _=>if H.any (·.isEmpty) then none else if t=T then kw (h0 - l0) lo hi λl h=>K (σ.aI d (.sub r p snap (l0+l) (l0+h))) else none
  else none
 | _=>none
def HY (E:Env) (σ:St) (t:Nat) (x:Slot) (K:Nat->Option R):Option R:=
 gA E t λT=>
 match T with
 | .str=>match x with
  | .val .str s=>K s.length
  | _=>none
 | .aa _=>match x with
  | .val (.aa _) v=>K v.length
  | .mn=>K 0
  | .ref r p snap=>
   if σ.ok r snap then
    gg σ r p λt _ H v=>if H.any (·.isEmpty) then none else match t,v with
     | .aa _,v=>K v.length
     | _,_=>none
   else none
  | .sub r _ snap lo hi=>if σ.ok r snap then K (hi - lo) else none
  | _=>none
 | _=>none
def qu (σ:St) (x:Slot) (e:Ty) (mv:Bool) (K:Md->List e.den->St->Option R):Option R:=
 match x with
 | .val .str s=>cS (.aa (.int .u8)) (.aa e) s λs=>K .leaf s σ
 | x=>ep σ x mv (.aa e) λm v σ=>K m.e v σ
def yf (E:Env) (σ:St) (T:Nat) (b:Slot) (x:Operand) (mv tf:Bool) (d:Option Tmp) (K:St->Option R):Option R:=
 gA E T λT=>
 match T with
 | .aa e=>
  match tf&&(e.flat&&e.gz) with
  | true=>qu σ (bh σ x) e false λ_ y _=>ep σ b true (.aa e) λm v σ=>
   if m.own then
    if v.length+y.length<=bX then K (σ.aI d (.own (.aa e) (.aa true (ag e)) [] (v++y))) else none
   else none
  | false=>
  ep σ b true (.aa e) λm v σ=>
   if m.own then
    qu σ (bh σ x) e mv λme y σ=>
     if v.length+y.length<=bX then
      K (σ.aI d (.own (.aa e) (.aa true (if me=m.e then me else ag e)) [] (v++y)))
     else none
   else none
 | _=>none
def lB {α:Type} (v:List α) (lo n:Nat) (y:List α):List α:=v.take lo++y.take n++v.drop (lo+n)
def D3 (E:Env) (σ:St) (T:Nat) (b:Operand) (x:Slot) (d:Option Tmp) (K:St->Option R):Option R:=
 gA E T λT=>
 match T with
 | .aa e=>
  if e.flat then
   qu σ x e true λ_ y σ=>
    match bh σ b with
    | .sub r p snap lo hi=>
     if σ.ok r snap then
      gg σ r p λt m H v=>
       if m.own&&H.isEmpty then cS t (.aa e) v λv=>
        lA σ r p (.aa e) m (lB v lo (min y.length (hi - lo)) y) λσ'=>
         K (({ σ' with vr:=(σ.eI r mp).vr,aA:=σ.aA }).aI d (.val (.int .i64) ((min y.length (hi - lo):Nat):Int)))
       else none
     else none
    | .ref r p snap=>
     if σ.ok r snap then
      gg σ r p λt m H v=>
       if m.own&&H.isEmpty then cS t (.aa e) v λv=>
        lA σ r p (.aa e) m (lB v 0 (min y.length v.length) y) λσ'=>
         K (({ σ' with vr:=(σ.eI r mp).vr,aA:=σ.aA }).aI d (.val (.int .i64) ((min y.length v.length:Nat):Int)))
       else none
     else none
    | _=>none
  else none
 | _=>none
def tu:Nat->(t:Ty)->Md->t.den->(t':Ty)->Md->t'.den->(Md->t.den->Option R)->Option R
 | 0,.pair a _,m,v,t',m',x,K=>cS t' a x λx=>K (.pair m' m.r) (x,v.2)
 | n+1,.pair _ b,m,v,t',m',x,K=>tu n b m.r v.2 t' m' x λQt y=>K (.pair m.l Qt) (v.1,y)
 | _,_,_,_,_,_,_,_=>none
def tw (E:Env) (σ:St) (t:Ty) (fz:Nat->Bool):List (Nat×Operand)->Nat->Md->t.den->(Md->t.den->St->Option R)->Option R
 | [],_,m,v,K=>K m v σ
 | (j,x)::ps,n,m,v,K=>
  match kA j t with
  | some t'=>ep σ (bh σ x) (!fz n) t' λm' y σ'=>tu j t m v t' m' y λm v=>tw E σ' t fz ps (n+1) m v K
  | none=>none
def tz (σ:St) (e:Ty) (fz:Nat->Bool):List (Nat×Operand)->Nat->Md->List e.den->(Md->List e.den->St->Option R)->Option R
 | [],_,m,v,K=>K m v σ
 | (j,x)::ps,n,m,v,K=>
  if Nat.beq j n then
   ep σ (bh σ x) (!fz n) e λm' y σ'=>tz σ' e fz ps (n+1) (if m'=m then m else ag e) (v++[y]) K
  else none
def Ax (σ:St) (e:Ty) (fz:Nat->Bool):List (Nat×Operand)->Nat->List e.den->(List e.den->St->Option R)->Option R
 | [],_,v,K=>K v σ
 | (j,x)::ps,n,v,K=>
  ep σ (bh σ x) (!fz n) e λ_ y σ'=>if j < v.length then Ax σ' e fz ps (n+1) (v.set j y) K else none
def Ay (op:BinOp) (k:IntKind) (a b:Int) (K:(t:Ty)->t.den->Option R):Option R:=
 match op with
 | .add=>K (.int k) (ta k (a+b))
 | .sub=>K (.int k) (ta k (a - b))
 | .mul=>K (.int k) (ta k (a*b))
 | .quo=>if b=0 then none else K (.int k) (ta k (a.tdiv b))
 | .rem=>if b=0 then none else K (.int k) (Jl k (a.tmod b))
 | .and=>K (.int k) (ta k ((BitVec.ofInt k.bits a &&& BitVec.ofInt k.bits b).toNat:Int))
 | .or=>K (.int k) (ta k ((BitVec.ofInt k.bits a ||| BitVec.ofInt k.bits b).toNat:Int))
 | .xor=>K (.int k) (ta k ((BitVec.ofInt k.bits a ^^^ BitVec.ofInt k.bits b).toNat:Int))
 | .shl=>if b < 0 then none else K (.int k) (ta k (a*2 ^ (min b.toNat k.bits)))
 | .shr=>if b < 0 then none else K (.int k) (Jl k (a.fdiv (2 ^ (min b.toNat k.bits))))
 | .eql=>K .bool (decide (a=b))
 | .neq=>K .bool (!decide (a=b))
 | .lss=>K .bool (decide (a < b))
 | .leq=>K .bool (decide (a<=b))
 | .gtr=>K .bool (decide (b < a))
 | .geq=>K .bool (decide (b<=a))
 | _=>none
def HZ (op:BinOp) (a b:List UInt8) (K:(t:Ty)->t.den->Option R):Option R:=
 match op with
 | .add=>if a.length+b.length<=bX then K .str (a++b) else none
 | .eql=>K .bool (decide (a=b))
 | .neq=>K .bool (!decide (a=b))
 | _=>none
def both (a b:Option R):Option R:=open Classical in if a=b then a else none
def qU {α:Type} (v:List α) (a b:Option R):Option R:=match v with
 | []=>both a b
 | _::_=>b
def Lo {α:Type} (op:BinOp) (v:List α) (K:(t:Ty)->t.den->Option R):Option R:=match op with
 | .eql=>qU v (K .bool true) (K .bool false)
 | .neq=>qU v (K .bool false) (K .bool true)
 | _=>none
def Az (E:Env) (tid:Nat) (op:BinOp) (x y:Slot) (K:(t:Ty)->t.den->Option R):Option R:=
 match x,y with
 | .val (.int k) a,.val (.int k') b=>
  match op with
  | .shl | .shr=>Ay op k (fZ k a) (fZ k' b) K
  | _=>if k=k' then Ay op k (fZ k a) (fZ k' b) K else none
 | .val .str a,.val .str b=>HZ op a b K
 | .val t a,.val t' b=>
  match op with
  | .eql=>if t.fv then gA E tid λT=>if T=t then cS t' t b λb=>K .bool (t.eq a b) else none else none
  | .neq=>if t.fv then gA E tid λT=>if T=t then cS t' t b λb=>K .bool (!t.eq a b) else none else none
  | _=>none
 | .val (.aa e) v,.mn=>gA E tid λT=>if T=.aa e then Lo op v K else none
 | _,_=>none
def sa (E:Env) (σ:St) (S T:Nat) (x:Slot) (d:Option Tmp) (K:St->Option R):Option R:=
 gA E S λS=>gA E T λT=>
 match T with
 | .int k=>match x with
  | .val (.int k') n=>if S=.int k' then K (σ.aI d (.val (.int k) (ta k (fZ k' n)))) else none
  | _=>none
 | .str=>match S with
  | .str=>match x with
   | .val .str s=>K (σ.aI d (.val .str s))
   | _=>none
  | .aa (.int .u8)=>jy σ x (.aa (.int .u8)) λv=>K (σ.aI d (.val .str v))
  | _=>none
 | .aa (.int .u8)=>match x with
  | .val .str s=>if S=.str then (if s.length<=bX then K (σ.aI d (.own (.aa (.int .u8)) (av (.aa (.int .u8))) [] s)) else none) else none
  | _=>none
 | _=>none
def AA (σ:St) (s:Slot) (t:Ty) (K:t.den->Option R):Option R:=
 match s with
 | .val t' v=>cS t' t v K
 | .cp t' v=>cS (.ptr t') t v K
 | .mn=>match t with
  | .aa _=>K []
  | _=>none
 | .ref r p snap=>
  if σ.ok r snap then gg σ r p λt' m H v=>if H.isEmpty&&(t'.flat||decide (m=ag t')) then cS t' t v K else none
  else none
 | .sub r p snap lo hi=>
  if σ.ok r snap then
   gg σ r p λt' m H v=>if H.isEmpty&&decide (m=ag t') then cS t' t v λv=>match t,v with
    | .aa _,v=>K ((v.take hi).drop lo)
    | _,_=>none
   else none
  else none
 | _=>none
def pB (σ:St) (ow:Bool) (pm:PM) (t:Ty) (s:Slot) (K:t.den->Option (Nat×Path)->Option R):Option R:=
 match pm with
 | .ro=>match ow with
  | true=>jy σ s t λv=>K v none
  | false=>AA σ s t λv=>K v none
 | .fix f=>match s with
  | .val .fn v=>if Nat.beq v.1 f then cS .fn t v λv=>K v none else none
  | _=>none
 | .du m _=>match s with
  | .ptr r p snap=>
   if σ.ok r snap then gg σ r p λt' m' H v=>if H.isEmpty&&decide (m'=m) then cS t' t v λv=>K v (some (r,p)) else none
   else none
  | _=>none
 | .iU m=>match s with
  | .ptr r p snap=>
   if σ.ok r snap then gg σ r p λt' m' H v=>if H.isEmpty&&decide (m'=m) then cS t' t v λv=>K v (some (r,p)) else none
   else none
  | _=>none
 | .fx m=>match s with
  | .ref r p snap=>
   if σ.ok r snap then gg σ r p λt' m' H v=>if H.isEmpty&&decide (m'=m) then cS t' t v λv=>K v (some (r,p)) else none
   else none
  | _=>none
 | .fh m=>match s with
  | .ref r p snap=>
   if σ.ok r snap then gg σ r p λt' m' _ v=>if m'=m then cS t' t v λv=>K v (some (r,p)) else none
   else none
  | _=>none
def eQ:Slot->List Nat
 | .ref r _ _ | .sub r _ _ _ _ | .ptr r _ _=>[r]
 | _=>[]
def Ab (σ:St) (ow:Bool):(ps:List (PM×Ty))->List Slot->((ba (ps.map (·.2))).den->List (Nat×Path)->Option R)->Option R
 | [],[],K=>K () []
 | (pm,t)::ps,s::ss,K=>pB σ ow pm t s λv w=>Ab σ ow ps ss λvs ws=>K (v,vs) (match w with | some x=>x::ws | none=>ws)
 | _,_,_=>none
def iV (σ:St):List (PM×Ty)->List Operand->(St->Option R)->Option R
 | (.du m _,_)::ps,x::xs,K=>match bh σ x with
  | .ptr r p snap=>if σ.ok r snap then gg σ r p λ_ m' _ _=>if m'=m then iV σ ps xs K else lW σ r p m λσ=>iV σ ps xs K else none
  | _=>none
 | (.iU m,_)::ps,x::xs,K=>match bh σ x with
  | .ptr r p snap=>if σ.ok r snap then gg σ r p λ_ m' _ _=>if m'=m then iV σ ps xs K else lW σ r p m λσ=>iV σ ps xs K else none
  | _=>none
 | (.fx m,_)::ps,x::xs,K=>match bh σ x with
  | .ref r p snap=>if σ.ok r snap then gg σ r p λ_ m' _ _=>if m'=m then iV σ ps xs K else lW σ r p m λσ=>iV σ ps xs K else none
  | _=>none
 | (.fh m,_)::ps,x::xs,K=>match bh σ x with
  | .ref r p snap=>if σ.ok r snap then gg σ r p λ_ m' _ _=>if m'=m then iV σ ps xs K else lW σ r p m λσ=>iV σ ps xs K else none
  | _=>none
 | _::ps,_::xs,K=>iV σ ps xs K
 | _,_,K=>K σ
def Lp (x:Operand) (r:Nat) (t:Ty) (v:t.den) (σ:St):St:=match x with
 | .tmp i=>match Nat.beq i r||!Nat.blt i σ.n with
  | true=>σ
  | false=>(σ.put i .dead).put i (.cp t v)
 | _=>σ
def pC (σ:St):List (PM×Ty)->List Operand->(St->Option R)->Option R
 | (.ro,t)::ps,x::xs,K=>
  if t.flat then pC σ ps xs K else
  match bh σ x with
  | .ref r p snap=>if σ.ok r snap then ny σ r p λσ=>pC σ ps xs K else none
  | .sub r p snap _ _=>if σ.ok r snap then ny σ r p λσ=>pC σ ps xs K else none
  | .ptr r p snap=>if σ.ok r snap then
    match p,σ.get r with
    | [],.box t m H v=>if H.isEmpty&&fits m (ag t) then pC (Lp x r t v ((σ.put r .dead).put r (.cp t v))) ps xs K else none
    | _,_=>none
   else none
  | _=>pC σ ps xs K
 | _::ps,_::xs,K=>pC σ ps xs K
 | _,_,K=>K σ
def apart:List Nat->List (Nat×Path)->Bool
 | _,[]=>true
 | all,(r,_)::ws=>Nat.ble (all.count r) 1&&apart all ws
def iW (σ:St):(ps:List (PM×Ty))->List (Nat×Path)->(ba (dT ps)).den->(St->Option R)->Option R
 | [],[],_,K=>K σ
 | (.ro,_)::ps,ws,v,K=>iW σ ps ws v K
 | (.fix _,_)::ps,ws,v,K=>iW σ ps ws v K
 | (.du _ m,t)::ps,(r,p)::ws,v,K=>lA σ r p t m v.1 λσ=>iW σ ps ws v.2 K
 | (.iU m,t)::ps,(r,p)::ws,v,K=>match lA σ r p t m t.zero (λ_=>some ()) with
  | some _=>iW (σ.put r .dead) ps ws v K
  | none=>none
 | (.fh _,_)::ps,(r,p)::ws,v,K=>oU σ r p λσ=>iW σ ps ws v K
 | (.fx m,t)::ps,(r,p)::ws,v,K=>lA σ r p t m v.1 λσ'=>iW { σ' with vr:=(σ.eI r (kb (bm p+1))).vr,aA:=σ.aA } ps ws v.2 K
 | _,_,_,_=>none
def dU:(rs:List (Ty×Md))->{ts:List Ty}->(ba (rs.map (·.1)++ts)).den->List wG×(ba ts).den
 | [],_,v=>([],v)
 | (t,m)::rs,_,v=>(⟨t,m,v.1⟩::(dU rs v.2).1,(dU rs v.2).2)
def lg:List wG->Slot
 | []=>.dead
 | [x]=>laid x.t x.m x.v
 | xs=>.iI xs
def mr:List (Ty×Md)->Bool
 | []=>true
 | (t,m)::rs=>(t.flat||decide (m=av t))&&t.gz&&mr rs
def eM:List (PM×Ty)->Bool
 | []=>true
 | (.du m m',t)::ps=>(t.flat||decide (m=av t))&&t.gz&&((t.flat||decide (m'=av t))&&eM ps)
 | (.fx m,t)::ps=>(t.flat||decide (m=av t))&&t.gz&&eM ps
 | (.iU m,t)::ps=>(t.flat||decide (m=av t))&&t.gz&&eM ps
 | (.fh m,t)::ps=>(t.flat||decide (m=av t))&&t.gz&&eM ps
 | _::ps=>eM ps
def tc:Ty->Bool
 | .int .u8 | .map _ _ | .fn=>false
 | .pair a b=>tc a&&tc b
 | .arr _ e | .aa e | .ptr e=>tc e
 | _=>true
def vk:Ty->Bool
 | .pair a b=>vk a&&vk b
 | .aa (.int .u8)=>true
 | t=>t.flat&&t.gz
def ju:List (PM×Ty)->Bool
 | []=>true
 | (.ro,t)::ps=>(t.flat&&t.gz||tc t)&&ju ps
 | (.fix _,_)::ps=>ju ps
 | (.du _ _,t)::ps=>vk t&&ju ps
 | _=>false
def wK:List (PM×Ty)->Bool
 | []=>true
 | (.iU _,_)::_ | (.fh _,_)::_=>false
 | _::ps=>wK ps
def D4:List (PM×Ty)->Bool
 | []=>false
 | (.fh _,_)::_=>true
 | _::ps=>D4 ps
def H6 (σ:St) (hv:Bool) (ho:List Path->Bool) (ws:List (Nat×Path)) (K:Option R):Option R:=
 match hv,ws with
 | true,(r,p)::_=>gg σ r p λ_ _ H _=>match ho H with
  | true=>K
  | false=>none
 | _,_=>K
def wL (g:kF) (ow:Bool) (σ:St) (xs:List Operand) (ex:List Slot) (d:Option Tmp) (K:St->Option R):Option R:=
 iV σ g.ps xs λσ=>
  Ab σ ow g.ps (xs.map (bh σ)++ex) λv ws=>
   if Nat.ble ws.length 1&&apart ((xs.map (bh σ)++ex).flatMap eQ) ws then
    H6 σ (D4 g.ps) (g.vj v) ws ((g.F v).bind λout=>
     iW σ g.ps ws (dU g.rs out).2 λσ=>K (σ.aI d (lg (dU g.rs out).1)))
   else none
def sb (g:kF) (σ:St) (xs:List Operand) (ex:List Slot) (d:Option Tmp) (K:St->Option R):Option R:=
 match mr g.rs&&(eM g.ps||ju g.ps) with
 | true=>wL g true σ xs ex d K
 | false=>pC σ g.ps xs λσ=>wL g false σ xs ex d K
def yg (E:Env) (σ:St) (T:Nat) (x:Operand) (mv:Bool) (d:Option Tmp) (K:St->Option R):Option R:=
 match bh σ x with
 | .dead=>K (σ.aI d .dead)
 | .mn=>gA E T λT=>match T with
  | .aa e=>K (σ.aI d (.own (.aa e) (av (.aa e)) [] []))
  | _=>none
 | .iI []=>K (σ.aI d (.iI []))
 | .iI _=>none
 | .ref r p snap=>
  if σ.ok r snap then
   match vS σ r p with
   | some t=>ep σ (.ref r p snap) mv t λm v σ=>K (σ.aI d (laid t m v))
   | none=>none
  else none
 | .sub r p snap lo hi=>
  if σ.ok r snap then
   match vS σ r p with
   | some t=>ep σ (.sub r p snap lo hi) mv t λm v σ=>K (σ.aI d (laid t m v))
   | none=>none
  else none
 | .ptr r p snap=>
  match p,σ.get r with
  | [],.box t m H v=>if σ.ok r snap&&mv&&!rX σ.aA r then (match d with | some i=>K ((σ.put r .dead).put i (.box t m H v)) | none=>none) else K (σ.aI d (.ptr r [] snap))
  | p,_=>K (σ.aI d (.ptr r p snap))
 | s=>K (σ.aI d s)
def D5 (σ:St) (x:Operand) (d:Option Tmp) (K:St->Option R):Option R:=
 match bh σ x,x with
 | .iI xs,.tmp i=>K ((σ.put i .dead).aI d (.iI xs))
 | .iI _,_=>none
 | s,_=>K (σ.aI d s)
def AB (σ:St) (x:Operand) (d:Option Tmp) (σ':St):St:=
 match x,d with
 | .tmp i,some d=>match σ.get i with
  | .own _ _ _ _=>match wH σ.aA i with
   | some n=>{ σ' with aA:=(d,n,true)::σ'.aA }
   | none=>σ'
  | _=>σ'
 | _,_=>σ'
def AC:Slot->Option (Nat×Int)
 | .val .fn f=>some f
 | _=>none
def gi {α:Type} (k:Ty) (m:List (k.den×α)) (x:k.den):Option α:=(m.find? λe=>k.eq x e.1).map (·.2)
def gj {α:Type} (k:Ty) (m:List (k.den×α)) (x:k.den) (y:α):List (k.den×α):=match m.findIdx? (λe=>k.eq x e.1) with
 | some i=>m.set i (x,y)
 | none=>m++[(x,y)]
def AD {α:Type} (o:Option α) (z:α):α:=match o with
 | some x=>x
 | none=>z
def yh (E:Env) (σ:St) (T:Nat) (x ix:Slot) (ok:Bool) (d:Option Tmp) (K:St->Option R):Option R:=
 gA E T λT=>
 match T with
 | .map k v=>
  if v.lw then
   match x with
   | .ref r p snap=>
    if σ.ok r snap then
     gg σ r p λt _ H y=>
      if H.isEmpty then cS t (.map k v) y λy=>
       match ix with
       | .val t2 i=>cS t2 k i λi=>
        match ok with
        | true=>K (σ.aI d (.iI [⟨v,ag v,AD (gi k y i) v.zero⟩,⟨.bool,.leaf,(gi k y i).isSome⟩]))
        | false=>K (σ.aI d (.val v (AD (gi k y i) v.zero)))
       | _=>none
      else none
    else none
   | _=>none
  else none
 | _=>none
def yi (E:Env) (σ:St) (T:Nat) (x ix y:Slot) (K:St->Option R):Option R:=
 gA E T λT=>
 match T with
 | .map k v=>
  match x with
  | .ref r p snap=>
   if σ.ok r snap then
    gg σ r p λt m H z=>
     if m.own&&H.isEmpty then cS t (.map k v) z λz=>
      match ix,y with
      | .val t2 i,.val t3 w=>cS t2 k i λi=>cS t3 v w λw=>
       lA σ r p (.map k v) m (gj k z i w) λσ'=>K { σ' with vr:=(σ.eI r mp).vr,aA:=σ.aA }
      | _,_=>none
     else none
   else none
  | _=>none
 | _=>none
def FJ:Option Ty->Bool
 | some (.map _ _)=>true
 | _=>false
def yj (E:Env) (σ:St) (T:Nat) (x:Slot) (K:Nat->Option R):Option R:=
 gA E T λT=>
 match T with
 | .map k v=>
  match x with
  | .ref r p snap=>
   if σ.ok r snap then
    gg σ r p λt _ H y=>if H.isEmpty then cS t (.map k v) y λy=>K (List.length y) else none
   else none
  | _=>none
 | _=>none
def iE (E:Env) (bV i:Nat) (o:Oper) (σ:St) (K:St->Option R):Option R:=
 let fz:=D1 E.fz bV i
 let d:=o.dst
 match o.op with
 | .move x=>D5 σ x d K
 | .assign x=>yg E σ o.type x (!fz 0) d K
 | .pick c a b=>wI (bh σ c) λc=>match bh σ (bif c then a else b) with
  | .val .bool x=>K (σ.aI d (.val .bool x))
  | _=>none
 | .alloc t=>gA E t λt=>if t.lw then K (σ.aI d (.box t (av t) [] t.zero)) else none
 | .box t x=>gA E t λt=>ep σ (bh σ x) (!fz 0) t λm v σ'=>K (AB σ x d (σ'.aI d (.box t m [] v)))
 | .build t ps=>gA E t λt=>match t with
  | .arr n e=>if e.lw then Ax σ e fz ps.toList 0 (Ty.arr n e).zero λv σ=>K (σ.aI d (laid (.arr n e) (av (.arr n e)) v)) else none
  | .pair t1 t2=>if (Ty.pair t1 t2).lw then tw E σ (.pair t1 t2) fz ps.toList 0 (av (.pair t1 t2)) (Ty.pair t1 t2).zero λm v σ=>K (σ.aI d (laid (.pair t1 t2) m v)) else none
  | _=>none
 | .buildSlice t n ps=>gA E t λt=>match t with
  | .aa e=>if Nat.beq n ps.size&&e.lw&&Nat.ble (n*e.sz) 16777216 then tz σ e fz ps.toList 0 (av e) [] λm v σ=>K (σ.aI d (.own (.aa e) (.aa true m) [] v)) else none
  | _=>none
 | .load t a=>wJ E σ t a (fz 7) (fz 8) d K
 | .store t a x=>match d with
  | none=>Au E σ t (bh σ a) (bh σ x) (!fz 1) K
  | some _=>none
 | .nilCheck x=>match bh σ x with
  | .ptr r p snap=>if σ.ok r snap then K (σ.aI d (.ptr r p snap)) else none
  | .cp t v=>K (σ.aI d (.cp t v))
  | .val .fn f=>K (σ.aI d (.val .fn f))
  | _=>none
 | .binOp op t x y _=>Az E t op (bh σ x) (bh σ y) λt v=>K (σ.aI d (.val t v))
 | .unOp op _ x=>match op,bh σ x with
  | .not,.val .bool b=>K (σ.aI d (.val .bool (!b)))
  | .neg,.val (.int k) n=>K (σ.aI d (.val (.int k) (ta k (0 - fZ k n))))
  | _,_=>none
 | .convert s t x=>sa E σ s t (bh σ x) d K
 | .fieldAddr t x j=>rZ E σ t (bh σ x) j d K
 | .field t x j=>ye E σ t (bh σ x) j d K
 | .indexAddr t x ix=>r_ E σ t (bh σ x) (bh σ ix) d K
 | .index t x ix=>Av E σ t (bh σ x) (bh σ ix) d K
 | .slice t x lo hi none=>Aw E σ t (bh σ x) (lo.map (bh σ)) (hi.map (bh σ)) d K
 | .makeSlice t n c=>gA E t λt=>match t with
  | .aa e=>lQ (bh σ n) λn=>lQ (bh σ c) λc=>
   if e.lw then (if 0<=n/\n<=c/\c<=(bX:Int) then K (σ.aI d (.own (.aa e) (av (.aa e)) [] (List.replicate n.toNat e.zero))) else none) else none
  | _=>none
 | .extract x j=>match x with
  | .tmp i=>match σ.get i with
   | .iI xs=>match xs[j]? with
    | some x=>if x.t=.unit then none else K ((σ.put i (.iI (xs.set j ⟨.unit,.leaf,()⟩))).aI d (laid x.t x.m x.v))
    | none=>none
   | _=>none
  | _=>none
 | .makeFunc (.func f) first cs=>
  if first.size=0 then
   match cs.toList with
   | []=>K (σ.aI d (.val .fn (f,0)))
   | [.tmp i]=>match σ.get i with
    | .box (.int .i64) _ _ n=>K (((σ.put i .dead).put i (.cp (.int .i64) n)).aI d (.val .fn (f,n)))
    | _=>none
   | _=>none
  else none
 | .makeMap t none=>gA E t λt=>match t with
  | .map k v=>if k.flat&&v.flat then K (σ.aI d (.own (.map k v) (av (.map k v)) [] [])) else none
  | _=>none
 | .lookup t x ix ok=>yh E σ t (bh σ x) (bh σ ix) ok d K
 | .mapUpdate t x ix y=>match d with
  | none=>yi E σ t (bh σ x) (bh σ ix) (bh σ y) K
  | some _=>none
 | .call c=>match c.callee with
  | .builtin .len=>match c.args.toList,c.argTypes.toList with
   | [x],[t]=>match FJ (E.TI t) with
    | false=>HY E σ t (bh σ x) λn=>K (σ.aI d (.val (.int .i64) (n:Int)))
    | true=>yj E σ t (bh σ x) λn=>K (σ.aI d (.val (.int .i64) (n:Int)))
   | _,_=>none
  | .builtin .append=>match c.args.toList,c.argTypes.toList with
   | [b,x],t::_=>yf E σ t (bh σ b) x (!fz 1) (fz 2) d K
   | _,_=>none
  | .builtin .copy=>match c.args.toList,c.argTypes.toList with
   | [b,x],t::_=>D3 E σ t b (bh σ x) d K
   | _,_=>none
  | .value (.func f)=>match E.G f with
   | some g=>match g.cap with
    | false=>sb g σ c.args.toList [] d K
    | true=>none
   | none=>none
  | .value (.tmp i)=>match AC (σ.get i) with
   | some (f,n)=>match E.G f with
    | some g=>match g.cap with
     | true=>sb g σ c.args.toList [.cp (.int .i64) n] d K
     | false=>sb g σ c.args.toList [] d K
    | none=>none
   | none=>none
  | _=>none
 | _=>none
def fB (l:List (Nat×List Nat)) (i:Nat):List Nat:=match fd l i with | some x=>x | none=>[]
def tA (ops:List Oper) (σ:St) (g:Option (Nat×Bool)) (K:Bool->St->Option R):Option R:=
 match g with
 | none=>K true σ
 | some (j,want)=>match (ops[j]?).bind (·.dst) with
  | none=>none
  | some t=>match σ.get t with
   | .val .bool b=>match b with
    | true=>K (want == true) (σ.y8 t (.val .bool true))
    | false=>K (want == false) (σ.y8 t (.val .bool false))
   | .iI []=>K false σ
   | _=>none
def yk (E:Env) (bV:Nat) (ops:List Oper):List Oper->Nat->St->(St->Option R)->Option R
 | [],_,σ,K=>K σ
 | o::rest,i,σ,K=>tA ops σ o.guard λb σ=>
  match b with
  | true=>iE E bV i o σ λσ=>yk E bV ops rest (i+1) σ K
  | false=>yk E bV ops rest (i+1) (σ.aI o.dst (.iI [])) K
def AE (σ:St) (o:Oper):Bool:=match o.op with
 | .load _ x=>match bh σ x with
  | .cp _ _=>true
  | _=>false
 | .convert _ _ x=>match bh σ x with
  | .val (.int _) _=>true
  | .val .str _=>true
  | .val (.aa (.int .u8)) _=>true
  | _=>false
 | _=>false
def AF (E:Env) (bV i:Nat):Bool:=(fB E.ar bV).any (Nat.beq i)
def uQ:Op->Bool
 | .store .. | .mapUpdate .. | .call ..=>true
 | _=>false
def mt:Path->Path->Bool
 | [],[]=>true
 | .fst::p,.fst::q=>mt p q
 | .snd::p,.snd::q=>mt p q
 | .idx i::p,.idx j::q=>Nat.beq i j&&mt p q
 | .hJ i::p,.hJ j::q=>Nat.beq i j&&mt p q
 | _,_=>false
def Jm (σ:St) (r:Nat) (p:Path) (v:Int):Bool:=
 match gg σ r p λt _ _ x=>cS t (.int .i64) x λy=>some (decide ((y:Int)=v)) with
 | some b=>b
 | none=>false
def H7 (σ:St) (o:Oper):Bool:=match o.op,o.dst with
 | .load _ (.tmp i),some d=>match σ.get i with
  | .ptr r p s=>match σ.get d with
   | .ref r' p' s'=>Nat.beq r r'&&(σ.ok r s&&σ.ok r s')&&mt p p'
   | .val (.int .i64) v=>σ.ok r s&&Jm σ r p v
   | _=>false
  | .box ..=>match σ.get d with
   | .ref r' p' s'=>Nat.beq i r'&&σ.ok i s'&&mt [] p'
   | _=>false
  | _=>false
 | _,_=>false
def wM (l:List (Nat×List (Nat×Nat))) (i:Nat):List (Nat×Nat):=match fd l i with | some x=>x | none=>[]
def D6 (E:Env) (bV i:Nat):Bool:=(wM E.er bV).any λe=>Nat.beq i e.1
def D7 (E:Env) (bV:Nat) (ops:List Oper) (is:List Nat) (σ:St):Bool:=(wM E.er bV).all λe=>is.any (Nat.beq e.1)||!(is.any (Nat.beq e.2)||Nat.ble ops.length e.2)||(match ops[e.1]? with
 | some o=>H7 σ o
 | none=>false)
def wN (E:Env) (bV:Nat) (ops:List Oper) (i:Nat) (o:Oper) (is:List Nat) (σ:St):Bool:=!(uQ o.op||D6 E bV i)||D7 E bV ops is σ
def C8 (σ:St):List Nat->(St->Option R)->Option R
 | [],K=>K σ
 | i::is,K=>match σ.get i with
  | .box t m H v=>if H.isEmpty&&fits m (ag t) then C8 ((σ.put i .dead).put i (.cp t v)) is K else none
  | _=>none
def ym (σ:St) (d:Nat):Bool:=Nat.blt d σ.n&&(match σ.get d with
 | .dead=>true
 | _=>false)&&!rX σ.aA d&&!σ.gh.any λe=>Nat.beq e.1 d
def D8 (E:Env) (bV:Nat) (ops:List Oper) (is:List Nat) (σ:St):Bool:=(fB E.pd bV).all λj=>!is.any (Nat.beq j)||(match (ops[j]?).bind (·.dst) with
 | some d=>ym σ d
 | none=>false)
def FK (ops:List Oper) (σ:St):List Nat->(St->Option R)->Option R
 | [],K=>K σ
 | j::js,K=>match (ops[j]?).bind (·.dst) with
  | some d=>FK ops (σ.put d .dead) js K
  | none=>none
def tB (E:Env) (bV:Nat) (ops:List Oper):List Nat->St->(St->Option R)->Option R
 | [],σ,K=>K σ
 | i::is,σ,K=>
  match D8 E bV ops (i::is) σ with
  | false=>none
  | true=>
  match ops[i]? with
  | none=>none
  | some o=>tA ops σ o.guard λb σ=>
   match b with
   | true=>match AF E bV i&&!AE σ o with
    | true=>none
    | false=>iE E bV i o σ λσ=>match wN E bV ops i o is σ with
     | true=>tB E bV ops is σ K
     | false=>none
   | false=>tB E bV ops is (σ.aI o.dst (.iI [])) K
def jl:Code->Nat
 | .region id _ _=>id
 | .seq a _=>jl a
 | .block _ b=>jl b
 | .loop b=>jl b
 | .scope b=>jl b
 | _=>0
def tC (live:List Nat) (fr:List (Nat×Md)) (r:Nat):Bool:=live.any (Nat.beq r)&&(match fd fr r with
 | none=>true
 | some _=>false)
def dK (live:List Nat) (fr:List (Nat×Md)) (σ:St) (i:Nat):Slot:=
 match σ.get i with
 | .ptr r p snap=>if σ.ok r snap&&tC live fr r then .ptr r p (snap.map λ_=>0) else .dead
 | .ref r p snap=>if σ.ok r snap&&tC live fr r then .ref r p (snap.map λ_=>0) else .dead
 | .sub r p snap lo hi=>if σ.ok r snap&&tC live fr r then .sub r p (snap.map λ_=>0) lo hi else .dead
 | s=>s
def oL (live:List Nat) (σ:St):St:={ n:=σ.n,sl:=live.map λi=>(i,dK live [] σ i),vr:=[],aA:=σ.aA }
def qv (fr:List (Nat×Md)) (i:Nat) (s:Slot):Slot:=
 match fd fr i with
 | none=>s
 | some m1=>
  match s with
  | .own t m H v=>if H.isEmpty&&fits m m1 then (if m1=ag t then .val t v else .own t m1 [] v) else .dead
  | .box t m H v=>if H.isEmpty&&fits m m1 then .box t m1 [] v else .dead
  | s=>s
def dx (live:List Nat) (fr:List (Nat×Md)) (σ:St):St:={ n:=σ.n,sl:=live.map λi=>(i,qv fr i (dK live fr σ i)),vr:=[],aA:=σ.aA }
def D9 (l:List (Nat×List (Nat×Md))) (i:Nat):List (Nat×Md):=match fd l i with | some x=>x | none=>[]
inductive Ex where
 | normal
 | exit (id:Nat)
def fq (rec:St->Option R) (kp:St->St) (K:Ex->St->Option R):Ex->St->Option R
 | .normal,σ=>rec (kp σ)
 | .exit j,σ=>K (.exit j) σ
def aG (B:St->(Ex->St->Option R)->Option R) (K:Ex->St->Option R):Ex->St->Option R
 | .normal,σ=>B σ K
 | .exit j,σ=>K (.exit j) σ
def aj (id:Nat) (K:Ex->St->Option R):Ex->St->Option R
 | .normal,σ=>K .normal σ
 | .exit j,σ=>if Nat.beq j id then K .normal σ else K (.exit j) σ
def uR (F:St->(Ex->St->Option R)->Option R) (kp:St->St) (K:Ex->St->Option R):Nat->St->Option R
 | 0,_=>none
 | k+1,σ=>F σ (fq (uR F kp K k) kp K)
def kB (E:Env) (k:Nat) (fin:St->Option R):Code->St->(Ex->St->Option R)->Option R
 | .skip,σ,K=>K .normal σ
 | .region id ops d,σ,K=>match d with
  | false=>yk E id ops.toList ops.toList 0 σ λσ=>C8 σ (fB E.bx id) λσ=>K .normal σ
  | true=>C8 σ (fB E.bx id) λσ=>FK ops.toList σ (fB E.pd id) λσ=>tB E id ops.toList (fB E.od id) σ λσ=>K .normal σ
 | .seq a b,σ,K=>kB E k fin a σ (aG (kB E k fin b) K)
 | .cond c a b,σ,K=>wI (bh σ c) λc=>match c with
  | true=>kB E k fin a σ K
  | false=>kB E k fin b σ K
 | .block id b,σ,K=>kB E k fin b σ (aj id K)
 | .loop b,σ,K=>uR (kB E k fin b) (dx (fB E.lv (jl b)) (D9 E.lf (jl b))) K k (dx (fB E.lv (jl b)) (D9 E.lf (jl b)) σ)
 | .scope b,σ,K=>kB E k fin b σ K
 | .exit id,σ,K=>K (.exit id) (oL (fB E.lx id) σ)
 | .ret,σ,_=>fin σ
 | _,_,_=>none
end
def sub:List Nat->Code->Code
 | [],c=>c
 | i::p,.seq a b=>match i with
  | 0=>sub p a
  | _=>sub p b
 | i::p,.cond _ a b=>match i with
  | 0=>sub p a
  | _=>sub p b
 | _::p,.block _ b=>sub p b
 | _::p,.loop b=>sub p b
 | _::p,.scope b=>sub p b
 | _,c=>c
def au {V R:Type} (B:(V->Option R)->V->Option R):Nat->V->Option R
 | 0,_=>none
 | k+1,v=>B (au B k) v
theorem aH {V R:Type} (F:St->(Ex->St->Option R)->Option R) (kp:St->St) (K:Ex->St->Option R) (σ:V->St) (B:(V->Option R)->V->Option R)
  (h:∀ (rec:St->Option R) (v:V),F (σ v) (fq rec kp K)=B (λv'=>rec (σ v')) v):∀ (n:Nat) (v:V),uR F kp K n (σ v)=au B n v:=by
 intro n
 induction n with
 | zero=>intro v;rfl
 | succ n ih=>
  intro v
  show F (σ v) (fq (uR F kp K n) kp K)=B (au B n) v
  simp_all
end
end OT
namespace OT
open Go
noncomputable section
def cw:(ps:List (PM×Ty))->(ba (ps.map (·.2))).den->List Slot
 | [],_=>[]
 | (.ro,.ptr e)::ps,v=>.cp e v.1::cw ps v.2
 | (.fix f,.fn)::ps,v=>.val .fn (f,v.1.2)::cw ps v.2
 | (.fix _,_)::ps,v=>.dead::cw ps v.2
 | (.ro,t)::ps,v=>.val t v.1::cw ps v.2
 | (.du m _,t)::ps,v=>.box t m [] v.1::cw ps v.2
 | (.fx m,t)::ps,v=>.own t m [] v.1::cw ps v.2
 | (.fh m,t)::ps,v=>.own t m [] v.1::cw ps v.2
 | (.iU m,t)::ps,v=>.box t m [] v.1::cw ps v.2
def pD:Nat->List Slot->List (Nat×Slot)
 | _,[]=>[]
 | i,s::ss=>(i,s)::pD (i+1) ss
def kG:Nat->List (PM×Ty)->List (Nat×Nat×Bool)
 | _,[]=>[]
 | i,(.du _ _,_)::ps=>(i,i,false)::kG (i+1) ps
 | i,(.fx _,_)::ps=>(i,i,true)::kG (i+1) ps
 | i,(.iU _,_)::ps=>(i,i,false)::kG (i+1) ps
 | i,_::ps=>kG (i+1) ps
def rA (ps:List (PM×Ty)) (v:(ba (ps.map (·.2))).den) (n:Nat):St:={ n:=n,sl:=pD 0 (cw ps v),vr:=[],aA:=kG 0 ps }
section
variable {R:Type}
def mu (σ:St):Nat->(ps:List (PM×Ty))->List Nat->((ba (dT ps)).den->Option R)->Option R
 | _,[],_,K=>K ()
 | j,(.ro,_)::ps,es,K=>mu σ (j+1) ps es K
 | j,(.fix _,_)::ps,es,K=>mu σ (j+1) ps es K
 | j,(.iU _,_)::ps,es,K=>mu σ (j+1) ps es K
 | j,(.fh _,_)::ps,es,K=>mu σ (j+1) ps es K
 | j,(.du _ m,t)::ps,i::es,K=>match σ.get i with
  | .box t' m' H v=>if H.isEmpty&&(decide (m'=m)||fits m' m)&&rz σ.aA i j false then cS t' t v λv=>mu σ (j+1) ps es λvs=>K (v,vs) else none
  | _=>none
 | j,(.fx m,t)::ps,i::es,K=>match σ.get i with
  | .own t' m' H v | .box t' m' H v=>if H.isEmpty&&(decide (m'=m)||fits m' m)&&rz σ.aA i j true then cS t' t v λv=>mu σ (j+1) ps es λvs=>K (v,vs) else none
  | _=>none
 | _,_,_,_=>none
def wO (σ:St):ResultVar->Slot
 | .tmp i=>bh σ (.tmp i)
 | .cell a _=>match σ.get a with
  | .box _ _ _ _=>.ref a [] (σ.dJ a)
  | _=>.dead
def D_ (σ:St) (ts:List Ty) (mv:Nat->Bool) (fin:St->((ba ts).den->Option R)->Option R) :
    (rs:List (Ty×Md))->List ResultVar->Nat->((ba (rs.map (·.1)++ts)).den->Option R)->Option R
 | [],[],_,K=>fin σ K
 | (t,m)::rs,x::xs,j,K=>ep σ (wO σ x) (mv j) t λm' v σ'=>
  if m'=m\/fits m' m=true then D_ σ' ts mv fin rs xs (j+1) λvs=>K (v,vs) else none
 | _,_,_,_=>none
end
def AG (ps:List (PM×Ty)) (rs:List (Ty×Md)) (es:List Nat) (rB:List ResultVar) (mv:Nat->Bool) (σ:St):Option (ba (rs.map (·.1)++dT ps)).den:=
 D_ σ (dT ps) mv (λσ K=>mu σ 0 ps es K) rs rB 0 some
def Jn (fr:List Nat) (j:Nat):Bool:=!(fr.any (Nat.beq j))
def Lq {R:Type} (fin:St->Option R):Ex->St->Option R
 | .normal,σ=>fin σ
 | .exit _,_=>none
def tD (fn:Func):Code:=match fn.body with
 | some c=>c
 | none=>.refuse ""
abbrev PQ:Type:=List (PM×Ty)
abbrev RQ:Type:=List (Ty×Md)
abbrev TL:Type:=List (Nat×Ty)
abbrev GL:Type:=List (Nat×kF)
abbrev KT (R:Type):Type:=Ex->St->Option R
abbrev RT (R:Type):Type:=St->Option R
def Ac (E:Env) (k:Nat) (fn:Func) (ps:List (PM×Ty)) (rs:List (Ty×Md)) (es fr:List Nat) (v:(ba (ps.map (·.2))).den):Option (ba (rs.map (·.1)++dT ps)).den:=
 kB E k (AG ps rs es fn.results.toList (Jn fr)) (tD fn) (rA ps v fn.ntmps) (Lq (AG ps rs es fn.results.toList (Jn fr)))
def lift {R:Type} (f:Nat->Option R):Option R:=open Classical in if h:∃ out,∃ k,∀ k',k<=k'->f k'=some out then some h.choose else none
theorem ah {R:Type} {f:Nat->Option R} {out:R} {k:Nat} (h:∀ k',k<=k'->f k'=some out):lift f=some out:=by
 have hex:∃ out,∃ k,∀ k',k<=k'->f k'=some out:=⟨out,k,h⟩
 unfold lift
 rw[dif_pos hex]
 obtain ⟨k2,Y⟩:=hex.choose_spec
 have e1:=h (max k k2) (Nat.le_max_left _ _)
 grind
theorem FL {R:Type} {f:Nat->Option R} {out:R} (h:lift f=some out):∃ k,f k=some out:=by
 unfold lift at h
 split at h
 ·rename_i hex
  obtain ⟨k,hk⟩:=hex.choose_spec
  injection h with h
  exact ⟨k,by grind⟩
 ·cases h
abbrev i64:Ty:=.int .i64
abbrev u8:Ty:=.int .u8
def ai (n:Int):Int:=IntKind.wrap .i64 n
end
end OT
set_option linter.unusedVariables false
set_option linter.unusedSimpArgs false
namespace OT
open Go
abbrev FP:=Nat->Nat->Nat
abbrev Cells:=Nat->Nat->Prop
def isAgg:Ty->Bool
 | .unit | .pair _ _ | .arr _ _=>true
 | _=>false
def aZ (t:Ty) (cs:List Value):Value:=if isAgg t then .agg cs.toArray else cs.headD undef
def sc (ke:List (Value×Value)):Value:=.tuple (ke.map λkv=>Value.tuple #[kv.1,kv.2]).toArray
def entriesOf (es:Array MapEntry):List (Value×Value):=es.toList.map λe=>(e.key,e.val)
def Ea (u:Value):Option Value:=if u.oneCell' then some u else none
def ce (w:World) (b i:Nat):Option Value:=match w.heap[b]? with
 | some (.map es _)=>if i=0 then some (sc (entriesOf es)) else none
 | _=>(w.cell? ⟨b,i,none⟩).bind Ea
theorem sd {w w2:World} {b:Nat} (h:w2.heap[b]?=w.heap[b]?) (i:Nat):ce w2 b i=ce w b i:=by grind [ce,World.cell?]
theorem y9 {u v:Value} (h:Ea u=some v):v=u/\u.oneCell'=true:=by
 grind [Ea]
theorem lh {w:World} {b i:Nat} {u:Value} (h:ce w b i=some u) (hu:u.oneCell'=true):w.cell? ⟨b,i,none⟩=some u:=by
 unfold ce at h
 split at h
 ·split at h
  ·injection h with h;subst h;cases hu
  ·cases h
 ·cases hc:w.cell? ⟨b,i,none⟩ with
  | none=>grind
  | some v=>
   rw[hc] at h
   have:=y9 h
   rw[this.1]
theorem yn {w:World} {b i:Nat} {u:Value} (h:w.cell? ⟨b,i,none⟩=some u) (hu:u.oneCell'=true):ce w b i=some u:=by
 grind [World.cell?,ce,Ea]
theorem H8:∀ {a b:List (Value×Value)},sc a=sc b->a=b:=by
 have main:∀ (a b:List (Value×Value)),(a.map λkv=>Value.tuple #[kv.1,kv.2])=(b.map λkv=>Value.tuple #[kv.1,kv.2])->a=b:=by
  intro a
  induction a with
  | nil=>simp_all
  | cons x a ih=>
   intro b h
   cases b <;> grind
 grind [sc]
theorem FM {w:World} {r:Nat} {ke:List (Value×Value)} (h:ce w r 0=some (sc ke)):∃ es clock,w.heap[r]?=some (.map es clock)/\entriesOf es=ke:=by
 unfold ce at h
 split at h
 ·grind [H8]
 ·cases hc:w.cell? ⟨r,0,none⟩ with
  | none=>grind
  | some v=>
   rw[hc] at h
   have:=y9 h
   have Y:=this.2
   rw[<-this.1] at Y
   cases Y
theorem FN {w:World} {r:Nat} {es:Array MapEntry} {clock:Nat} (h:w.heap[r]?=some (.map es clock)):ce w r 0=some (sc (entriesOf es)):=by
 grind [ce]
def Has (w:World) (b o:Nat) (L:List Value):Prop:=∀ j u,L[j]?=some u->ce w b (o+j)=some u
def vT:Ty->Bool
 | .int .u8=>true
 | _=>false
def cr (w:World) (b:Nat) (n:Nat×Bool):Prop:=∃ c e fr,w.heap[b]?=some (.cells c e fr)/\c.size=n.1/\(∀ i,i < n.1->¬ (fr.1<=i/\i < fr.2))/\(n.2=false->¬ (fr.1<=n.1/\n.1 < fr.2))
def bj (b o n:Nat):FP:=λb' i=>if b'=b/\o<=i/\i < o+n then 1 else 0
def ao:Nat->(Nat->FP)->FP
 | 0,_=>λ_ _=>0
 | n+1,f=>λb i=>ao n f b i+f n b i
def bL (f:Nat->FP) (j:Nat) (g:FP):Nat->FP:=λi=>if i=j then g else f i
theorem mw {n:Nat} {f g:Nat->FP} (h:∀ j,j < n->f j=g j):ao n f=ao n g:=by
 induction n with
 | zero=>rfl
 | succ n ih=>
  funext b i
  simp only[ao]
  rw[ih (λj hj=>h j (by omega)),h n (by omega)]
theorem jP {n:Nat} (f:Nat->FP) {j:Nat} (hj:j < n) (g:FP) (b i:Nat):ao n (bL f j g) b i+f j b i=ao n f b i+g b i:=by
 induction n with
 | zero=>omega
 | succ n ih=>
  simp only[ao]
  by_cases h:j=n
  ·subst h
   have:ao j (bL f j g)=ao j f:=mw λk hk=>by grind [bL]
   rw[this]
   simp[bL]
   omega
  ·have:=ih (by omega)
   have e:bL f j g n=f n:=by grind [bL]
   rw[e];omega
theorem AH {n:Nat} (f:Nat->FP) {j:Nat} (hj:n<=j) (g:FP):ao n (bL f j g)=ao n f:=
 mw λk hk=>by grind [bL]
theorem a_ {n:Nat} (f:Nat->FP) {j:Nat} (hj:j < n) (b i:Nat):f j b i<=ao n f b i:=by
 induction n <;> grind [ao]
theorem jQ {n:Nat} (f:Nat->FP) {j k:Nat} (hj:j < n) (hk:k < n) (ci:j≠k) (b i:Nat):f j b i+f k b i<=ao n f b i:=by
 have h1:=jP f hj (λ_ _=>0) b i
 have Y:=a_ (bL f j λ_ _=>0) hk b i
 have e:bL f j (λ_ _=>0) k=f k:=by grind [bL]
 rw[e] at Y
 grind
theorem eF (n:Nat) (b i:Nat):ao n (λ_ _ _=>0) b i=0:=by
 induction n <;> grind [ao]
theorem kH (n m:Nat) (f:Nat->FP) (b i:Nat):ao (n+m) f b i=ao n f b i+ao m (λj=>f (n+j)) b i:=by
 induction m <;> grind [ao]
theorem yo {n:Nat} {f g:Nat->FP} (b i:Nat) (h:∀ j,j < n->f j b i<=g j b i):ao n f b i<=ao n g b i:=by
 induction n <;> grind [ao]
theorem y_ (n:Nat) (f:Nat->FP) (k m:Nat) (h:k+m<=n) (b i:Nat):ao m (λj=>f (k+j)) b i<=ao n f b i:=by
 have e:n=k+(m+(n - k - m)):=by omega
 grind [kH]
theorem AI {n:Nat} {f:Nat->FP} {b i:Nat} (h:1<=ao n f b i):∃ j,j < n/\1<=f j b i:=by
 induction n <;> grind [ao]
section
variable (P:Program) (w:World) (A:Cells)
def Ro:(t:Ty)->t.den->List Value->Prop
 | .int k,v,cs=>cs=[.int k (fZ k v)]
 | .bool,v,cs=>cs=[.bool v]
 | .str,v,cs=>cs=[.string ⟨List.toArray v⟩]
 | .unit,_,cs=>cs=[]
 | .pair a b,v,cs=>Ro a v.1 (cs.take a.sz)/\Ro b v.2 (cs.drop a.sz)
 | .arr n e,v,cs=>e.flat=true/\List.length v=n/\cs.length=n*e.sz/\∀ (i:Nat) (x:e.den),v[i]?=some x->Ro e x ((cs.drop (i*e.sz)).take e.sz)
 | .aa e,v,cs=>∃ a cap,cs=[.slice a (List.length v) cap]/\List.length v<=cap/\(a=none->List.length v=0)/\∀ ad,a=some ad->(0 < cap->ad.spot=none) /\
   ∀ (i:Nat) (x:e.den),v[i]?=some x->∃ L:List Value,L.length=e.sz/\(∀ j u,L[j]?=some u->ce w ad.block (ad.off+i*e.sz+j)=some u/\A ad.block (ad.off+i*e.sz+j))/\Ro e x L
 | .ptr e,v,cs=>∃ ad,cs=[.pointer (some ad)]/\ad.spot=none /\
   ∃ L:List Value,L.length=e.sz/\(∀ j u,L[j]?=some u->ce w ad.block (ad.off+j)=some u/\A ad.block (ad.off+j))/\Ro e v L
 | .fn,v,cs=>∃ qV,cs=[.func (.func v.1) #[] qV]/\∃ fn,P.funcs[v.1]?=some fn /\
   ((fn.nfree=0/\qV=#[])\/(fn.nfree=1/\∃ ad:Addr,qV=#[.pointer (some ad)]/\ad.spot=none/\ce w ad.block ad.off=some (.int .i64 v.2)/\A ad.block ad.off))
 | .map k v,x,cs=>k.flat=true/\v.flat=true/\∃ (r:Nat) (ke:List (Value×Value)),cs=[.map (some r)]/\ce w r 0=some (sc ke)/\A r 0/\ke.length=List.length x /\
   ∀ (i:Nat) (y:k.den×v.den),x[i]?=some y->∃ (kc vc:List Value),ke[i]?=some (aZ k kc,aZ v vc)/\Ro k y.1 kc/\Ro v y.2 vc
def hole (H:List Path):Bool:=H.any (·.isEmpty)
def dy (i:Nat):Path->Option Path
 | .idx j::p=>if i=j then some p else none
 | _=>none
def af:(t:Ty)->Md->List Path->t.den->List Value->FP->Prop
 | .pair a b,m,H,v,cs,F=>hole H=false/\∃ F1 F2:FP,(∀ x i,F1 x i+F2 x i<=F x i) /\
   af a m.l (H.filterMap lE) v.1 (cs.take a.sz) F1/\af b m.r (H.filterMap lF) v.2 (cs.drop a.sz) F2
 | .aa e,m,H,v,cs,F=>
   if hole H then ∃ x:Value,cs=[x]/\x.oneCell'=true
   else if m.own then ∃ a cap,cs=[.slice a (List.length v) cap]/\List.length v<=cap/\cap<=maxLen/\(a=none->cap=0)/\∀ ad,a=some ad->ad.off=0/\ad.spot=none /\
    cr w ad.block (cap*e.sz,vT e)/\∃ Fi:Nat->FP,(∀ x i,bj ad.block 0 (cap*e.sz) x i+ao (List.length v) Fi x i<=F x i) /\
    ∀ (i:Nat) (x:e.den),v[i]?=some x->∃ L:List Value,L.length=e.sz/\Has w ad.block (i*e.sz) L/\af e m.e (H.filterMap (dy i)) x L (Fi i)
   else H=[]/\m.e.dv=true/\Ro P w A (.aa e) v cs
 | .ptr e,m,H,v,cs,F=>
   if hole H then ∃ x:Value,cs=[x]/\x.oneCell'=true
   else if m.own then ∃ b,cs=[.pointer (some ⟨b,0,none⟩)]/\cr w b (e.sz,false)/\∃ (L:List Value) (F1:FP),L.length=e.sz/\Has w b 0 L /\
    (∀ x i,bj b 0 e.sz x i+F1 x i<=F x i)/\af e m.e [] v L F1
   else H=[]/\m.e.dv=true/\Ro P w A (.ptr e) v cs
 | .int k,_,_,v,cs,_=>Ro P w A (.int k) v cs
 | .bool,_,_,v,cs,_=>Ro P w A .bool v cs
 | .str,_,_,v,cs,_=>Ro P w A .str v cs
 | .unit,_,_,v,cs,_=>Ro P w A .unit v cs
 | .arr n e,_,H,v,cs,_=>H=[]/\Ro P w A (.arr n e) v cs
 | .fn,_,_,v,cs,_=>Ro P w A .fn v cs
 | .map k v,m,H,x,cs,F=>
   if hole H then ∃ x:Value,cs=[x]/\x.oneCell'=true
   else if m.own then k.flat=true/\v.flat=true/\∃ (r:Nat) (ke:List (Value×Value)),cs=[.map (some r)]/\ce w r 0=some (sc ke)/\1<=F r 0/\ke.length=List.length x /\
    ∀ (i:Nat) (y:k.den×v.den),x[i]?=some y->∃ (kc vc:List Value),ke[i]?=some (aZ k kc,aZ v vc)/\Ro P w A k y.1 kc/\Ro P w A v y.2 vc
   else H=[]/\m.e.dv=true/\Ro P w A (.map k v) x cs
end
theorem Ro.length {P:Program} {w:World} {A:Cells}:∀ (t:Ty) {v:t.den} {cs:List Value},Ro P w A t v cs->cs.length=t.sz:=by
 intro t
 induction t <;> grind [Ty.sz,Ro]
theorem af.length {P:Program} {w:World} {A:Cells}:∀ (t:Ty) {m:Md} {H:List Path} {v:t.den} {cs:List Value} {F:FP},af P w A t m H v cs F->cs.length=t.sz:=by
 intro t
 induction t <;> grind [Ty.sz,af,Ro.length]
structure S8 (w w':World) (S:Nat->Nat->Prop):Prop where
 cell:∀ b i,S b i->∀ u,ce w b i=some u->ce w' b i=some u
 lY:∀ b n,cr w b n->cr w' b n
theorem Ro.mono {P:Program} {w w':World} {A A':Cells} (hc:∀ b i,A b i->∀ u,ce w b i=some u->ce w' b i=some u) (hA:∀ b i,A b i->A' b i) :
  ∀ (t:Ty) {v:t.den} {cs:List Value},Ro P w A t v cs->Ro P w' A' t v cs:=by
 intro t
 induction t with
 | pair a b eG et=>intro v cs h;exact ⟨eG h.1,et h.2⟩
 | arr n e ih=>intro v cs h;exact ⟨h.1,h.2.1,h.2.2.1,λi x hx=>ih (h.2.2.2 i x hx)⟩
 | aa e ih=>
  rintro v cs ⟨a,cap,h1,Y,h3,h4⟩
  refine ⟨a,cap,h1,Y,h3,λad di=>⟨(h4 ad di).1,λi x hx=>?_⟩⟩
  grind
 | ptr e ih=>
  rintro v cs ⟨ad,h1,Y,L,hl,hL,hr⟩
  exact ⟨ad,h1,Y,L,hl,λj u hu=>⟨hc _ _ (hL j u hu).2 u (hL j u hu).1,hA _ _ (hL j u hu).2⟩,ih hr⟩
 | fn=>
  rintro v cs ⟨qV,h1,fn,Y,h3⟩
  refine ⟨qV,h1,fn,Y,?_⟩
  grind
 | map k v Lr Ls=>
  rintro x cs ⟨h1,Y,r,ke,h3,h4,h5,h6,h7⟩
  refine ⟨h1,Y,r,ke,h3,hc _ _ h5 _ h4,hA _ _ h5,h6,λi y hy=>?_⟩
  grind
 | _=>intro v cs h;exact h
theorem af.mono {P:Program} {w w':World} {A A':Cells} (hA:∀ b i,A b i->A' b i) (hc:∀ b i,A b i->∀ u,ce w b i=some u->ce w' b i=some u) (hb:∀ b n,cr w b n->cr w' b n) :
  ∀ (t:Ty) {m:Md} {H:List Path} {v:t.den} {cs:List Value} {F F':FP},af P w A t m H v cs F->(∀ b i,F b i<=F' b i)->(∀ b i,1<=F b i->∀ u,ce w b i=some u->ce w' b i=some u)->af P w' A' t m H v cs F':=by
 intro t
 induction t with
 | pair a b eG et=>
  intro m H v cs F F' h hF pE
  obtain ⟨h0,F1,F2,hs,h1,Y⟩:=h
  exact ⟨h0,F1,F2,λx i=>Nat.le_trans (hs x i) (hF x i),eG h1 (λ_ _=>Nat.le_refl _) (λb i hp=>pE b i (by grind)),
   et Y (λ_ _=>Nat.le_refl _) (λb i hp=>pE b i (by grind))⟩
 | aa e ih=>
  intro m H v cs F F' h hF pE
  simp only[af] at h ⊢
  split at h
  ·grind
  ·rename_i hh;rw[if_neg hh]
   split at h
   ·rename_i hm;rw[if_pos hm]
    obtain ⟨a,cap,h1,Y,h3,h4,h5⟩:=h
    refine ⟨a,cap,h1,Y,h3,h4,λad di=>?_⟩
    obtain ⟨g1,g2,g3,Fi,g4,g5⟩:=h5 ad di
    refine ⟨g1,g2,hb _ _ g3,Fi,λx i=>Nat.le_trans (g4 x i) (hF x i),λi x hx=>?_⟩
    obtain ⟨L,hl,hL,hr⟩:=g5 i x hx
    have hi:i < List.length v:=(List.getElem?_eq_some_iff.1 hx).1
    refine ⟨L,hl,λj u hu=>pE _ _ ?_ u (hL j u hu),ih hr (λ_ _=>Nat.le_refl _) (λb k hp=>pE b k ?_)⟩
    ·have:=g4 ad.block (i*e.sz+j)
     have hj:j < e.sz:=hl ▸ (List.getElem?_eq_some_iff.1 hu).1
     have:i*e.sz+j < cap*e.sz:=by
      have h1:(i+1)*e.sz<=cap*e.sz:=Nat.mul_le_mul_right _ (by omega)
      grind
     grind [bj]
    grind [a_]
   grind [Ro.mono]
 | ptr e ih=>
  intro m H v cs F F' h hF pE
  simp only[af] at h ⊢
  split at h
  ·grind
  ·rename_i hh;rw[if_neg hh]
   split at h
   ·rename_i hm;rw[if_pos hm]
    obtain ⟨b,h1,Y,L,F1,h3,h4,h5,h6⟩:=h
    refine ⟨b,h1,hb _ _ Y,L,F1,h3,λj u hu=>pE _ _ ?_ u (h4 j u hu),λx i=>Nat.le_trans (h5 x i) (hF x i),ih h6 (λ_ _=>Nat.le_refl _) (λb' k hp=>pE b' k ?_)⟩
    all_goals grind [bj]
   grind [Ro.mono]
 | arr n e ih=>intro m H v cs F F' h hF pE;exact ⟨h.1,Ro.mono hc hA _ h.2⟩
 | map k v Lr Ls=>
  grind [af,Ro.mono]
 | _=>intro m H v cs F F' h hF pE;exact Ro.mono hc hA _ h
theorem af.le {P:Program} {w:World} {A:Cells} {t:Ty} {m:Md} {H:List Path} {v:t.den} {cs:List Value} {F F':FP} (h:af P w A t m H v cs F) (hF:∀ b i,F b i<=F' b i):af P w A t m H v cs F':=
 af.mono (λ_ _ h=>h) (λ_ _ _ _ h=>h) (λ_ _ h=>h) t h hF (λ_ _ _ _ h=>h)
theorem af.my {P:Program} {w:World} {A A':Cells} (hA:∀ b i,A b i->A' b i) :
  ∀ (t:Ty) {m:Md} {v:t.den} {cs:List Value} {F:FP},af P w A t m [] v cs F->(∀ b i,1<=F b i->A' b i)->Ro P w A' t v cs:=by
 intro t
 induction t with
 | pair a b eG et=>
  intro m v cs F h hF
  obtain ⟨h0,F1,F2,hs,h1,Y⟩:=h
  exact ⟨eG h1 (λb i hp=>hF b i (by grind)),et Y (λb i hp=>hF b i (by grind))⟩
 | aa e ih=>
  intro m v cs F h hF
  simp only[af,hole,List.any_nil,Bool.false_eq_true,if_false] at h
  split at h
  ·obtain ⟨a,cap,h1,Y,h3,h4,h5⟩:=h
   refine ⟨a,cap,h1,Y,λhn=>by grind,λad di=>?_⟩
   obtain ⟨g1,g2,g3,Fi,g4,g5⟩:=h5 ad di
   refine ⟨λ_=>g2,λi x hx=>?_⟩
   obtain ⟨L,hl,hL,hr⟩:=g5 i x hx
   have hi:i < List.length v:=(List.getElem?_eq_some_iff.1 hx).1
   refine ⟨L,hl,λj u hu=>?_,ih hr λb k hp=>hF b k ?_⟩
   ·rw[g1,Nat.zero_add]
    refine ⟨hL j u hu,hF _ _ ?_⟩
    have:=g4 ad.block (i*e.sz+j)
    have hj:j < e.sz:=hl ▸ (List.getElem?_eq_some_iff.1 hu).1
    have:i*e.sz+j < cap*e.sz:=by
     have h1:(i+1)*e.sz<=cap*e.sz:=Nat.mul_le_mul_right _ (by omega)
     grind
    grind [bj]
   grind [a_]
  grind [Ro.mono]
 | ptr e ih=>
  intro m v cs F h hF
  simp only[af,hole,List.any_nil,Bool.false_eq_true,if_false] at h
  split at h
  ·obtain ⟨b,h1,Y,L,F1,h3,h4,h5,h6⟩:=h
   refine ⟨_,h1,rfl,L,h3,λj u hu=>⟨h4 j u hu,hF _ _ ?_⟩,ih h6 λb' k hp=>hF _ _ ?_⟩
   all_goals grind [bj]
  grind [Ro.mono]
 | arr n e ih=>intro m v cs F h hF;exact Ro.mono (λ_ _ _ _ h=>h) hA _ h.2
 | map k v Lr Ls=>
  intro m x cs F h hF
  simp only[af,hole,List.any_nil,Bool.false_eq_true,if_false] at h
  split at h
  ·obtain ⟨h1,Y,r,ke,h3,h4,h5,h6,h7⟩:=h
   refine ⟨h1,Y,r,ke,h3,h4,hF _ _ h5,h6,λi y hy=>?_⟩
   grind [Ro.mono]
  grind [Ro.mono]
 | _=>intro m v cs F h hF;exact Ro.mono (λ_ _ _ _ h=>h) hA _ h
end OT
set_option linter.unusedVariables false
set_option linter.unusedSimpArgs false
namespace OT
open Go
theorem C9 {m:Md} (h:m.dv=true):m.l.dv=true:=by cases m <;> simp_all [Md.dv,Md.l]
theorem C_ {m:Md} (h:m.dv=true):m.r.dv=true:=by cases m <;> simp_all [Md.dv,Md.r]
theorem yp {m:Md} (h:m.dv=true):m.e.dv=true:=by cases m <;> simp_all [Md.dv,Md.e]
theorem lZ {m:Md} (h:m.dv=true):m.own=false:=by cases m <;> simp_all [Md.dv,Md.own]
theorem bS (t:Ty):(ag t).dv=true:=by
 induction t <;> simp_all [ag,lz,Md.dv]
theorem Lt {m m1:Md} (h:fits m m1=true):fits m.l m1.l=true:=by cases m <;> cases m1 <;> simp_all [fits,Md.l]
theorem Lu {m m1:Md} (h:fits m m1=true):fits m.r m1.r=true:=by cases m <;> cases m1 <;> simp_all [fits,Md.r]
theorem FO {m m1:Md} (h:fits m m1=true):fits m.e m1.e=true:=by cases m <;> cases m1 <;> simp_all [fits,Md.e]
theorem vU {m m1:Md} (h:fits m m1=true):m1.own=true->m.own=true:=by
 intro h1;cases m <;> cases m1 <;> simp_all [fits,Md.own]
theorem yq {m m1:Md} (h:fits m m1=true) (h1:m1.own=false):m1.e.dv=true\/∃ e,m1=.arr e:=by
 cases m <;> cases m1 <;> simp_all [fits,Md.own,Md.e,Md.dv]
theorem se:∀ {m m1:Md},fits m m1=true->m.dv=true->m1.dv=true:=by
 intro m
 induction m with
 | leaf=>grind [fits]
 | pair a b eG et=>
  intro m1 h hn
  cases m1 <;> grind [fits,Md.dv]
 | arr e ih=>
  intro m1 h hn
  cases m1 <;> grind [fits,Md.dv]
 | aa o e ih=>
  intro m1 h hn
  cases m1 <;> grind [fits,Md.dv]
 | ptr o e ih=>
  intro m1 h hn
  cases m1 <;> grind [fits,Md.dv]
section
variable {P:Program} {w:World} {A:Cells}
theorem Ro.rep:∀ (t:Ty) {m:Md} {v:t.den} {cs:List Value} (F:FP),m.dv=true->Ro P w A t v cs->af P w A t m [] v cs F:=by
 intro t
 induction t with
 | pair a b eG et=>
  intro m v cs F hm h
  exact ⟨rfl,λ_ _=>0,λ_ _=>0,λ_ _=>Nat.zero_le _,eG _ (C9 hm) h.1,et _ (C_ hm) h.2⟩
 | aa e ih=>grind [af,hole,lZ,yp]
 | ptr e ih=>grind [af,hole,lZ,yp]
 | arr n e ih=>intro m v cs F hm h;exact ⟨rfl,h⟩
 | map k v=>grind [af,hole,lZ,yp]
 | _=>intro m v cs F hm h;exact h
theorem af.ro:∀ (t:Ty) {m:Md} {v:t.den} {cs:List Value} {F:FP},m.dv=true->af P w A t m [] v cs F->Ro P w A t v cs:=by
 intro t
 induction t with
 | pair a b eG et=>
  intro m v cs F hm h
  obtain ⟨_,F1,F2,_,h1,Y⟩:=h
  exact ⟨eG (C9 hm) h1,et (C_ hm) Y⟩
 | aa e ih=>grind [af,hole,lZ]
 | ptr e ih=>grind [af,hole,lZ]
 | arr n e ih=>intro m v cs F hm h;exact h.2
 | map k v=>grind [af,hole,lZ]
 | _=>intro m v cs F hm h;exact h
theorem Ro.flat:∀ (t:Ty) {m:Md} {v:t.den} {cs:List Value} (F:FP),t.flat=true->Ro P w A t v cs->af P w A t m [] v cs F:=by
 intro t
 induction t with
 | pair a b eG et=>
  intro m v cs F hm h
  simp only[Ty.flat,Bool.and_eq_true] at hm
  exact ⟨rfl,λ_ _=>0,λ_ _=>0,λ_ _=>Nat.zero_le _,eG _ hm.1 h.1,et _ hm.2 h.2⟩
 | aa e ih=>grind [Ty.flat]
 | ptr e ih=>grind [Ty.flat]
 | arr n e ih=>intro m v cs F hm h;exact ⟨rfl,h⟩
 | map k v=>grind [Ty.flat]
 | _=>intro m v cs F hm h;exact h
theorem af.flat:∀ (t:Ty) {m:Md} {H:List Path} {v:t.den} {cs:List Value} {F:FP},t.flat=true->af P w A t m H v cs F->Ro P w A t v cs:=by
 intro t
 induction t with
 | pair a b eG et=>
  intro m H v cs F hm h
  simp only[Ty.flat,Bool.and_eq_true] at hm
  obtain ⟨_,F1,F2,_,h1,Y⟩:=h
  exact ⟨eG hm.1 h1,et hm.2 Y⟩
 | aa e ih=>grind [Ty.flat]
 | ptr e ih=>grind [Ty.flat]
 | arr n e ih=>intro m H v cs F hm h;exact h.2
 | map k v=>grind [Ty.flat]
 | _=>intro m H v cs F hm h;exact h
theorem af.fits:∀ (t:Ty) {m m1:Md} {v:t.den} {cs:List Value} {F:FP},fits m m1=true->af P w A t m [] v cs F->(∀ b i,F b i<=1) ->
  ∃ F1:FP,(∀ b i,F1 b i<=F b i)/\∀ A':Cells,(∀ b i,A b i->A' b i)->(∀ b i,1<=F b i->F1 b i=0->A' b i)->af P w A' t m1 [] v cs F1:=by
 intro t
 induction t with
 | pair a b eG et=>
  intro m m1 v cs F hf h hF
  obtain ⟨_,Fa,Fb,hs,h1,Y⟩:=h
  obtain ⟨G1,Qu,k1⟩:=eG (Lt hf) h1 (λb i=>by grind)
  obtain ⟨G2,Qv,k2⟩:=et (Lu hf) Y (λb i=>by grind)
  refine ⟨λb i=>G1 b i+G2 b i,λb i=>by grind,λA' hA hM=>⟨rfl,G1,G2,λ_ _=>Nat.le_refl _,k1 A' hA λb i hp hz=>?_,k2 A' hA λb i hp hz=>?_⟩⟩
  ·have:=hs b i;have:=hF b i;have:=Qv b i
   exact hM b i (by omega) (by grind)
  ·have:=hs b i;have:=hF b i;have:=Qu b i
   exact hM b i (by omega) (by grind)
 | aa e ih=>
  intro m m1 v cs F hf h hF
  by_cases vl:m1.own=true
  ·have hm:=vU hf vl
   simp only[af,hole,List.any_nil,Bool.false_eq_true,if_false,hm,if_true] at h
   obtain ⟨a,cap,h1,Y,h3,h4,h5⟩:=h
   cases a with
   | none=>
    refine ⟨λ_ _=>0,λ_ _=>Nat.zero_le _,λA' hA hM=>?_⟩
    grind [af,hole]
   | some ad=>
    obtain ⟨g1,g2,g3,Fi,g4,g5⟩:=h5 ad rfl
    have each:∀ i,∃ Gi:FP,(∀ b k,Gi b k<=Fi i b k)/\∀ A':Cells,(∀ b i,A b i->A' b i)->(∀ b k,1<=Fi i b k->Gi b k=0->A' b k) ->
      ∀ x,v[i]?=some x->∃ L:List Value,L.length=e.sz/\Has w ad.block (i*e.sz) L/\af P w A' e m1.e (([]:List Path).filterMap (dy i)) x L Gi:=by
     intro i
     cases hx:(v:List e.den)[i]? with
     | none=>exact ⟨λ_ _=>0,λ_ _=>Nat.zero_le _,λA' _ _ x tE=>by cases tE⟩
     | some x=>
      obtain ⟨L,hl,hL,hr⟩:=g5 i x hx
      have hi:i < List.length v:=(List.getElem?_eq_some_iff.1 hx).1
      obtain ⟨G,hG,k⟩:=ih (FO hf) hr (λb k=>by have:=a_ Fi hi b k;grind)
      exact ⟨G,hG,λA' hA hM x' tE=>by injection tE with tE;subst tE;exact ⟨L,hl,hL,k A' hA hM⟩⟩
    have ⟨Gi,Lv⟩:=Classical.axiomOfChoice each
    refine ⟨λb k=>bj ad.block 0 (cap*e.sz) b k+ao (List.length v) Gi b k,λb k=>?_,λA' hA hM=>?_⟩
    ·have:=g4 b k;have:=yo b k (f:=Gi) (g:=Fi) (n:=List.length v) λj _=>(Lv j).1 b k
     grind
    ·simp only[af,hole,List.any_nil,Bool.false_eq_true,if_false,vl,if_true]
     refine ⟨some ad,cap,h1,Y,h3,h4,λaX Eb=>?_⟩
     injection Eb with Eb;subst Eb
     refine ⟨g1,g2,g3,Gi,λ_ _=>Nat.le_refl _,λi x hx=>(Lv i).2 A' hA (λb k hp hz=>?_) x hx⟩
     have hi:i < List.length v:=(List.getElem?_eq_some_iff.1 hx).1
     have h1:=g4 b k;have Y:=hF b k;have h3:=a_ Fi hi b k
     refine hM b k (by omega) ?_
     show bj ad.block 0 (cap*e.sz) b k+ao (List.length v) Gi b k=0
     have:ao (List.length v) Gi b k=0:=by
      rcases Nat.eq_zero_or_pos (ao (List.length v) Gi b k) with h0 | h0
      ·exact h0
      ·obtain ⟨j,hj,On⟩:=AI h0
       have:=(Lv j).1 b k
       by_cases fC:j=i
       all_goals grind [jQ]
     omega
  ·have AJ:m1.own=false:=by simpa using vl
   have jv:m1.e.dv=true:=by
    rcases yq hf AJ with h | ⟨e',rfl⟩
    ·exact h
    ·cases m <;> simp[OT.fits] at hf
     simp only[af,hole,List.any_nil,Bool.false_eq_true,if_false,Md.own] at h
     exact se hf h.2.1
   refine ⟨λ_ _=>0,λ_ _=>Nat.zero_le _,λA' hA hM=>?_⟩
   grind [af.my,af]
 | ptr e ih=>
  intro m m1 v cs F hf h hF
  by_cases vl:m1.own=true
  ·have hm:=vU hf vl
   simp only[af,hole,List.any_nil,Bool.false_eq_true,if_false,hm,if_true] at h
   obtain ⟨b,h1,Y,L,F1,h3,h4,h5,h6⟩:=h
   obtain ⟨G,hG,k⟩:=ih (FO hf) h6 (λb' i=>by grind)
   refine ⟨λb' k=>bj b 0 e.sz b' k+G b' k,λb' k=>by grind,λA' hA hM=>?_⟩
   simp only[af,hole,List.any_nil,Bool.false_eq_true,if_false,vl,if_true]
   refine ⟨b,h1,Y,L,G,h3,h4,λ_ _=>Nat.le_refl _,k A' hA λb' i hp hz=>hM b' i ?_ ?_⟩
   all_goals grind
  ·have AJ:m1.own=false:=by simpa using vl
   have jv:m1.e.dv=true:=by
    rcases yq hf AJ with h | ⟨e',rfl⟩
    ·exact h
    ·cases m <;> simp[OT.fits] at hf
     simp only[af,hole,List.any_nil,Bool.false_eq_true,if_false,Md.own] at h
     exact se hf h.2.1
   refine ⟨λ_ _=>0,λ_ _=>Nat.zero_le _,λA' hA hM=>?_⟩
   grind [af.my,af]
 | arr n e ih=>intro m m1 v cs F hf h hF;exact ⟨λ_ _=>0,λ_ _=>Nat.zero_le _,λA' hA hM=>⟨rfl,Ro.mono (λ_ _ _ _ h=>h) hA _ h.2⟩⟩
 | map k v Lr Ls=>
  intro m m1 x cs F hf h hF
  by_cases vl:m1.own=true
  ·have hm:=vU hf vl
   simp only[af,hole,List.any_nil,Bool.false_eq_true,if_false,hm,if_true] at h
   obtain ⟨h1,Y,r,ke,h3,h4,h5,h6,h7⟩:=h
   refine ⟨F,λ_ _=>Nat.le_refl _,λA' hA hM=>?_⟩
   grind [af,hole,Ro.mono]
  ·have AJ:m1.own=false:=by simpa using vl
   have jv:m1.e.dv=true:=by
    rcases yq hf AJ with h | ⟨e',rfl⟩
    ·exact h
    ·cases m <;> simp[OT.fits] at hf
     simp only[af,hole,List.any_nil,Bool.false_eq_true,if_false,Md.own] at h
     exact se hf h.2.1
   refine ⟨λ_ _=>0,λ_ _=>Nat.zero_le _,λA' hA hM=>?_⟩
   grind [af.my,af]
 | _=>intro m m1 v cs F hf h hF;exact ⟨λ_ _=>0,λ_ _=>Nat.zero_le _,λA' hA hM=>Ro.mono (λ_ _ _ _ h=>h) hA _ h⟩
end
end OT
set_option linter.unusedVariables false
set_option linter.unusedSimpArgs false
namespace OT
open Go
def rd (w:World) (b o n:Nat):List Value:=(List.range n).map λj=>(ce w b (o+j)).getD undef
theorem of (w:World) (b o n:Nat):(rd w b o n).length=n:=by simp[rd]
theorem bB {w:World} {b o:Nat} {L:List Value} {n:Nat} (h:Has w b o L) (hn:L.length=n):rd w b o n=L:=by
 subst hn
 apply List.ext_getElem?
 intro j
 unfold rd
 rw[List.getElem?_map]
 by_cases hj:j < L.length
 ·rw[List.getElem?_range hj]
  have:=h j L[j] (List.getElem?_eq_getElem hj)
  grind
 grind
structure Pl where
 t:Ty
 H:List Path
 cs:List Value
 ad:Option (Nat×Nat)
def ca (ad:Option (Nat×Nat)) (k:Nat):Option (Nat×Nat):=ad.map λx=>(x.1,x.2+k)
def aD (w:World):Path->Ty->List Path->List Value->Option (Nat×Nat)->Option Pl
 | [],t,H,cs,ad=>some ⟨t,H,cs,ad⟩
 | .fst::p,.pair a _,H,cs,ad=>if hole H then none else aD w p a (H.filterMap lE) (cs.take a.sz) ad
 | .snd::p,.pair a b,H,cs,ad=>if hole H then none else aD w p b (H.filterMap lF) (cs.drop a.sz) (ca ad a.sz)
 | .idx i::p,.aa e,H,cs,_=>if hole H then none else match cs with
  | [.slice (some a) n _]=>if i < n then aD w p e (H.filterMap (dy i)) (rd w a.block (a.off+i*e.sz) e.sz) (some (a.block,a.off+i*e.sz)) else none
  | _=>none
 | .hJ i::p,.arr n e,H,cs,ad=>if H.isEmpty then (if i < n then aD w p e [] ((cs.drop (i*e.sz)).take e.sz) (ca ad (i*e.sz)) else none) else none
 | _,_,_,_,_=>none
def mz:Ty->Bool
 | .aa _ | .map _ _=>true
 | _=>false
def iN (d:Nat) (full:Prop) (w:World) (t:Ty) (H:List Path) (cs:List Value) (ad:Option (Nat×Nat)) (w2:World) (H2:List Path) (be:List Value):Prop:=
 ∀ q pl,bm q<=d->aD w q t H cs ad=some pl->∃ H' aJ,aD w2 q t H2 be ad=some ⟨pl.t,H',aJ,pl.ad⟩/\((bm q < d/\mz pl.t=true)\/full->aJ=pl.cs)
theorem tF {R:Type} {H:List Path} {i:Nat} {K:List Path->Option R} {r:R} (h:nx H i K=some r) :
  K (H.filterMap (dy i))=some r/\(∀ j,j≠i->H.filterMap (dy j)=[])/\hole H=false:=by
 unfold nx at h
 split at h
 ·exact ⟨h,λ_ _=>rfl,rfl⟩
 ·rename_i j q
  split at h
  ·rename_i gB;subst gB
   refine ⟨by simpa [dy] using h,λj hj=>by simp[dy,hj],rfl⟩
  ·cases h
 ·cases h
theorem sf {R S:Type} {H:List Path} {i:Nat} {K:List Path->Option R} {r:R} (h:nx H i K=some r) (K2:List Path->Option S) :
  nx H i K2=K2 (H.filterMap (dy i)):=by
 unfold nx at h ⊢
 grind [dy]
theorem kf (H:List Path):(H.map (.fst::·)).filterMap lE=H:=by
 induction H <;> simp_all [lE]
theorem kg (H:List Path):(H.map (.snd::·)).filterMap lF=H:=by
 induction H <;> simp_all [lF]
theorem kI (H:List Path):(H.map (.snd::·)).filterMap lE=[]:=by
 simp_all [lE]
theorem kJ (H:List Path):(H.map (.fst::·)).filterMap lF=[]:=by
 simp_all [lF]
theorem td (i:Nat) (H:List Path):(H.map (.idx i::·)).filterMap (dy i)=H:=by
 induction H <;> simp_all [dy]
theorem pF {i j:Nat} (h:j≠i) (H:List Path):(H.map (.idx i::·)).filterMap (dy j)=[]:=by
 simp_all [dy]
theorem it (s:Step) (H:List Path):hole (H.map (s::·))=false:=by
 grind [hole]
theorem jm (H1 H2:List Path):hole (H1++H2)=(hole H1||hole H2):=by simp[hole]
theorem NC {w:World}:∀ (q:Path) (t:Ty) {H H2:List Path} {cs:List Value} {ad:Option (Nat×Nat)} {pl za:Pl},aD w q t H cs ad=some pl->aD w q t H2 cs ad=some za->za.t=pl.t/\za.cs=pl.cs/\za.ad=pl.ad:=by
 intro q
 induction q with
 | nil=>grind [aD]
 | cons s q ih=>
  intro t H H2 cs ad pl za h Y
  cases t with
  | pair a b=>
   cases s <;> grind [aD]
  | aa e=>
   cases s with
   | idx i=>
    simp only[aD] at h Y
    grind
   | _=>simp[aD] at h
  | arr n e=>
   cases s <;> grind [aD]
  | _=>grind [aD]
section
variable {P:Program}
theorem l5 {w w2:World} {A:Cells} (hA:∀ b i,A b i->∀ u,ce w b i=some u->ce w2 b i=some u) :
  ∀ (q:Path) (t:Ty) {m:Md} {H:List Path} {v:t.den} {cs:List Value} {F:FP} {ad:Option (Nat×Nat)} {pl:Pl},af P w A t m H v cs F->(∀ b i,1<=F b i->∀ u,ce w b i=some u->ce w2 b i=some u) ->
  aD w q t H cs ad=some pl->aD w2 q t H cs ad=some pl:=by
 intro q
 induction q with
 | nil=>intro t m H v cs F ad pl _ _ h;exact h
 | cons s q ih=>
  intro t m H v cs F ad pl hr hF h
  cases t with
  | pair a b=>
   obtain ⟨h0,F1,F2,hs,h1,Y⟩:=hr
   cases s <;> grind [aD]
  | aa e=>
   cases s with
   | fst=>simp[aD] at h
   | snd=>simp[aD] at h
   | hJ i=>simp[aD] at h
   | idx i=>
    simp only[af] at hr
    simp only[aD] at h ⊢
    split at h
    ·cases h
    ·rename_i hh
     rw[if_neg hh]
     rw[if_neg hh] at hr
     split at hr
     ·obtain ⟨a,cap,rfl,Y,h3,h4,h5⟩:=hr
      cases a with
      | none=>cases h
      | some bT=>
       obtain ⟨g1,g2,g3,Fi,g4,g5⟩:=h5 bT rfl
       simp only at h ⊢
       split at h
       ·rename_i hi
        rw[if_pos hi]
        obtain ⟨L,hl,hL,cH⟩:=g5 i _ (List.getElem?_eq_getElem hi)
        have aB:(i+1)*e.sz<=cap*e.sz:=Nat.mul_le_mul_right _ (by omega)
        rw[Nat.add_mul] at aB
        have S9:Has w2 bT.block (i*e.sz) L:=λj u hu=>by
         have hj:j < e.sz:=hl ▸ (List.getElem?_eq_some_iff.1 hu).1
         refine hF _ _ ?_ u (hL j u hu)
         grind [bj]
        rw[g1,Nat.zero_add,bB hL hl] at h
        grind [bB,a_]
       ·cases h
     ·obtain ⟨rfl,jv,a,cap,rfl,Y,h3,h4⟩:=hr
      cases a with
      | none=>cases h
      | some bT=>
       simp only at h ⊢
       split at h
       ·rename_i hi
        rw[if_pos hi]
        obtain ⟨L,hl,hL,cH⟩:=(h4 bT rfl).2 i _ (List.getElem?_eq_getElem hi)
        rw[bB (λj u hu=>(hL j u hu).1) hl] at h
        rw[bB (λj u hu=>hA _ _ (hL j u hu).2 u (hL j u hu).1) hl]
        exact ih e (Ro.rep e (λ_ _=>0) jv cH) (λb k hp=>by simp at hp) h
       ·cases h
  | arr n e=>
   cases s with
   | fst=>simp[aD] at h
   | snd=>simp[aD] at h
   | idx i=>simp[aD] at h
   | hJ i=>
    obtain ⟨rfl,hf,hl,hlen,hr⟩:=hr
    simp only[aD,List.isEmpty_nil,if_true] at h ⊢
    split at h
    ·rename_i hi
     rw[if_pos hi]
     exact ih e (Ro.flat e (m:=.leaf) (λ_ _=>0) hf (hr i _ (List.getElem?_eq_getElem (by grind)))) (λb k hp=>by simp at hp) h
    ·cases h
  | _=>grind [aD]
theorem FQ {w:World} {A:Cells} {S:Nat->Nat->Prop} (hA:∀ b i,A b i->S b i) :
  ∀ (q:Path) (t:Ty) {m:Md} {H:List Path} {v:t.den} {cs:List Value} {F:FP} {ad:Option (Nat×Nat)} {pl:Pl},af P w A t m H v cs F->(∀ b i,1<=F b i->S b i) ->
  (∀ b o,ad=some (b,o)->∀ j,j < t.sz->S b (o+j))->aD w q t H cs ad=some pl->∀ b o,pl.ad=some (b,o)->∀ j,j < pl.t.sz->S b (o+j):=by
 intro q
 induction q with
 | nil=>grind [aD]
 | cons s q ih=>
  intro t m H v cs F ad pl hr hF di h
  cases t with
  | pair a b=>
   obtain ⟨h0,F1,F2,hs,h1,Y⟩:=hr
   cases s with
   | fst=>grind [aD,Ty.sz]
   | snd=>
    simp only[aD,h0,if_false] at h
    refine ih b Y (λb i hp=>hF b i (by grind)) (λb' o e j hj=>?_) h
    cases ad with
    | none=>cases e
    | some y=>
     simp only[ca,Option.map_some,Option.some.injEq,Prod.mk.injEq] at e
     obtain ⟨rfl,rfl⟩:=e
     grind [Ty.sz]
   | idx i=>simp[aD] at h
   | hJ i=>simp[aD] at h
  | aa e=>
   cases s with
   | fst=>simp[aD] at h
   | snd=>simp[aD] at h
   | hJ i=>simp[aD] at h
   | idx i=>
    simp only[af] at hr
    simp only[aD] at h
    split at h
    ·cases h
    ·rename_i hh
     rw[if_neg hh] at hr
     split at hr
     ·obtain ⟨a,cap,rfl,Y,h3,h4,h5⟩:=hr
      cases a with
      | none=>cases h
      | some bT=>
       obtain ⟨g1,g2,g3,Fi,g4,g5⟩:=h5 bT rfl
       simp only at h
       split at h
       ·rename_i hi
        obtain ⟨L,hl,hL,cH⟩:=g5 i _ (List.getElem?_eq_getElem hi)
        have aB:(i+1)*e.sz<=cap*e.sz:=Nat.mul_le_mul_right _ (by omega)
        rw[Nat.add_mul] at aB
        rw[g1,Nat.zero_add,bB hL hl] at h
        grind [a_,bj]
       ·cases h
     ·obtain ⟨rfl,jv,a,cap,rfl,Y,h3,h4⟩:=hr
      cases a with
      | none=>cases h
      | some bT=>
       simp only at h
       split at h
       ·rename_i hi
        obtain ⟨L,hl,hL,cH⟩:=(h4 bT rfl).2 i _ (List.getElem?_eq_getElem hi)
        rw[bB (λj u hu=>(hL j u hu).1) hl] at h
        refine ih e (Ro.rep e (λ_ _=>0) jv cH) (λb k hp=>by simp at hp) (λb' o e' j hj=>?_) h
        simp only[Option.some.injEq,Prod.mk.injEq] at e'
        obtain ⟨rfl,rfl⟩:=e'
        exact hA _ _ (hL j _ (List.getElem?_eq_getElem (by omega))).2
       ·cases h
  | arr n e=>
   cases s with
   | fst=>simp[aD] at h
   | snd=>simp[aD] at h
   | idx i=>simp[aD] at h
   | hJ i=>
    obtain ⟨rfl,hf,hl,hlen,hr⟩:=hr
    simp only[aD,List.isEmpty_nil,if_true] at h
    split at h
    ·rename_i hi
     refine ih e (Ro.flat e (m:=.leaf) (λ_ _=>0) hf (hr i _ (List.getElem?_eq_getElem (by grind)))) (λb k hp=>by simp at hp) (λb' o e' j hj=>?_) h
     cases ad with
     | none=>cases e'
     | some y=>
      simp only[ca,Option.map_some,Option.some.injEq,Prod.mk.injEq] at e'
      obtain ⟨rfl,rfl⟩:=e'
      have aB:(i+1)*e.sz<=n*e.sz:=Nat.mul_le_mul_right _ hi
      rw[Nat.add_mul] at aB
      have:=di y.1 y.2 rfl (i*e.sz+j) (by grind [Ty.sz])
      rwa [Nat.add_assoc]
    ·cases h
  | _=>grind [aD]
theorem Da {w:World} {A:Cells} :
  ∀ (q:Path) (t:Ty) {m:Md} {H:List Path} {v:t.den} {cs:List Value} {F:FP} {ad:Option (Nat×Nat)} {pl:Pl},af P w A t m H v cs F ->
  (∀ b o,ad=some (b,o)->Has w b o cs)->aD w q t H cs ad=some pl->(∀ b o,pl.ad=some (b,o)->Has w b o pl.cs)/\∃ (m':Md) (v':pl.t.den) (F':FP),af P w A pl.t m' pl.H v' pl.cs F':=by
 intro q
 induction q with
 | nil=>grind [aD]
 | cons s q ih=>
  intro t m H v cs F ad pl hr di h
  cases t with
  | pair a b=>
   obtain ⟨h0,F1,F2,hs,h1,Y⟩:=hr
   cases s with
   | fst=>
    simp only[aD,h0,if_false] at h
    exact ih a h1 (λb' o e j u hu=>di b' o e j u (by grind)) h
   | snd=>
    simp only[aD,h0,if_false] at h
    refine ih b Y (λb' o e j u hu=>?_) h
    cases ad with
    | none=>cases e
    | some y=>
     simp only[ca,Option.map_some,Option.some.injEq,Prod.mk.injEq] at e
     obtain ⟨rfl,rfl⟩:=e
     rw[List.getElem?_drop] at hu
     have:=di y.1 y.2 rfl (a.sz+j) u hu
     rwa [Nat.add_assoc]
   | idx i=>simp[aD] at h
   | hJ i=>simp[aD] at h
  | aa e=>
   cases s with
   | fst=>simp[aD] at h
   | snd=>simp[aD] at h
   | hJ i=>simp[aD] at h
   | idx i=>
    simp only[af] at hr
    simp only[aD] at h
    split at h
    ·cases h
    ·rename_i hh
     rw[if_neg hh] at hr
     split at hr
     ·obtain ⟨a,cap,rfl,Y,h3,h4,h5⟩:=hr
      cases a with
      | none=>cases h
      | some bT=>
       obtain ⟨g1,g2,g3,Fi,g4,g5⟩:=h5 bT rfl
       simp only at h
       split at h
       ·rename_i hi
        obtain ⟨L,hl,hL,cH⟩:=g5 i _ (List.getElem?_eq_getElem hi)
        grind [bB]
       ·cases h
     ·obtain ⟨rfl,jv,a,cap,rfl,Y,h3,h4⟩:=hr
      cases a with
      | none=>cases h
      | some bT=>
       simp only at h
       split at h
       ·rename_i hi
        obtain ⟨L,hl,hL,cH⟩:=(h4 bT rfl).2 i _ (List.getElem?_eq_getElem hi)
        rw[bB (λj u hu=>(hL j u hu).1) hl] at h
        refine ih e (Ro.rep e (λ_ _=>0) jv cH) (λb' o e'=>?_) h
        simp only[Option.some.injEq,Prod.mk.injEq] at e'
        obtain ⟨rfl,rfl⟩:=e'
        exact λj u hu=>(hL j u hu).1
       ·cases h
  | arr n e=>
   cases s with
   | fst=>simp[aD] at h
   | snd=>simp[aD] at h
   | idx i=>simp[aD] at h
   | hJ i=>
    obtain ⟨rfl,hf,hl,hlen,hr⟩:=hr
    simp only[aD,List.isEmpty_nil,if_true] at h
    split at h
    ·rename_i hi
     refine ih e (Ro.flat e (m:=.leaf) (λ_ _=>0) hf (hr i _ (List.getElem?_eq_getElem (by grind)))) (λb' o e' j u hu=>?_) h
     cases ad with
     | none=>cases e'
     | some y=>
      simp only[ca,Option.map_some,Option.some.injEq,Prod.mk.injEq] at e'
      obtain ⟨rfl,rfl⟩:=e'
      rw[List.getElem?_take] at hu
      split at hu
      ·rw[List.getElem?_drop] at hu
       have:=di y.1 y.2 rfl (i*e.sz+j) u hu
       rwa [Nat.add_assoc]
      ·cases hu
    ·cases h
  | _=>grind [aD]
theorem qw {w w2:World} {A A2:Cells} :
  ∀ (q:Path) (t:Ty) {m m2:Md} {H H2:List Path} {v v2:t.den} {cs be:List Value} {F F2:FP} {ad:Option (Nat×Nat)} {pl:Pl},
  af P w2 A2 t m2 H2 v2 be F2->(bm q=0\/t.flat=true) ->
  aD w q t H cs ad=some pl->∃ H' aJ,aD w2 q t H2 be ad=some ⟨pl.t,H',aJ,pl.ad⟩/\(t.flat=true->mz pl.t=false):=by
 intro q
 induction q with
 | nil=>
  intro t m m2 H H2 v v2 cs be F F2 ad pl hr hq h
  simp only[aD,Option.some.injEq] at h
  subst h
  exact ⟨_,_,rfl,λhf=>by cases t <;> simp_all [Ty.flat,mz]⟩
 | cons s q ih=>
  intro t m m2 H H2 v v2 cs be F F2 ad pl hr hq h
  cases t with
  | pair a b=>
   obtain ⟨h0,F1,F2,hs,h1,Y⟩:=hr
   simp only[Ty.flat,Bool.and_eq_true] at hq ⊢
   cases s with
   | fst=>
    simp only[aD,h0,if_false] at h ⊢
    split at h
    ·cases h
    ·obtain ⟨H',aJ,h3,h4⟩:=ih a (v:=v.1) (m:=.leaf) (F:=F) h1 (hq.imp (λh=>by simpa [bm] using h) (·.1)) h
     grind
   | snd=>
    simp only[aD,h0,if_false] at h ⊢
    split at h
    ·cases h
    ·obtain ⟨H',aJ,h3,h4⟩:=ih b (v:=v.2) (m:=.leaf) (F:=F) Y (hq.imp (λh=>by simpa [bm] using h) (·.2)) h
     grind
   | idx i=>simp[aD] at h
   | hJ i=>simp[aD] at h
  | aa e=>
   cases s <;> grind [aD,bm,Ty.flat]
  | arr n e=>
   cases s with
   | fst=>simp[aD] at h
   | snd=>simp[aD] at h
   | idx i=>simp[aD] at h
   | hJ i=>
    obtain ⟨rfl,hf,hl,hlen,hr⟩:=hr
    simp only[aD,List.isEmpty_nil,if_true] at h ⊢
    split at h
    ·split at h
     ·rename_i hi
      rw[if_pos hi]
      obtain ⟨H',aJ,h3,h4⟩:=ih e (v:=e.zero) (m:=.leaf) (F:=F) (Ro.flat e (m:=.leaf) (λ_ _=>0) hf (hr i _ (List.getElem?_eq_getElem (by grind)))) (.inr hf) h
      grind
     ·cases h
    ·cases h
  | _=>grind [aD]
theorem iN.zero {w w2:World} {A A2:Cells} {t:Ty} {m2:Md} {H H2:List Path} {v2:t.den} {cs be:List Value} {F2:FP} (ad:Option (Nat×Nat)) (h:af P w2 A2 t m2 H2 v2 be F2):iN 0 False w t H cs ad w2 H2 be:=by
 intro q pl hq hp
 obtain ⟨H',aJ,h1,_⟩:=qw (A:=A) (m:=m2) (v:=v2) (F:=F2) q t h (.inl (by omega)) hp
 grind
theorem iN.flat {w w2:World} {A A2:Cells} {t:Ty} {m2:Md} {H H2:List Path} {v2:t.den} {cs be:List Value} {F2:FP} (ad:Option (Nat×Nat)) (h:af P w2 A2 t m2 H2 v2 be F2) (hf:t.flat=true) (d:Nat):iN d False w t H cs ad w2 H2 be:=by
 intro q pl hq hp
 obtain ⟨H',aJ,h1,Y⟩:=qw (A:=A) (m:=m2) (v:=v2) (F:=F2) q t h (.inr hf) hp
 grind
theorem iN.same {w w2:World} {A:Cells} {t:Ty} {m:Md} {H:List Path} {v:t.den} {cs:List Value} {F:FP} (ad:Option (Nat×Nat)) (h:af P w A t m H v cs F)
  (hA:∀ b i,A b i->∀ u,ce w b i=some u->ce w2 b i=some u) (hF:∀ b i,1<=F b i->∀ u,ce w b i=some u->ce w2 b i=some u) (d:Nat) (full:Prop):iN d full w t H cs ad w2 H cs:=by
 intro q pl hq hp
 exact ⟨pl.H,pl.cs,l5 hA q t h hF hp,λ_=>rfl⟩
end
end OT
set_option linter.unusedVariables false
set_option linter.unusedSimpArgs false
namespace OT
open Go
def pG (cs:List Value) (off:Nat) (n:Nat) (c2:List Value):List Value:=cs.take off++c2++cs.drop (off+n)
def dW (loc:Option Nat) (cs:List Value) (n:Nat) (c2:List Value):List Value:=match loc with
 | some off=>pG cs off n c2
 | none=>cs
theorem li {cs c2:List Value} {off n:Nat} (h:off+n<=cs.length) (Y:c2.length=n):(pG cs off n c2).length=cs.length:=by
 simp[pG];omega
theorem pH {cs:List Value} {off n:Nat} (h:off+n<=cs.length):pG cs off n ((cs.drop off).take n)=cs:=by
 unfold pG
 rw[List.append_assoc]
 have:(cs.drop off).take n++cs.drop (off+n)=cs.drop off:=by
  rw[<-List.drop_drop];exact List.take_append_drop n (cs.drop off)
 rw[this];exact List.take_append_drop off cs
theorem rC {cs c2:List Value} {off n:Nat} (h:off+n<=cs.length) (Y:c2.length=n) (j:Nat):(pG cs off n c2)[j]?=if off<=j/\j < off+n then c2[j - off]? else cs[j]?:=by
 unfold pG
 rw[List.getElem?_append,List.getElem?_append]
 simp only[List.length_append,List.length_take]
 have h1:min off cs.length=off:=by omega
 rw[h1,Y]
 split
 ·split
  ·rw[if_neg (by omega),List.getElem?_take,if_pos (by omega)]
  ·rw[if_pos (by omega)]
 ·rw[if_neg (by omega),List.getElem?_drop]
  congr 1;omega
theorem KA {cs c2:List Value} {k n' off n:Nat} (h:off+n<=n') (h':k+n'<=cs.length) (Y:c2.length=n) :
  pG cs k n' (pG ((cs.drop k).take n') off n c2)=pG cs (k+off) n c2:=by
 have hl:((cs.drop k).take n').length=n':=by simp;omega
 apply List.ext_getElem?
 intro j
 rw[rC h' (by rw[li (by omega) Y,hl]),rC (by omega) Y,rC (by omega) Y]
 by_cases h3:k<=j/\j < k+n'
 ·rw[if_pos h3]
  by_cases h4:off<=j - k/\j - k < off+n
  ·rw[if_pos h4,if_pos (by omega)];congr 1;omega
  ·rw[if_neg h4,if_neg (by omega),List.getElem?_take,if_pos (by omega),List.getElem?_drop];congr 1;omega
 ·rw[if_neg h3,if_neg (by omega)]
theorem Db {w2:World} {b o:Nat} {cs c2:List Value} {off n:Nat} (h:off+n<=cs.length) (Y:c2.length=n)
  (hc:Has w2 b (o+off) c2) (hk:∀ j u,cs[j]?=some u->¬ (off<=j/\j < off+n)->ce w2 b (o+j)=some u):Has w2 b o (pG cs off n c2):=by
 intro j u hu
 rw[rC h Y] at hu
 split at hu
 ·have:=hc _ u hu
  rw[show o+off+(j - off)=o+j by omega] at this
  exact this
 ·exact hk j u hu (by assumption)
section
variable {P:Program} {R:Type}
theorem Lw {w:World} {A:Cells} {r:R}:∀ (p:Path) (t:Ty) {m:Md} {H:List Path} {v:t.den} {cs:List Value} {F:FP} {ad:Option (Nat×Nat)} {K:(t':Ty)->Md->List Path->t'.den->Option R},
  fw p t m H v K=some r->af P w A t m H v cs F->(∀ b o,ad=some (b,o)->Has w b o cs) ->
  ∃ (t':Ty) (m':Md) (H':List Path) (v':t'.den) (aJ:List Value) (aX:Option (Nat×Nat)) (F':FP),K t' m' H' v'=some r/\(∀ {S:Type} (K0:(t:Ty)->Md->List Path->t.den->Option S),fw p t m H v K0=K0 t' m' H' v')/\aD w p t H cs ad=some ⟨t',H',aJ,aX⟩/\af P w A t' m' H' v' aJ F' /\
   (∀ b i,F' b i<=F b i)/\(∀ b o,aX=some (b,o)->Has w b o aJ)/\(ad.isSome=true->aX.isSome=true):=by
 intro p
 induction p with
 | nil=>intro t m H v cs F ad K h hr di;exact ⟨t,m,H,v,cs,ad,F,h,λ_=>rfl,rfl,hr,λ_ _=>Nat.le_refl _,di,λh=>h⟩
 | cons s p ih=>
  intro t m H v cs F ad K h hr di
  cases t with
  | pair a b=>
   obtain ⟨h0,F1,F2,hs,h1,Y⟩:=hr
   have hle:=af.length a h1
   have AK:=af.length b Y
   simp only[List.length_take,List.length_drop] at hle AK
   cases s with
   | fst=>
    have vm:H.any (·.isEmpty)=false:=h0
    simp only[fw,vm] at h
    obtain ⟨t',m',H',v',aJ,aX,F',k1,kn,k2,k3,k4,k5,k6⟩:=ih a h h1 (ad:=ad) (λb o hb j u hu=>by
     rw[List.getElem?_take] at hu;split at hu;exact di b o hb j u hu;cases hu)
    exact ⟨t',m',H',v',aJ,aX,F',k1,λK0=>by simp only[fw,vm];exact kn K0,by simp only[aD,h0];exact k2,k3,λb i=>by have:=hs b i;have:=k4 b i;omega,k5,k6⟩
   | snd=>
    have vm:H.any (·.isEmpty)=false:=h0
    simp only[fw,vm] at h
    obtain ⟨t',m',H',v',aJ,aX,F',k1,kn,k2,k3,k4,k5,k6⟩:=ih b h Y (ad:=ca ad a.sz) (λb' o hb j u hu=>by
     cases ad with
     | none=>cases hb
     | some x=>
      simp only[ca,Option.map_some,Option.some.injEq,Prod.mk.injEq] at hb
      obtain ⟨rfl,rfl⟩:=hb
      rw[List.getElem?_drop] at hu
      have:=di x.1 x.2 rfl _ u hu
      rwa [Nat.add_assoc])
    exact ⟨t',m',H',v',aJ,aX,F',k1,λK0=>by simp only[fw,vm];exact kn K0,by simp only[aD,h0];exact k2,k3,λb i=>by have:=hs b i;have:=k4 b i;omega,k5,λh=>k6 (by cases ad <;> simp_all [ca])⟩
   | idx i=>simp[fw] at h
   | hJ i=>simp[fw] at h
  | aa e=>
   cases s with
   | fst=>simp[fw] at h
   | snd=>simp[fw] at h
   | hJ i=>simp[fw] at h
   | idx i=>
    simp only[fw] at h
    obtain ⟨h1,Y,h3⟩:=tF h
    cases hx:(v:List e.den)[i]? with
    | none=>rw[hx] at h1;cases h1
    | some x=>
     rw[hx] at h1
     simp only[Option.bind_some] at h1
     have hi:i < List.length v:=(List.getElem?_eq_some_iff.1 hx).1
     simp only[af,h3,Bool.false_eq_true,if_false] at hr
     split at hr
     ·obtain ⟨a,cap,rfl,g2,g3,g4,g5⟩:=hr
      cases a with
      | none=>have:=g4 rfl;omega
      | some bT=>
       obtain ⟨q1,q2,q3,Fi,q4,q5⟩:=g5 bT rfl
       obtain ⟨L,hl,hL,cH⟩:=q5 i x hx
       obtain ⟨t',m',H',v',aJ,aX,F',k1,kn,k2,k3,k4,k5,k6⟩:=ih e h1 cH (ad:=some (bT.block,i*e.sz)) (λb o hb=>by
        simp only[Option.some.injEq,Prod.mk.injEq] at hb;obtain ⟨rfl,rfl⟩:=hb;exact hL)
       refine ⟨t',m',H',v',aJ,aX,F',k1,λK0=>by simp only[fw];rw[sf h,hx];exact kn K0,?_,k3,λb k=>?_,k5,λ_=>k6 rfl⟩
       ·simp only[aD,h3,Bool.false_eq_true,if_false,hi,if_true,q1,Nat.zero_add,bB hL hl];exact k2
       ·have:=k4 b k;have:=q4 b k;have:=a_ Fi hi b k;omega
     ·obtain ⟨rfl,jv,a,cap,rfl,g2,g3,g4⟩:=hr
      cases a with
      | none=>have:=g3 rfl;omega
      | some bT=>
       obtain ⟨L,hl,hL,cH⟩:=(g4 bT rfl).2 i x hx
       have Dc:Has w bT.block (bT.off+i*e.sz) L:=λj u hu=>(hL j u hu).1
       obtain ⟨t',m',H',v',aJ,aX,F',k1,kn,k2,k3,k4,k5,k6⟩:=ih e h1 (Ro.rep e (λ_ _=>0) jv cH) (ad:=some (bT.block,bT.off+i*e.sz)) (λb o hb=>by
        simp only[Option.some.injEq,Prod.mk.injEq] at hb;obtain ⟨rfl,rfl⟩:=hb;exact Dc)
       refine ⟨t',m',H',v',aJ,aX,F',k1,λK0=>by simp only[fw];rw[sf h,hx];exact kn K0,?_,k3,λb k=>?_,k5,λ_=>k6 rfl⟩
       ·simp only[aD,h3,Bool.false_eq_true,if_false,hi,if_true,bB Dc hl];exact k2
       ·have:=k4 b k;omega
  | arr n e=>
   cases s with
   | fst=>simp[fw] at h
   | snd=>simp[fw] at h
   | idx i=>simp[fw] at h
   | hJ i=>
    obtain ⟨rfl,hf,hl,hlen,hr⟩:=hr
    simp only[fw,List.isEmpty_nil,if_true] at h
    cases hx:(v:List e.den)[i]? with
    | none=>rw[hx] at h;cases h
    | some x=>
     rw[hx] at h
     simp only[Option.bind_some] at h
     have hi:i < n:=hl ▸ (List.getElem?_eq_some_iff.1 hx).1
     obtain ⟨t',m',H',v',aJ,aX,F',k1,kn,k2,k3,k4,k5,k6⟩:=ih e h (Ro.flat e (λ_ _=>0) hf (hr i x hx)) (ad:=ca ad (i*e.sz)) (λb' o hb j u hu=>by
      cases ad with
      | none=>cases hb
      | some y=>
       simp only[ca,Option.map_some,Option.some.injEq,Prod.mk.injEq] at hb
       obtain ⟨rfl,rfl⟩:=hb
       rw[List.getElem?_take] at hu
       split at hu
       ·rw[List.getElem?_drop] at hu
        have:=di y.1 y.2 rfl _ u hu
        rwa [Nat.add_assoc]
       ·cases hu)
     exact ⟨t',m',H',v',aJ,aX,F',k1,λK0=>by simp only[fw,List.isEmpty_nil,if_true,hx,Option.bind_some];exact kn K0,by simp only[aD,List.isEmpty_nil,if_true,hi];exact k2,k3,λb k=>by have:=k4 b k;omega,k5,λh=>k6 (by cases ad <;> simp_all [ca])⟩
  | _=>cases s <;> simp[fw] at h
structure ND (P:Program) (w:World) (A:Cells) {R:Type} (r:R) (p:Path) (t:Ty) (m:Md) (H:List Path) (v:t.den) (cs:List Value) (F:FP) (ad:Option (Nat×Nat))
  (f:(t':Ty)->Md->List Path->t'.den->(Md->List Path->t'.den->Option R)->Option R) (K:Md->List Path->t.den->Option R)
  (t':Ty) (m':Md) (H':List Path) (v':t'.den) (aJ:List Value) (aX:Option (Nat×Nat)) (F' G:FP) (kk:Md->List Path->t'.den->Option R) (loc:Option Nat):Prop where
 run:f t' m' H' v' kk=some r
 FR:∀ {S:Type} (K0:(t':Ty)->Md->List Path->t'.den->Option S),fw p t m H v K0=K0 t' m' H' v'
 place:aD w p t H cs ad=some ⟨t',H',aJ,aX⟩
 rep:af P w A t' m' H' v' aJ F'
 sum:∀ b i,F' b i+G b i<=F b i
 has:∀ b o,aX=some (b,o)->Has w b o aJ
 kh:∀ off,loc=some off->off+t'.sz<=t.sz/\aJ=(cs.drop off).take t'.sz/\aX=ca ad off
 Ec:1<=bm p->loc=none
 out:loc=none->∃ b o,aX=some (b,o)/\∀ j,j < t'.sz->1<=G b (o+j)/\w.frozen? ⟨b,o+j,none⟩=false
 back:∀ m2 H2 (v2:t'.den),kk m2 H2 v2=some r->∀ (w2:World) (A2:Cells) (be:List Value) (F2:FP),
  (∀ b n,cr w b n->cr w2 b n)->(∀ b i,A b i->A2 b i)->(∀ b i,A b i->∀ u,ce w b i=some u->ce w2 b i=some u) ->
  (∀ b i,1<=G b i->(∀ o,aX=some (b,o)->¬ (o<=i/\i < o+t'.sz))->∀ u,ce w b i=some u->ce w2 b i=some u) ->
  (∀ b o,aX=some (b,o)->Has w2 b o be)->af P w2 A2 t' m2 H2 v2 be F2->(∀ b i,F2 b i+G b i<=1) ->
  ∃ m3 H3 v3 F3,K m3 H3 v3=some r/\(∀ b i,F3 b i<=F2 b i+G b i) /\
   (∀ A3:Cells,(∀ b i,A2 b i->A3 b i)->(∀ b i,1<=F2 b i+G b i->F3 b i=0->A3 b i)->af P w2 A3 t m3 H3 v3 (dW loc cs t'.sz be) F3) /\
   (∀ d full,iN d full w t' H' aJ aX w2 H2 be->iN (d+bm p) full w t H cs ad w2 H3 (dW loc cs t'.sz be))
theorem cr.frozen {w:World} {b:Nat} {n:Nat×Bool} (h:cr w b n) {i:Nat} (hi:i < n.1):w.frozen? ⟨b,i,none⟩=false:=by
 obtain ⟨c,e,fr,h1,Y,h3,_⟩:=h
 obtain ⟨lo,kj⟩:=fr
 have:=h3 i hi
 simp only[World.frozen?,h1]
 simp only[Bool.and_eq_false_iff,decide_eq_false_iff_not]
 simp only at this
 omega
theorem Lx {w:World} {A:Cells} {r:R}:∀ (p:Path) (t:Ty) {m:Md} {H:List Path} {v:t.den} {cs:List Value} {F:FP} {ad:Option (Nat×Nat)}
  {f:(t':Ty)->Md->List Path->t'.den->(Md->List Path->t'.den->Option R)->Option R} {K:Md->List Path->t.den->Option R},
  ir p t m H v f K=some r->af P w A t m H v cs F->(∀ b i,F b i<=1)->(∀ b o,ad=some (b,o)->Has w b o cs)->(∀ b o,ad=some (b,o)->∀ j,j < t.sz->F b (o+j)=0) ->
  ∃ t' m' H' v' aJ aX F' G kk loc,ND P w A r p t m H v cs F ad f K t' m' H' v' aJ aX F' G kk loc:=by
 intro p
 induction p with
 | nil=>
  intro t m H v cs F ad f K h hr hF di pI
  have hlen:=af.length t hr
  refine ⟨t,m,H,v,cs,ad,F,λ_ _=>0,K,some 0,h,λ_=>rfl,rfl,hr,λ_ _=>by simp,di,?_,(λh=>by simp[bm] at h),(λh=>by cases h),?_⟩
  ·intro off ho
   injection ho with ho;subst ho
   refine ⟨by omega,?_,?_⟩
   ·rw[List.drop_zero,<- hlen,List.take_length]
   ·cases ad <;> simp[ca]
  ·intro m2 H2 v2 hk w2 A2 be F2 hb hA jC hG sg og hs
   have oh:=af.length t og
   have PC:dW (some 0) cs t.sz be=be:=by
    simp[dW,pG,List.drop_eq_nil_of_le (show cs.length<=t.sz by omega)]
   rw[PC]
   refine ⟨m2,H2,v2,F2,hk,λ_ _=>by simp,λA3 iu _=>af.mono iu (λ_ _ _ _ h=>h) (λ_ _ h=>h) t og (λ_ _=>Nat.le_refl _) (λ_ _ _ _ h=>h),λd full hd=>hd⟩
 | cons s p ih=>
  intro t m H v cs F ad f K h hr hF di pI
  cases t with
  | pair a b=>
   obtain ⟨h0,F1,F2,hs,h1,Y⟩:=hr
   have hle:=af.length a h1
   have AK:=af.length b Y
   simp only[List.length_take,List.length_drop] at hle AK
   have vm:H.any (·.isEmpty)=false:=h0
   have NE:∀ b o,ad=some (b,o)->Has w b o (cs.take a.sz):=λb o hb j u hu=>by
    rw[List.getElem?_take] at hu;split at hu;exact di b o hb j u hu;cases hu
   have NF:∀ b' o,ca ad a.sz=some (b',o)->Has w b' o (cs.drop a.sz):=λb' o hb j u hu=>by
    cases ad with
    | none=>cases hb
    | some x=>
     simp only[ca,Option.map_some,Option.some.injEq,Prod.mk.injEq] at hb
     obtain ⟨rfl,rfl⟩:=hb
     rw[List.getElem?_drop] at hu
     have:=di x.1 x.2 rfl _ u hu
     rwa [Nat.add_assoc]
   cases s with
   | fst=>
    simp only[ir,vm] at h
    obtain ⟨t',m',H',v',aJ,aX,F',G,kk,loc,M⟩:=ih a h h1 (λb i=>by have:=hs b i;have:=hF b i;omega) NE (λb' o hb j hj=>by
     have:=pI b' o hb j (by simp only[Ty.sz];omega);have:=hs b' (o+j);omega)
    refine ⟨t',m',H',v',aJ,aX,F',λb i=>G b i+F2 b i,kk,loc,M.run,λK0=>by simp only[fw,vm];exact M.FR K0,by simp only[aD,h0];exact M.place,M.rep,λb i=>by have:=hs b i;have:=M.sum b i;omega,M.has,?_,(λh=>M.Ec (by simpa [bm] using h)),?_,?_⟩
    ·intro off ho
     obtain ⟨q1,q2,q3⟩:=M.kh off ho
     refine ⟨by simp only[Ty.sz];omega,?_,q3⟩
     rw[q2,List.drop_take,List.take_take]
     congr 1;omega
    ·intro ho
     obtain ⟨b',o,q1,q2⟩:=M.out ho
     exact ⟨b',o,q1,λj hj=>⟨by have:=(q2 j hj).1;omega,(q2 j hj).2⟩⟩
    ·intro m2 H2 v2 hk w2 A2 be zb hb hA jC hG sg og gC
     obtain ⟨m3,H3,v3,F3,k1,k2,k3,k4⟩:=M.back m2 H2 v2 hk w2 A2 be zb hb hA jC (λb' i hp hn=>hG b' i (by omega) hn) sg og (λb' i=>by have:=gC b' i;omega)
     have oh:=af.length t' og
     have fM:dW loc cs t'.sz be=dW loc (cs.take a.sz) t'.sz be++cs.drop a.sz:=by
      cases loc with
      | none=>simp[dW]
      | some off=>
       have:=(M.kh off rfl).1
       simp only[dW,pG]
       rw[List.take_take,show min off a.sz=off by omega,List.append_assoc,List.append_assoc,List.append_assoc]
       congr 2
       rw[List.drop_take]
       have e:cs.drop a.sz=(cs.drop (off+t'.sz)).drop (a.sz - (off+t'.sz)):=by rw[List.drop_drop];congr 1;omega
       rw[e,List.take_append_drop]
     have kK:(dW loc (cs.take a.sz) t'.sz be).length=a.sz:=by
      cases loc with
      | none=>simp[dW];omega
      | some off=>have:=(M.kh off rfl).1;simp only[dW];rw[li (by simp;omega) oh];simp;omega
     have oV:∀ d full,iN d full w t' H' aJ aX w2 H2 be->full->dW loc cs t'.sz be=cs:=λd full hd mA=>by
      obtain ⟨H5,c5,e1,e2⟩:=hd [] ⟨t',H',aJ,aX⟩ (Nat.zero_le _) rfl
      simp only[aD,Option.some.injEq,Pl.mk.injEq] at e1
      have e3:be=aJ:=e1.2.2.1.trans (e2 (.inr mA))
      cases loc with
      | none=>rfl
      | some off=>
       have:=M.kh off rfl
       rw[e3,this.2.1,List.drop_take,List.take_take,show min t'.sz (a.sz - off)=t'.sz by omega]
       exact pH (by omega)
     have iJ:(dW loc cs t'.sz be).take a.sz=dW loc (cs.take a.sz) t'.sz be:=by rw[fM];exact List.take_left' kK
     have wP:(dW loc cs t'.sz be).drop a.sz=cs.drop a.sz:=by rw[fM];exact List.drop_left' kK
     have zd:∀ b' i,1<=F2 b' i->∀ u,ce w b' i=some u->ce w2 b' i=some u:=λb' i hp u hu=>by
      refine hG b' i (by omega) (λo dY pJ=>?_) u hu
      have Qw:=hs b' i;have Qx:=hF b' i
      cases loc with
      | none=>
       obtain ⟨b0,o0,q1,q2⟩:=M.out rfl
       rw[q1] at dY
       simp only[Option.some.injEq,Prod.mk.injEq] at dY
       obtain ⟨rfl,rfl⟩:=dY
       have:=(q2 (i - o0) (by omega)).1
       rw[show o0+(i - o0)=i by omega] at this
       have:=M.sum b0 i
       omega
      | some off=>
       obtain ⟨q1,q2,q3⟩:=M.kh off rfl
       cases ad with
       | none=>rw[q3] at dY;cases dY
       | some x=>
        rw[q3] at dY
        simp only[ca,Option.map_some,Option.some.injEq,Prod.mk.injEq] at dY
        obtain ⟨rfl,rfl⟩:=dY
        have:=pI x.1 x.2 rfl (i - x.2) (by simp only[Ty.sz];omega)
        rw[show x.2+(i - x.2)=i by omega] at this
        omega
     refine ⟨_,_,_,λb' i=>F3 b' i+F2 b' i,k1,λb' i=>by have:=k2 b' i;show F3 b' i+F2 b' i<=_;omega,λA3 iu hM=>?_,λd full hd=>?_⟩
     ·refine ⟨by rw[jm,it,it];rfl,F3,F2,λ_ _=>Nat.le_refl _,?_,?_⟩
      ·rw[iJ,List.filterMap_append,kf,kI,List.append_nil]
       refine k3 A3 iu λb' i hp hz=>hM b' i (by omega) ?_
       have:=gC b' i
       show F3 b' i+F2 b' i=0;omega
      ·rw[wP,List.filterMap_append,kJ,kg,List.nil_append]
       exact af.mono (λb' i ha=>iu b' i (hA b' i ha)) jC hb b Y (λ_ _=>Nat.le_refl _) zd
     ·intro q pl hq hp
      cases q with
      | nil=>
       simp only[aD,Option.some.injEq] at hp;subst hp
       refine ⟨_,_,rfl,λh=>?_⟩
       rcases h with ⟨_,hs⟩ | mA
       ·simp[mz] at hs
       ·exact oV d full hd mA
      | cons s q=>
       cases s with
       | fst=>
        simp only[aD,h0,Bool.false_eq_true,if_false] at hp
        obtain ⟨H4,Jo,e1,e2⟩:=k4 d full hd q pl (by simpa [bm] using hq) hp
        refine ⟨H4,Jo,?_,λjD=>e2 (by simpa [bm] using jD)⟩
        simp only[aD,jm,it,Bool.or_self,Bool.false_eq_true,if_false]
        rw[iJ,List.filterMap_append,kf,kI,List.append_nil]
        exact e1
       | snd=>
        simp only[aD,h0,Bool.false_eq_true,if_false] at hp
        refine ⟨pl.H,pl.cs,?_,λ_=>rfl⟩
        simp only[aD,jm,it,Bool.or_self,Bool.false_eq_true,if_false]
        rw[wP,List.filterMap_append,kJ,kg,List.nil_append]
        exact l5 jC q b Y zd hp
       | idx i=>simp[aD] at hp
       | hJ i=>simp[aD] at hp
   | snd=>
    simp only[ir,vm] at h
    obtain ⟨t',m',H',v',aJ,aX,F',G,kk,loc,M⟩:=ih b h Y (λb i=>by have:=hs b i;have:=hF b i;omega) NF (λb' o hb j hj=>by
     cases ad with
     | none=>cases hb
     | some x=>
      simp only[ca,Option.map_some,Option.some.injEq,Prod.mk.injEq] at hb
      obtain ⟨rfl,rfl⟩:=hb
      have:=pI x.1 x.2 rfl (a.sz+j) (by simp only[Ty.sz];omega);have:=hs x.1 (x.2+(a.sz+j))
      rw[Nat.add_assoc];omega)
    refine ⟨t',m',H',v',aJ,aX,F',λb i=>G b i+F1 b i,kk,loc.map (a.sz+·),M.run,λK0=>by simp only[fw,vm];exact M.FR K0,by simp only[aD,h0];exact M.place,M.rep,λb i=>by have:=hs b i;have:=M.sum b i;omega,M.has,?_,(λh=>by rw[M.Ec (by simpa [bm] using h)];rfl),?_,?_⟩
    ·intro Ly ho
     obtain ⟨off,LA,rfl⟩:=Option.map_eq_some_iff.1 ho
     obtain ⟨q1,q2,q3⟩:=M.kh off LA
     refine ⟨by simp only[Ty.sz];omega,by rw[q2,List.drop_drop],?_⟩
     rw[q3];cases ad <;> simp[ca,Nat.add_assoc]
    ·intro ho
     obtain ⟨b',o,q1,q2⟩:=M.out (by simpa using ho)
     exact ⟨b',o,q1,λj hj=>⟨by have:=(q2 j hj).1;omega,(q2 j hj).2⟩⟩
    ·intro m2 H2 v2 hk w2 A2 be zb hb hA jC hG sg og gC
     obtain ⟨m3,H3,v3,F3,k1,k2,k3,k4⟩:=M.back m2 H2 v2 hk w2 A2 be zb hb hA jC (λb' i hp hn=>hG b' i (by omega) hn) sg og (λb' i=>by have:=gC b' i;omega)
     have oh:=af.length t' og
     have fM:dW (loc.map (a.sz+·)) cs t'.sz be=cs.take a.sz++dW loc (cs.drop a.sz) t'.sz be:=by
      cases loc with
      | none=>simp[dW]
      | some off=>
       have:=(M.kh off rfl).1
       simp only[dW,pG,Option.map_some]
       rw[List.take_add,List.drop_drop,List.append_assoc,List.append_assoc,List.append_assoc,Nat.add_assoc]
     have kK:(cs.take a.sz).length=a.sz:=by simp;omega
     have oV:∀ d full,iN d full w t' H' aJ aX w2 H2 be->full->dW (loc.map (a.sz+·)) cs t'.sz be=cs:=λd full hd mA=>by
      obtain ⟨H5,c5,e1,e2⟩:=hd [] ⟨t',H',aJ,aX⟩ (Nat.zero_le _) rfl
      simp only[aD,Option.some.injEq,Pl.mk.injEq] at e1
      have e3:be=aJ:=e1.2.2.1.trans (e2 (.inr mA))
      cases loc with
      | none=>rfl
      | some off=>
       have:=M.kh off rfl
       rw[e3,this.2.1,List.drop_drop]
       exact pH (show a.sz+off+t'.sz<=cs.length by omega)
     have iJ:(dW (loc.map (a.sz+·)) cs t'.sz be).take a.sz=cs.take a.sz:=by rw[fM];exact List.take_left' kK
     have wP:(dW (loc.map (a.sz+·)) cs t'.sz be).drop a.sz=dW loc (cs.drop a.sz) t'.sz be:=by rw[fM];exact List.drop_left' kK
     have zd:∀ b' i,1<=F1 b' i->∀ u,ce w b' i=some u->ce w2 b' i=some u:=λb' i hp u hu=>by
      refine hG b' i (by omega) (λo dY pJ=>?_) u hu
      have Qw:=hs b' i;have Qx:=hF b' i
      cases loc with
      | none=>
       obtain ⟨b0,o0,q1,q2⟩:=M.out rfl
       rw[q1] at dY
       simp only[Option.some.injEq,Prod.mk.injEq] at dY
       obtain ⟨rfl,rfl⟩:=dY
       have:=(q2 (i - o0) (by omega)).1
       rw[show o0+(i - o0)=i by omega] at this
       have:=M.sum b0 i
       omega
      | some off=>
       obtain ⟨q1,q2,q3⟩:=M.kh off rfl
       cases ad with
       | none=>rw[q3] at dY;cases dY
       | some x=>
        rw[q3] at dY
        simp only[ca,Option.map_some,Option.some.injEq,Prod.mk.injEq] at dY
        obtain ⟨rfl,rfl⟩:=dY
        have:=pI x.1 x.2 rfl (i - x.2) (by simp only[Ty.sz];omega)
        rw[show x.2+(i - x.2)=i by omega] at this
        omega
     refine ⟨_,_,_,λb' i=>F3 b' i+F1 b' i,k1,λb' i=>by have:=k2 b' i;show F3 b' i+F1 b' i<=_;omega,λA3 iu hM=>?_,λd full hd=>?_⟩
     ·refine ⟨by rw[jm,it,it];rfl,F1,F3,λb' i=>by show F1 b' i+F3 b' i<=F3 b' i+F1 b' i;omega,?_,?_⟩
      ·rw[iJ,List.filterMap_append,kf,kI,List.append_nil]
       exact af.mono (λb' i ha=>iu b' i (hA b' i ha)) jC hb a h1 (λ_ _=>Nat.le_refl _) zd
      ·rw[wP,List.filterMap_append,kJ,kg,List.nil_append]
       refine k3 A3 iu λb' i hp hz=>hM b' i (by omega) ?_
       have:=gC b' i
       show F3 b' i+F1 b' i=0;omega
     ·intro q pl hq hp
      cases q with
      | nil=>
       simp only[aD,Option.some.injEq] at hp;subst hp
       refine ⟨_,_,rfl,λh=>?_⟩
       rcases h with ⟨_,hs⟩ | mA
       ·simp[mz] at hs
       ·exact oV d full hd mA
      | cons s q=>
       cases s with
       | snd=>
        simp only[aD,h0,Bool.false_eq_true,if_false] at hp
        obtain ⟨H4,Jo,e1,e2⟩:=k4 d full hd q pl (by simpa [bm] using hq) hp
        refine ⟨H4,Jo,?_,λjD=>e2 (by simpa [bm] using jD)⟩
        simp only[aD,jm,it,Bool.or_self,Bool.false_eq_true,if_false]
        rw[wP,List.filterMap_append,kJ,kg,List.nil_append]
        exact e1
       | fst=>
        simp only[aD,h0,Bool.false_eq_true,if_false] at hp
        refine ⟨pl.H,pl.cs,?_,λ_=>rfl⟩
        simp only[aD,jm,it,Bool.or_self,Bool.false_eq_true,if_false]
        rw[iJ,List.filterMap_append,kf,kI,List.append_nil]
        exact l5 jC q a h1 zd hp
       | idx i=>simp[aD] at hp
       | hJ i=>simp[aD] at hp
   | idx i=>simp[ir] at h
   | hJ i=>simp[ir] at h
  | aa e=>
   cases s with
   | fst=>simp[ir] at h
   | snd=>simp[ir] at h
   | hJ i=>simp[ir] at h
   | idx i=>
    simp only[ir] at h
    split at h
    ·rename_i cy
     obtain ⟨h1,Y,h3⟩:=tF h
     cases hx:(v:List e.den)[i]? with
     | none=>rw[hx] at h1;cases h1
     | some x=>
      rw[hx] at h1
      simp only[Option.bind_some] at h1
      have hi:i < List.length v:=(List.getElem?_eq_some_iff.1 hx).1
      simp only[af,h3,Bool.false_eq_true,if_false,cy,if_true] at hr
      obtain ⟨a,cap,rfl,g2,g3,g4,g5⟩:=hr
      cases a with
      | none=>have:=g4 rfl;omega
      | some bT=>
       obtain ⟨q1,q2,q3,Fi,q4,q5⟩:=g5 bT rfl
       obtain ⟨L,hl,hL,cH⟩:=q5 i x hx
       have aB:∀ k,k < List.length v->∀ j,j < e.sz->k*e.sz+j < cap*e.sz:=λk hk j hj=>by
        have aB:(k+1)*e.sz<=cap*e.sz:=Nat.mul_le_mul_right _ (by omega)
        rw[Nat.add_mul] at aB;omega
       have AL:∀ k,k < cap*e.sz->bj bT.block 0 (cap*e.sz) bT.block k=1:=λk hk=>by simp[bj,hk]
       obtain ⟨t',m',H',v',aJ,aX,F',G,kk,loc,M⟩:=ih e h1 cH (λb k=>by have:=q4 b k;have:=hF b k;have:=a_ Fi hi b k;omega)
        (ad:=some (bT.block,i*e.sz)) (λb o hb=>by simp only[Option.some.injEq,Prod.mk.injEq] at hb;obtain ⟨rfl,rfl⟩:=hb;exact hL)
        (λb o hb j hj=>by
         simp only[Option.some.injEq,Prod.mk.injEq] at hb;obtain ⟨rfl,rfl⟩:=hb
         have:=q4 bT.block (i*e.sz+j);have:=hF bT.block (i*e.sz+j);have:=a_ Fi hi bT.block (i*e.sz+j)
         have:=AL _ (aB i hi j hj);omega)
       have sh:∀ b k,ao (List.length v) (bL Fi i G) b k+Fi i b k=ao (List.length v) Fi b k+G b k:=jP Fi hi G
       have qW:∀ b k,G b k<=ao (List.length v) (bL Fi i G) b k:=λb k=>by
        have:=a_ (bL Fi i G) hi b k;simpa [bL] using this
       refine ⟨t',m',H',v',aJ,aX,F',λb k=>bj bT.block 0 (cap*e.sz) b k+ao (List.length v) (bL Fi i G) b k,kk,none,M.run,λK0=>by simp only[fw];rw[sf h,hx];exact M.FR K0,?_,M.rep,λb k=>by have:=sh b k;have:=M.sum b k;have:=q4 b k;omega,M.has,(λoff ho=>by cases ho),(λ_=>rfl),?_,?_⟩
       ·simp only[aD,h3,Bool.false_eq_true,if_false,hi,if_true,q1,Nat.zero_add,bB hL hl];exact M.place
       ·intro _
        cases loc with
        | none=>
         obtain ⟨b',o,e1,e2⟩:=M.out rfl
         exact ⟨b',o,e1,λj hj=>⟨by have:=(e2 j hj).1;have:=qW b' (o+j);omega,(e2 j hj).2⟩⟩
        | some off=>
         obtain ⟨e1,e2,e3⟩:=M.kh off rfl
         refine ⟨bT.block,i*e.sz+off,e3,λj hj=>?_⟩
         have l6:=aB i hi (off+j) (by omega)
         rw[<-Nat.add_assoc] at l6
         exact ⟨by have:=AL _ l6;omega,q3.frozen l6⟩
       ·intro m2 H2 v2 hk w2 A2 be zb hb hA jC hG sg og gC
        obtain ⟨m3,H3,v3,F3,k1,k2,k3,k4⟩:=M.back m2 H2 v2 hk w2 A2 be zb hb hA jC (λb' i hp hn=>hG b' i (by have:=qW b' i;omega) hn) sg og
         (λb' i=>by have:=gC b' i;have:=qW b' i;omega)
        have oh:=af.length t' og
        have apart:∀ b' k,(∀ o,aX=some (b',o)->o<=k/\k < o+t'.sz->1<=Fi i b' k\/(b'=bT.block/\i*e.sz<=k/\k < i*e.sz+e.sz)):=λb' k o dY pJ=>by
         cases loc with
         | none=>
          obtain ⟨b0,o0,e1,e2⟩:=M.out rfl
          rw[e1] at dY
          simp only[Option.some.injEq,Prod.mk.injEq] at dY
          obtain ⟨rfl,rfl⟩:=dY
          have:=(e2 (k - o0) (by omega)).1
          rw[show o0+(k - o0)=k by omega] at this
          have:=M.sum b0 k
          left;omega
         | some off=>
          obtain ⟨e1,e2,e3⟩:=M.kh off rfl
          rw[e3] at dY
          simp only[ca,Option.map_some,Option.some.injEq,Prod.mk.injEq] at dY
          obtain ⟨rfl,rfl⟩:=dY
          exact .inr ⟨rfl,by omega,by omega⟩
        have zd:∀ j,j < List.length v->j≠i->∀ b' k,1<=Fi j b' k->∀ u,ce w b' k=some u->ce w2 b' k=some u:=λj hj fC b' k hp u hu=>by
         have h1:=a_ (bL Fi i G) hj b' k
         have e1:bL Fi i G j=Fi j:=by simp[bL,fC]
         rw[e1] at h1
         refine hG b' k (by omega) (λo dY pJ=>?_) u hu
         have Y:=q4 b' k;have h3:=hF b' k;have h4:=jQ Fi hj hi fC b' k
         rcases apart b' k o dY pJ with h | ⟨rfl,Qy,Jp⟩
         ·omega
         ·have:=AL (i*e.sz+(k - i*e.sz)) (aB i hi _ (by omega))
          rw[show i*e.sz+(k - i*e.sz)=k by omega] at this
          omega
        have cell:∀ j,j < List.length v->j≠i->∀ k,k < e.sz->∀ u,ce w bT.block (j*e.sz+k)=some u->ce w2 bT.block (j*e.sz+k)=some u:=λj hj fC k hk u hu=>by
         have oR:=AL _ (aB j hj k hk)
         refine hG _ _ (by omega) (λo dY pJ=>?_) u hu
         have Y:=q4 bT.block (j*e.sz+k);have h3:=hF bT.block (j*e.sz+k)
         rcases apart _ _ o dY pJ with h | ⟨_,Qy,Jp⟩
         ·have:=a_ Fi hi bT.block (j*e.sz+k);omega
         ·have ci:j < i\/i < j:=by omega
          rcases ci with si | si
          ·have:(j+1)*e.sz<=i*e.sz:=Nat.mul_le_mul_right _ si
           rw[Nat.add_mul] at this;omega
          ·have:(i+1)*e.sz<=j*e.sz:=Nat.mul_le_mul_right _ si
           rw[Nat.add_mul] at this;omega
        have LB:Has w2 bT.block (i*e.sz) (dW loc L t'.sz be):=by
         have oL:∀ j u,L[j]?=some u->(∀ off,loc=some off->¬ (off<=j/\j < off+t'.sz))->ce w2 bT.block (i*e.sz+j)=some u:=λj u hu hn=>by
          have hj:j < e.sz:=hl ▸ (List.getElem?_eq_some_iff.1 hu).1
          have oR:=AL _ (aB i hi j hj)
          refine hG _ _ (by omega) (λo dY pJ=>?_) u (hL j u hu)
          cases loc with
          | none=>
           obtain ⟨b0,o0,e1,e2⟩:=M.out rfl
           rw[e1] at dY
           simp only[Option.some.injEq,Prod.mk.injEq] at dY
           obtain ⟨rfl,rfl⟩:=dY
           have:=(e2 (i*e.sz+j - o0) (by omega)).1
           rw[show o0+(i*e.sz+j - o0)=i*e.sz+j by omega] at this
           have Y:=q4 bT.block (i*e.sz+j);have h3:=hF bT.block (i*e.sz+j);have:=qW bT.block (i*e.sz+j);have:=sh bT.block (i*e.sz+j);have:=M.sum bT.block (i*e.sz+j)
           have:=a_ Fi hi bT.block (i*e.sz+j)
           omega
          | some off=>
           obtain ⟨e1,e2,e3⟩:=M.kh off rfl
           rw[e3] at dY
           simp only[ca,Option.map_some,Option.some.injEq,Prod.mk.injEq] at dY
           obtain ⟨_,rfl⟩:=dY
           exact hn off rfl (by omega)
         cases loc with
         | none=>exact λj u hu=>oL j u hu (λoff ho=>by cases ho)
         | some off=>
          obtain ⟨e1,e2,e3⟩:=M.kh off rfl
          exact Db (by omega) oh (sg _ _ e3) (λj u hu hn=>oL j u hu (λLy ho=>by injection ho with ho;subst ho;exact hn))
        have Dd:(dW loc L t'.sz be).length=e.sz:=by
         cases loc with
         | none=>exact hl
         | some off=>have:=(M.kh off rfl).1;simp only[dW];rw[li (by omega) oh,hl]
        have pK:∀ (j:Nat) (y:e.den),(List.set v i v3)[j]?=some y->(j=i/\y=v3)\/(j≠i/\(v:List e.den)[j]?=some y):=λj y hy=>by
         rw[List.getElem?_set] at hy
         split at hy
         ·rename_i gB
          subst gB
          injection hy with hy
          exact .inl ⟨rfl,hy.symm⟩
         ·rename_i gB;exact .inr ⟨λh=>gB h.symm,hy⟩
        have others:∀ A3:Cells,(∀ b i,A2 b i->A3 b i)->∀ (j:Nat) (y:e.den),j≠i->(v:List e.den)[j]?=some y->∃ L:List Value,L.length=e.sz/\Has w2 bT.block (j*e.sz) L/\Has w bT.block (j*e.sz) L/\af P w A e m.e [] y L (Fi j)/\af P w2 A3 e m.e [] y L (Fi j):=λA3 iu j y fC hy=>by
         have hj:j < List.length v:=(List.getElem?_eq_some_iff.1 hy).1
         obtain ⟨Lj,wQ,Jq,FS⟩:=q5 j y hy
         rw[Y j fC] at FS
         exact ⟨Lj,wQ,λk u hu=>cell j hj fC k (wQ ▸ (List.getElem?_eq_some_iff.1 hu).1) u (Jq k u hu),Jq,FS,af.mono (λb' i ha=>iu b' i (hA b' i ha)) jC hb e FS (λ_ _=>Nat.le_refl _) (zd j hj fC)⟩
        have LC:∀ H4:List Path,hole H4=false->H4.filterMap (dy i)=H3->(∀ j,j≠i->H4.filterMap (dy j)=[])->∀ d full,iN d full w t' H' aJ aX w2 H2 be->iN (d+bm (.idx i::p)) full w (.aa e) H [.slice (some bT) (List.length v) cap] ad w2 H4 [.slice (some bT) (List.length v) cap]:=by
         intro H4 Oo Qz QA d full hd q pl hq hp
         cases q with
         | nil=>
          simp only[aD,Option.some.injEq] at hp;subst hp
          exact ⟨_,_,rfl,λ_=>rfl⟩
         | cons s q=>
          cases s with
          | fst=>simp[aD] at hp
          | snd=>simp[aD] at hp
          | hJ j=>simp[aD] at hp
          | idx j=>
           simp only[aD,h3,Bool.false_eq_true,if_false] at hp
           split at hp
           ·rename_i hj
            by_cases fC:j=i
            ·subst fC
             rw[q1,Nat.zero_add,bB hL hl] at hp
             obtain ⟨H5,LD,e1,e2⟩:=k4 d full hd q pl (by simp only[bm] at hq;omega) hp
             refine ⟨H5,LD,?_,λjD=>e2 (jD.imp (λh=>⟨by have:=h.1;simp only[bm] at this;omega,h.2⟩) id)⟩
             simp only[aD,Oo,Bool.false_eq_true,if_false,hj,if_true,q1,Nat.zero_add,bB LB Dd,Qz]
             exact e1
            ·obtain ⟨Lj,wQ,AM,Jq,FS,_⟩:=others A2 (λ_ _ h=>h) j _ fC (List.getElem?_eq_getElem hj)
             rw[q1,Nat.zero_add,bB Jq wQ,Y j fC] at hp
             refine ⟨pl.H,pl.cs,?_,λ_=>rfl⟩
             simp only[aD,Oo,Bool.false_eq_true,if_false,hj,if_true,q1,Nat.zero_add,bB AM wQ,QA j fC]
             exact l5 jC q e FS (zd j hj fC) hp
           ·cases hp
        simp only[dW]
        by_cases nt:m3=m.e
        ·rw[if_pos nt] at k1
         subst nt
         refine ⟨_,_,_,λb' k=>bj bT.block 0 (cap*e.sz) b' k+ao (List.length v) (bL Fi i F3) b' k,k1,λb' k=>?_,λA3 iu hM=>?_,LC _ (it _ _) (td _ _) (λj hj=>pF hj _)⟩
         ·have:=jP Fi hi F3 b' k;have:=sh b' k;have:=k2 b' k
          show bj bT.block 0 (cap*e.sz) b' k+ao (List.length v) (bL Fi i F3) b' k<=_
          omega
         ·simp only[af,it,Bool.false_eq_true,if_false,Md.own,if_true]
          refine ⟨some bT,cap,by simp,by simpa using g2,g3,(λhn=>by cases hn),λvn vV=>?_⟩
          injection vV with vV;subst vV
          refine ⟨q1,q2,hb _ _ q3,bL Fi i F3,λb' k=>by simp,λj y hy=>?_⟩
          rcases pK j y hy with ⟨rfl,rfl⟩ | ⟨fC,vo⟩
          ·refine ⟨_,Dd,LB,?_⟩
           rw[td]
           simp only[Md.e,bL,if_true]
           refine k3 A3 iu λb' k hp hz=>hM b' k ?_ ?_
           ·have:=qW b' k;omega
           ·have h5:=gC b' k;have h6:=jP Fi hi F3 b' k;have h7:=sh b' k;have:=qW b' k
            have h8:=q4 b' k;have h9:=M.sum b' k
            have:=k2 b' k
            show bj bT.block 0 (cap*e.sz) b' k+ao (List.length v) (bL Fi j F3) b' k=0
            omega
          ·obtain ⟨Lj,wQ,AM,_,_,H9⟩:=others A3 iu j y fC vo
           refine ⟨Lj,wQ,AM,?_⟩
           rw[pF fC]
           simp only[bL,if_neg fC]
           exact H9
        ·rw[if_neg nt] at k1
         split at k1
         ·rename_i tG
          have tG:H3=[]:=List.isEmpty_iff.1 tG
          refine ⟨_,_,_,λb' k=>bj bT.block 0 (cap*e.sz) b' k,k1,λb' k=>by show bj bT.block 0 (cap*e.sz) b' k<=_;omega,λA3 iu hM=>?_,LC _ rfl (by rw[tG];rfl) (λj hj=>rfl)⟩
          simp only[af,hole,List.any_nil,Bool.false_eq_true,if_false,Md.own,if_true]
          refine ⟨some bT,cap,by simp,by simpa using g2,g3,(λhn=>by cases hn),λvn vV=>?_⟩
          injection vV with vV;subst vV
          refine ⟨q1,q2,hb _ _ q3,λ_ _ _=>0,λb' k=>by rw[eF];simp,λj y hy=>?_⟩
          have fz:∀ b' k,1<=zb b' k+(bj bT.block 0 (cap*e.sz) b' k+ao (List.length v) (bL Fi i G) b' k)->bj bT.block 0 (cap*e.sz) b' k=0->A3 b' k:=hM
          rcases pK j y hy with ⟨rfl,rfl⟩ | ⟨fC,vo⟩
          ·refine ⟨_,Dd,LB,?_⟩
           have FT:=k3 A3 iu λb' k hp hz=>fz b' k (by have:=qW b' k;omega) (by
            have h5:=gC b' k;have:=qW b' k;omega)
           rw[tG] at FT
           refine Ro.rep e _ (bS e) (af.my (λ_ _ h=>h) e FT λb' k hp=>fz b' k ?_ ?_)
           ·have:=k2 b' k;have:=qW b' k;omega
           ·have h5:=gC b' k;have:=qW b' k;have:=k2 b' k;omega
          ·obtain ⟨Lj,wQ,AM,_,_,H9⟩:=others A3 iu j y fC vo
           have hj:j < List.length v:=(List.getElem?_eq_some_iff.1 vo).1
           refine ⟨Lj,wQ,AM,Ro.rep e _ (bS e) (af.my (λ_ _ h=>h) e H9 λb' k hp=>?_)⟩
           have h1:=a_ (bL Fi i G) hj b' k
           have e1:bL Fi i G j=Fi j:=by simp[bL,fC]
           rw[e1] at h1
           have h5:=gC b' k
           exact fz b' k (by omega) (by omega)
         ·cases k1
    ·cases h
  | arr n e=>
   cases s with
   | fst=>simp[ir] at h
   | snd=>simp[ir] at h
   | idx i=>simp[ir] at h
   | hJ i=>
    obtain ⟨rfl,hf,hl,hlen,hr⟩:=hr
    simp only[ir,List.isEmpty_nil,if_true] at h
    cases hx:(v:List e.den)[i]? with
    | none=>rw[hx] at h;cases h
    | some x=>
     rw[hx] at h
     simp only[Option.bind_some] at h
     have hi:i < n:=hl ▸ (List.getElem?_eq_some_iff.1 hx).1
     have cI:∀ j,j < n->j*e.sz+e.sz<=cs.length:=λj hj=>by
      have:(j+1)*e.sz<=n*e.sz:=Nat.mul_le_mul_right _ hj
      rw[Nat.add_mul] at this;omega
     have iK:∀ j,j < n->((cs.drop (j*e.sz)).take e.sz).length=e.sz:=λj hj=>by have:=cI j hj;simp;omega
     obtain ⟨t',m',H',v',aJ,aX,F',G,kk,loc,M⟩:=ih e h (Ro.flat e (λ_ _=>0) hf (hr i x hx)) (λ_ _=>Nat.zero_le _) (ad:=ca ad (i*e.sz)) (λb' o hb j u hu=>by
      cases ad with
      | none=>cases hb
      | some y=>
       simp only[ca,Option.map_some,Option.some.injEq,Prod.mk.injEq] at hb
       obtain ⟨rfl,rfl⟩:=hb
       rw[List.getElem?_take] at hu
       split at hu
       ·rw[List.getElem?_drop] at hu
        have:=di y.1 y.2 rfl _ u hu
        rwa [Nat.add_assoc]
       ·cases hu) (λ_ _ _ _ _=>rfl)
     have De:∀ b k,G b k=0:=λb k=>by have:=M.sum b k;omega
     have vp:∀ b k,F' b k=0:=λb k=>by have:=M.sum b k;omega
     have wR:∀ h:loc=none,t'.sz=0:=λh=>by
      obtain ⟨b',o,e1,e2⟩:=M.out h
      rcases Nat.eq_zero_or_pos t'.sz with h0 | h0
      ·exact h0
      ·have:=(e2 0 h0).1;rw[De] at this;omega
     refine ⟨t',m',H',v',aJ,aX,F',F,kk,loc.map (i*e.sz+·),M.run,λK0=>by simp only[fw,List.isEmpty_nil,if_true,hx,Option.bind_some];exact M.FR K0,by simp only[aD,List.isEmpty_nil,if_true,hi];exact M.place,M.rep,λb k=>by rw[vp];omega,M.has,?_,(λh=>by rw[M.Ec (by simpa [bm] using h)];rfl),?_,?_⟩
     ·intro Ly ho
      obtain ⟨off,LA,rfl⟩:=Option.map_eq_some_iff.1 ho
      obtain ⟨q1,q2,q3⟩:=M.kh off LA
      have:=cI i hi
      refine ⟨by simp only[Ty.sz];omega,?_,by rw[q3];cases ad <;> simp[ca,Nat.add_assoc]⟩
      rw[q2,List.drop_take,List.take_take,List.drop_drop]
      congr 1;omega
     ·intro ho
      obtain ⟨b',o,q1,q2⟩:=M.out (by simpa using ho)
      have:=wR (by simpa using ho)
      exact ⟨b',o,q1,λj hj=>by omega⟩
     ·intro m2 H2 v2 hk w2 A2 be zb hb hA jC hG sg og gC
      obtain ⟨m3,H3,v3,F3,k1,k2,k3,k4⟩:=M.back m2 H2 v2 hk w2 A2 be zb hb hA jC (λb' i hp hn=>by rw[De] at hp;omega) sg og (λb' i=>by have:=gC b' i;rw[De];omega)
      have oh:=af.length t' og
      split at k1
      ·rename_i tG
       have tG:H3=[]:=List.isEmpty_iff.1 tG
       have fM:dW (loc.map (i*e.sz+·)) cs t'.sz be=pG cs (i*e.sz) e.sz (dW loc ((cs.drop (i*e.sz)).take e.sz) t'.sz be):=by
        cases loc with
        | none=>simp only[dW,Option.map_none];exact (pH (cI i hi)).symm
        | some off=>
         have:=(M.kh off rfl).1
         exact (KA this (cI i hi) oh).symm
       have kK:(dW loc ((cs.drop (i*e.sz)).take e.sz) t'.sz be).length=e.sz:=by
        cases loc with
        | none=>exact iK i hi
        | some off=>have:=(M.kh off rfl).1;simp only[dW];rw[li (by rw[iK i hi];omega) oh,iK i hi]
       have Ed:∀ j,j < n->((dW (loc.map (i*e.sz+·)) cs t'.sz be).drop (j*e.sz)).take e.sz=if j=i then dW loc ((cs.drop (i*e.sz)).take e.sz) t'.sz be else (cs.drop (j*e.sz)).take e.sz:=λj hj=>by
        rw[fM]
        apply List.ext_getElem?
        intro k
        rw[List.getElem?_take]
        split
        ·rename_i hk
         rw[List.getElem?_drop,rC (cI i hi) kK]
         by_cases fC:j=i
         ·subst fC
          rw[if_pos (by omega),if_pos rfl];congr 1;omega
         ·rw[if_neg fC,List.getElem?_take,if_pos hk,List.getElem?_drop,if_neg]
          have ci:j < i\/i < j:=by omega
          rcases ci with si | si
          ·have:(j+1)*e.sz<=i*e.sz:=Nat.mul_le_mul_right _ si
           rw[Nat.add_mul] at this;omega
          ·have:(i+1)*e.sz<=j*e.sz:=Nat.mul_le_mul_right _ si
           rw[Nat.add_mul] at this;omega
        ·rename_i hk
         by_cases fC:j=i
         ·rw[if_pos fC,List.getElem?_eq_none (by omega)]
         ·rw[if_neg fC,List.getElem?_eq_none (by rw[iK j hj];omega)]
       have oV:∀ d full,iN d full w t' H' aJ aX w2 H2 be->full->dW (loc.map (i*e.sz+·)) cs t'.sz be=cs:=λd full hd mA=>by
        obtain ⟨H5,c5,e1,e2⟩:=hd [] ⟨t',H',aJ,aX⟩ (Nat.zero_le _) rfl
        simp only[aD,Option.some.injEq,Pl.mk.injEq] at e1
        have e3:be=aJ:=e1.2.2.1.trans (e2 (.inr mA))
        cases loc with
        | none=>rfl
        | some off=>
         have:=M.kh off rfl
         have:=cI i hi
         rw[e3,(M.kh off rfl).2.1,List.drop_take,List.take_take,show min t'.sz (e.sz - off)=t'.sz by omega,List.drop_drop]
         exact pH (show i*e.sz+off+t'.sz<=cs.length by omega)
       have NG:(dW (loc.map (i*e.sz+·)) cs t'.sz be).length=n*e.sz:=by rw[fM,li (cI i hi) kK,hlen]
       refine ⟨_,_,_,λb' k=>F3 b' k+F b' k,k1,λb' k=>by have:=k2 b' k;have:=De b' k;show F3 b' k+F b' k<=_;omega,λA3 iu hM=>?_,λd full hd=>?_⟩
       ·refine ⟨rfl,hf,by simpa using hl,NG,λj y hy=>?_⟩
        have hj:j < n:=by have:=(List.getElem?_eq_some_iff.1 hy).1;rw[List.length_set] at this;omega
        rw[Ed j hj]
        rw[List.getElem?_set] at hy
        split at hy
        ·rename_i gB
         subst gB
         have hy:some v3=some y:=by
          split at hy
          ·exact hy
          ·cases hy
         injection hy with hy
         rw[if_pos rfl,<- hy]
         exact af.flat e hf (k3 A3 iu λb' k hp hz=>hM b' k (by have:=De b' k;omega) (by have:=gC b' k;have:=De b' k;show F3 b' k+F b' k=0;omega))
        ·rename_i gB
         rw[if_neg (λh=>gB h.symm)]
         exact Ro.mono jC (λb' k ha=>iu b' k (hA b' k ha)) e (hr j y hy)
       ·intro q pl hq hp
        cases q with
        | nil=>
         simp only[aD,Option.some.injEq] at hp;subst hp
         refine ⟨_,_,rfl,λh=>?_⟩
         rcases h with ⟨_,hs⟩ | mA
         ·simp[mz] at hs
         ·exact oV d full hd mA
        | cons s q=>
         cases s with
         | fst=>simp[aD] at hp
         | snd=>simp[aD] at hp
         | idx j=>simp[aD] at hp
         | hJ j=>
          simp only[aD,List.isEmpty_nil,if_true] at hp
          split at hp
          ·rename_i hj
           by_cases fC:j=i
           ·subst fC
            obtain ⟨H5,LD,e1,e2⟩:=k4 d full hd q pl (by simp only[bm] at hq;omega) hp
            refine ⟨H5,LD,?_,λjD=>e2 (jD.imp (λh=>⟨by have:=h.1;simp only[bm] at this;omega,h.2⟩) id)⟩
            simp only[aD,List.isEmpty_nil,if_true,hj]
            rw[Ed j hj,if_pos rfl]
            rw[tG] at e1
            exact e1
           ·refine ⟨pl.H,pl.cs,?_,λ_=>rfl⟩
            simp only[aD,List.isEmpty_nil,if_true,hj]
            rw[Ed j hj,if_neg fC]
            exact l5 jC q e (Ro.flat e (m:=.leaf) (λ_ _=>0) hf (hr j _ (List.getElem?_eq_getElem (by rw[hl];exact hj)))) (λb k hp=>by simp at hp) hp
          ·cases hp
      ·cases k1
  | _=>cases s <;> simp[ir] at h
end
end OT
set_option linter.unusedVariables false
set_option linter.unusedSimpArgs false
namespace OT
open Go
def tmp (a:Act) (i:Nat):Value:=a.tmps.getD i undef
section
variable {P:Program} {w:World} {A:Cells}
theorem Ro.one:∀ (t:Ty) {v:t.den} {cs:List Value},Ro P w A t v cs->∀ x ∈ cs,x.oneCell'=true:=by
 intro t
 induction t with
 | pair a b eG et=>
  intro v cs h x hx
  rw[<-List.take_append_drop a.sz cs] at hx
  rcases List.mem_append.1 hx with hx | hx
  ·exact eG h.1 x hx
  ·exact et h.2 x hx
 | arr n e ih=>
  intro v cs h x hx
  obtain ⟨hf,hl,hlen,hr⟩:=h
  obtain ⟨k,hk,rfl⟩:=List.mem_iff_getElem.1 hx
  rw[hlen] at hk
  have fi:0 < e.sz:=by
   grind
  have hi:k / e.sz < n:=(Nat.div_lt_iff_lt_mul fi).2 hk
  refine ih (hr (k / e.sz) _ (List.getElem?_eq_getElem (by grind))) _ ?_
  rw[List.mem_iff_getElem?]
  refine ⟨k % e.sz,?_⟩
  grind [Nat.mod_lt,Nat.div_add_mod]
 | aa e ih=>rintro v cs ⟨a,cap,rfl,_⟩ x hx;simp at hx;subst hx;rfl
 | ptr e ih=>rintro v cs ⟨a,rfl,_⟩ x hx;simp at hx;subst hx;rfl
 | fn=>rintro v cs ⟨a,rfl,_⟩ x hx;simp at hx;subst hx;rfl
 | map k v=>rintro v cs ⟨_,_,r,ke,rfl,_⟩ x hx;simp at hx;subst hx;rfl
 | unit=>grind [Ro]
 | _=>intro v cs h x hx;simp only[Ro] at h;subst h;simp at hx;subst hx;rfl
theorem af.one:∀ (t:Ty) {m:Md} {H:List Path} {v:t.den} {cs:List Value} {F:FP},af P w A t m H v cs F->∀ x ∈ cs,x.oneCell'=true:=by
 intro t
 induction t with
 | pair a b eG et=>
  intro m H v cs F h x hx
  obtain ⟨_,F1,F2,_,h1,Y⟩:=h
  grind [List.take_append_drop]
 | aa e ih=>
  intro m H v cs F h x hx
  simp only[af] at h
  split at h
  ·grind
  ·split at h
   ·obtain ⟨a,cap,rfl,_⟩:=h;simp at hx;subst hx;rfl
   grind [Ro.one]
 | ptr e ih=>
  intro m H v cs F h x hx
  simp only[af] at h
  split at h
  ·grind
  ·split at h
   ·obtain ⟨a,rfl,_⟩:=h;simp at hx;subst hx;rfl
   grind [Ro.one]
 | arr n e ih=>intro m H v cs F h;exact Ro.one _ h.2
 | map k v=>
  intro m H v cs F h x hx
  simp only[af] at h
  split at h
  ·grind
  ·split at h
   ·obtain ⟨_,_,r,ke,rfl,_⟩:=h;simp at hx;subst hx;rfl
   grind [Ro.one]
 | _=>intro m H v cs F h;exact Ro.one _ h
end
theorem dz {t:Ty} {cs:List Value} (hl:cs.length=t.sz) (h1:∀ x ∈ cs,x.oneCell'=true):(aZ t cs).cells.toList=cs:=by
 unfold aZ
 split
 ·simp[Value.cells]
 ·rename_i h
  have:t.sz=1:=by cases t <;> simp_all [isAgg,Ty.sz]
  match cs,hl with
  | [x],_=>
   have:=h1 x (by simp)
   cases x <;> simp_all [Value.cells,Value.oneCell']
  | [],hl=>grind
  | _::_::_,hl=>grind
def Below (snap v:List Nat):Prop:=∀ (j x:Nat),snap[j]?=some x->∃ y,v[j]?=some y/\x<=y
theorem vW:∀ (s v:List Nat),preB s v=true↔∀ (j x:Nat),s[j]?=some x->v[j]?=some x
 | [],v=>by simp[preB]
 | a::s,[]=>by
  simp only[preB,Bool.false_eq_true,false_iff]
  intro h
  have:=h 0 a rfl
  cases this
 | a::s,b::v=>by
  simp only[preB,Bool.and_eq_true,Nat.beq_eq,vW s v]
  constructor
  ·grind
  ·intro h
   refine ⟨by have:=h 0 a rfl;simpa using this.symm,λj x hj=>h (j+1) x hj⟩
theorem uS {s v v':List Nat} (hs:Below s v) (hv:Below v v') (h:preB s v'=true):preB s v=true/\∀ (j:Nat),j < s.length->v[j]?=v'[j]?:=by
 have key:∀ (j x:Nat),s[j]?=some x->v[j]?=some x/\v'[j]?=some x:=λj x hj=>by
  obtain ⟨y,hy,tH⟩:=hs j x hj
  obtain ⟨z,hz,QB⟩:=hv j y hy
  grind [vW]
 grind [vW]
theorem Below.trans {s v v':List Nat} (h1:Below s v) (Y:Below v v'):Below s v':=λj x hj=>by
 obtain ⟨y,hy,tH⟩:=h1 j x hj
 obtain ⟨z,hz,QB⟩:=Y j y hy
 grind
theorem Below.refl (s:List Nat):Below s s:=λj x hj=>⟨x,hj,Nat.le_refl _⟩
def bk (w:World) (tv:Value):Slot->Option Pl
 | .own t _ H _=>some ⟨t,H,tv.cells.toList,none⟩
 | .box t _ H _=>match tv with
  | .pointer (some a)=>some ⟨t,H,rd w a.block a.off t.sz,some (a.block,a.off)⟩
  | _=>none
 | _=>none
def place (σ:St) (a:Act) (w:World) (r:Nat) (p:Path):Option Pl:=
 (bk w (tmp a r) (σ.get r)).bind λR=>aD w p R.t R.H R.cs R.ad
def iv (σ:St) (a:Act) (w:World) (tv:Value) (r:Nat) (p:Path) (snap:List Nat):Prop:=
 Below snap (σ.dJ r)/\(σ.ok r snap=true->∃ pl,place σ a w r p=some pl/\tv=aZ pl.t pl.cs/\((mz pl.t=true/\snap.length=min 5 (2+bm p))\/snap.length=5))
def rD (σ:St) (a:Act) (w:World) (tv:Value) (r:Nat) (p:Path) (snap:List Nat):Prop:=
 Below snap (σ.dJ r)/\(σ.ok r snap=true->∃ pl b o,place σ a w r p=some pl/\pl.ad=some (b,o)/\tv=.pointer (some ⟨b,o,none⟩)/\snap.length=min 5 (1+bm p))
def tI (σ:St) (a:Act) (w:World) (tv:Value) (r:Nat) (p:Path) (snap:List Nat) (lo hi:Nat):Prop:=
 Below snap (σ.dJ r)/\(σ.ok r snap=true->∃ pl e x n cap x' cap',place σ a w r p=some pl/\pl.t=.aa e/\pl.cs=[.slice x n cap]/\lo<=hi/\hi<=n/\tv=.slice x' (hi - lo) cap'/\cap'+lo=cap/\(lo=0->x'=x) /\
  (x=none->x'=none)/\(∀ ad,x=some ad->∃ aX,x'=some aX/\aX.spot=ad.spot/\aX.block=ad.block/\(lo < hi->aX.off=ad.off+lo*e.sz))/\(snap.length=min 5 (2+bm p)\/snap.length=5))
section
variable (P:Program) (A:Cells)
def LE (w:World) (x:wG) (tv:Value) (F:FP):Prop:=x.t=.unit\/∃ cs,tv=aZ x.t cs/\af P w A x.t x.m [] x.v cs F
def aV (σ:St) (a:Act) (w:World) (tv:Value):Slot->FP->Prop
 | .dead,_=>True
 | .mn,_=>tv=.slice none 0 0
 | .val t v,_=>∃ cs,tv=aZ t cs/\Ro P w A t v cs
 | .cp t v,_=>Ro P w A (.ptr t) v [tv]
 | .own t m H v,F=>∃ cs,tv=aZ t cs/\af P w A t m H v cs F
 | .box t m H v,F=>∃ b o L F1,tv=.pointer (some ⟨b,o,none⟩)/\L.length=t.sz/\Has w b o L/\(∀ j,j < t.sz->w.frozen? ⟨b,o+j,none⟩=false) /\
   (∀ x i,bj b o t.sz x i+F1 x i<=F x i)/\af P w A t m H v L F1
 | .ref r p snap,_=>iv σ a w tv r p snap
 | .ptr r p snap,_=>rD σ a w tv r p snap
 | .sub r p snap lo hi,_=>tI σ a w tv r p snap lo hi
 | .iI xs,F=>∃ (vs:Array Value) (Fi:Nat->FP),tv=.tuple vs/\(∀ b i,ao xs.length Fi b i<=F b i)/\∀ j x,xs[j]?=some x->∃ v,vs[j]?=some v/\LE P A w x v (Fi j)
end
structure Ext (w w':World) (F:FP):Prop where
 size:w.heap.size<=w'.heap.size
 cell:∀ b i,b < w.heap.size->F b i=0->∀ u,ce w b i=some u->ce w' b i=some u
 lY:∀ b n,cr w b n->cr w' b n
 oM:∀ b i,b < w.heap.size->w'.frozen? ⟨b,i,none⟩=w.frozen? ⟨b,i,none⟩
 os:w'.os=w.os
 tape:w'.tape=w.tape
 output:w'.output=w.output
 obj:∀ b,b < w.heap.size->(∀ i,F b i=0)->w'.heap[b]?=w.heap[b]?
 drawn:w.drawn<=w'.drawn
def FU (P:Program):Bool:=(P.globalNamed "internal/strconv.uint64pow10").isSome||(P.globalNamed "internal/bytealg.MaxLen").isSome
def oW (P:Program) (w:World) (F0:FP):Prop:=FU P=true->(∃ w0:World,(w0.ShapedOpen P/\((P.globalNamed "internal/strconv.uint64pow10").isSome=true->Go.Lib.TabIs P w0 "internal/strconv.uint64pow10" .u64 Go.Lib.pow10Tab))/\∀ b,b < P.globals.size->w.heap[b]?=w0.heap[b]?) /\
 P.globals.size<=w.heap.size/\∀ b i,b < P.globals.size->F0 b i=0
theorem NH {P:Program} {w:World} {F0:FP} (h:FU P=false):oW P w F0:=λe=>by grind
theorem oW.ext {P:Program} {w w':World} {F0 G:FP} (h:oW P w F0) (he:Ext w w' F0) (hG:∀ b i,1<=G b i->1<=F0 b i\/w.heap.size<=b):oW P w' G:=λe=>by
 obtain ⟨⟨w0,g,hw⟩,hs,hf⟩:=h e
 refine ⟨⟨w0,g,λb hb=>?_⟩,Nat.le_trans hs he.size,λb i hb=>?_⟩
 ·rw[he.obj b (by omega) (λi=>hf b i hb)];exact hw b hb
 grind
structure Ctx where
 w0:World
 A0:Cells
 F0:FP
 args:Array Value
structure Rel (P:Program) (C:Ctx) (A:Cells) (X:FP) (σ:St) (a:Act) (w:World) (F:Nat->FP):Prop where
 size:a.tmps.size=σ.n
 defers:a.defers=[]
 cj:∀ i,i < σ.n->aV P A σ a w (tmp a i) (σ.get i) (F i)
 gh:∀ d r p snap,(d,r,p,snap) ∈ σ.gh->iv σ a w (tmp a d) r p snap
 f5:∀ b i,X b i+ao σ.n F b i<=1
 gD:∀ b i,1<=X b i+ao σ.n F b i->¬ A b i
 dA:∀ b i,1<=X b i+ao σ.n F b i\/A b i->b < w.heap.size
 eg:∀ i,(σ.dJ i).length=5
 ext:Ext C.w0 w C.F0
 own:∀ b i,1<=X b i+ao σ.n F b i->1<=C.F0 b i\/C.w0.heap.size<=b
 a0:∀ b i,C.A0 b i->A b i
 J:∀ b i,A b i->C.A0 b i\/1<=C.F0 b i\/C.w0.heap.size<=b
 fH:∀ j k,(j,k,false) ∈ σ.aA->tmp a j=C.args.getD k undef
 whole:∀ r t m H v,σ.get r=.box t m H v->(∀ k,(r,k,false) ∉ σ.aA)->∃ b,tmp a r=.pointer (some ⟨b,0,none⟩)/\cr w b (t.sz,false)
 e7:∀ j k,(j,k,true) ∈ σ.aA->∀ R,bk w (tmp a j) (σ.get j)=some R->aZ R.t R.cs=C.args.getD k undef
 mB:oW P C.w0 C.F0
theorem Rel.sj {P:Program} {C:Ctx} {A:Cells} {X:FP} {σ:St} {a:Act} {w:World} {F:Nat->FP} (h:Rel P C A X σ a w F) {G:FP} (hG:∀ b i,1<=G b i->1<=X b i+ao σ.n F b i):oW P w G:=
 h.mB.ext h.ext λb i hp=>h.own b i (hG b i hp)
def nz (σ:St) (a:Act) (w:World) (σ':St) (a':Act) (w':World):Prop:=
 ∀ r p snap,Below snap (σ.dJ r)->Below snap (σ'.dJ r)/\(σ'.ok r snap=true->σ.ok r snap=true /\
  (snap.length=min 5 (1+bm p)\/snap.length=min 5 (2+bm p)\/snap.length=5->∀ pl,place σ a w r p=some pl->∃ H' aJ,place σ' a' w' r p=some ⟨pl.t,H',aJ,pl.ad⟩ /\
   ((mz pl.t=true/\snap.length=min 5 (2+bm p))\/snap.length=5->aJ=pl.cs)))
section
variable {P:Program} {A A':Cells} {σ σ':St} {a a':Act} {w w':World} {tv:Value} {F:FP}
theorem iv.eL (hp:nz σ a w σ' a' w') {r:Nat} {p:Path} {snap:List Nat} (h:iv σ a w tv r p snap):iv σ' a' w' tv r p snap:=by
 obtain ⟨h1,Y⟩:=h
 obtain ⟨h3,h4⟩:=hp r p snap h1
 refine ⟨h3,λap=>?_⟩
 grind
theorem rD.eL (hp:nz σ a w σ' a' w') {r:Nat} {p:Path} {snap:List Nat} (h:rD σ a w tv r p snap):rD σ' a' w' tv r p snap:=by
 obtain ⟨h1,Y⟩:=h
 obtain ⟨h3,h4⟩:=hp r p snap h1
 refine ⟨h3,λap=>?_⟩
 grind
theorem tI.eL (hp:nz σ a w σ' a' w') {r:Nat} {p:Path} {snap:List Nat} {lo hi:Nat} (h:tI σ a w tv r p snap lo hi):tI σ' a' w' tv r p snap lo hi:=by
 obtain ⟨h1,Y⟩:=h
 obtain ⟨h3,h4⟩:=hp r p snap h1
 refine ⟨h3,λap=>?_⟩
 grind [mz]
theorem aV.eL (hp:nz σ a w σ' a' w') (hA:∀ b i,A b i->A' b i) (hc:∀ b i,A b i->∀ u,ce w b i=some u->ce w' b i=some u) (hb:∀ b n,cr w b n->cr w' b n)
  (hF:∀ b i,1<=F b i->(∀ u,ce w b i=some u->ce w' b i=some u)/\w'.frozen? ⟨b,i,none⟩=w.frozen? ⟨b,i,none⟩) {s:Slot} (h:aV P A σ a w tv s F):aV P A' σ' a' w' tv s F:=by
 cases s with
 | dead=>trivial
 | mn=>exact h
 | val t v=>obtain ⟨cs,h1,Y⟩:=h;exact ⟨cs,h1,Ro.mono hc hA t Y⟩
 | cp t v=>exact Ro.mono hc hA (.ptr t) h
 | own t m H v=>obtain ⟨cs,h1,Y⟩:=h;exact ⟨cs,h1,af.mono hA hc hb t Y (λ_ _=>Nat.le_refl _) (λb i hp=>(hF b i hp).1)⟩
 | box t m H v=>
  obtain ⟨b,o,L,F1,h1,Y,h3,h4,h5,h6⟩:=h
  have hr:∀ j,j < t.sz->1<=F b (o+j):=λj hj=>by
   grind [bj]
  exact ⟨b,o,L,F1,h1,Y,λj u hu=>(hF _ _ (hr j (Y ▸ (List.getElem?_eq_some_iff.1 hu).1))).1 u (h3 j u hu),λj hj=>by grind,h5,
   af.mono hA hc hb t h6 (λ_ _=>Nat.le_refl _) (λb i hp=>(hF b i (by grind)).1)⟩
 | ref r p snap=>exact iv.eL hp h
 | ptr r p snap=>exact rD.eL hp h
 | sub r p snap lo hi=>exact tI.eL hp h
 | iI xs=>
  obtain ⟨vs,Fi,h1,Y,h3⟩:=h
  refine ⟨vs,Fi,h1,Y,λj x hx=>?_⟩
  obtain ⟨v,h4,h5⟩:=h3 j x hx
  refine ⟨v,h4,h5.imp id λ⟨cs,h6,h7⟩=>⟨cs,h6,af.mono hA hc hb x.t h7 (λ_ _=>Nat.le_refl _) (λb i hp=>(hF b i ?_).1)⟩⟩
  grind [a_]
end
end OT
set_option linter.unusedVariables false
set_option linter.unusedSimpArgs false
namespace OT
open Go
theorem oX {α:Type} (k:Nat) (x:α) (l:List (Nat×α)) (i:Nat):fd ((k,x)::l) i=if k=i then some x else fd l i:=by
 simp_all [fd]
theorem nA (σ:St) (d:Nat) (s:Slot) (i:Nat):(σ.put d s).get i=if d=i/\i < σ.n then s else σ.get i:=by
 grind [St.get,St.put,oX,Nat.blt_eq]
theorem uT (σ:St) (d:Nat) (s:Slot) (i:Nat):(σ.y8 d s).get i=if d=i/\i < σ.n then s else σ.get i:=by
 grind [St.get,St.y8,oX,Nat.blt_eq]
theorem pu (σ:St) (d:Nat) (s:Slot) (i:Nat):(σ.put d s).dJ i=if d=i then jk (σ.dJ d) else σ.dJ i:=by
 grind [St.dJ,St.put,oX]
theorem h_ (σ:St) (d:Nat) (f:List Nat->List Nat) (i:Nat):(σ.eI d f).dJ i=if d=i then f (σ.dJ d) else σ.dJ i:=by
 grind [St.dJ,St.eI,oX]
theorem oY {l:List (Nat×Nat×Bool)} {d:Nat} {e:Nat×Nat×Bool} (h:e ∈ pz l d):e ∈ l/\e.1≠d:=by
 induction l with
 | nil=>cases h
 | cons x l ih=>
  obtain ⟨k,b⟩:=x
  simp only[pz] at h
  split at h
  ·grind
  ·rename_i hk
   rcases List.mem_cons.1 h with rfl | h
   all_goals simp_all
theorem wS {l:List (Nat×Nat×Bool)} {d:Nat} {e:Nat×Nat×Bool} (h:e ∈ l) (hd:e.1≠d):e ∈ pz l d:=by
 induction l with
 | nil=>cases h
 | cons x l ih=>
  obtain ⟨k,b⟩:=x
  simp only[pz]
  rcases List.mem_cons.1 h with rfl | h
  ·simp_all
  grind
theorem Ee {l:List (Nat×Nat×Bool)} {d j k:Nat} (h:(j,k,false) ∈ l):(j,k,false) ∈ pA l d:=by
 induction l <;> grind [pA]
theorem wT {l:List (Nat×Nat×Bool)} {d:Nat} {e:Nat×Nat×Bool} (h:e ∈ pA l d):e ∈ l/\¬ (e.1=d/\e.2.2=true):=by
 induction l with
 | nil=>cases h
 | cons x l ih=>
  obtain ⟨k,n,b⟩:=x
  simp only[pA] at h
  split at h
  ·grind
  ·rename_i hk
   rcases List.mem_cons.1 h with rfl | h
   all_goals simp_all
theorem AN {l:List (Nat×Nat×Path×List Nat)} {d:Nat} {e:Nat×Nat×Path×List Nat} (h:e ∈ Ar l d):e ∈ l/\e.1≠d:=by
 induction l with
 | nil=>cases h
 | cons x l ih=>
  obtain ⟨k,b⟩:=x
  simp only[Ar] at h
  split at h
  ·grind
  ·rename_i hk
   rcases List.mem_cons.1 h with rfl | h
   all_goals simp_all
theorem jE (v:List Nat):Below v (jk v):=λj x hj=>⟨x+1,by simp[jk,hj],by omega⟩
theorem tJ {v:List Nat} (h:v.length=5):∃ b x y z w,v=[b,x,y,z,w]:=by
 match v,h with
 | [b,x,y,z,w],_=>grind
theorem FV {b x y z w b' x' y' z' w':Nat} (h0:b<=b') (h1:x<=x') (Y:y<=y') (h3:z<=z') (h4:w<=w'):Below [b,x,y,z,w] [b',x',y',z',w']:=by
 intro j n hj
 grind
theorem kL (d:Nat) {v:List Nat} (h:v.length=5):Below v (kb d v):=by
 obtain ⟨b,x,y,z,w,rfl⟩:=tJ h
 match d with
 | 0 | 1 | 2 | n+3=>exact FV (by omega) (by omega) (by omega) (by omega) (by omega)
theorem nM {v:List Nat} (h:v.length=5):Below v (mp v):=by
 obtain ⟨b,x,y,z,w,rfl⟩:=tJ h
 exact FV (by omega) (by omega) (by omega) (by omega) (by omega)
theorem tK {v:List Nat}:(jk v).length=v.length:=by simp[jk]
theorem sk (d:Nat) {v:List Nat} (h:v.length=5):(kb d v).length=5:=by
 obtain ⟨b,x,y,z,w,rfl⟩:=tJ h
 match d with
 | 0 | 1 | 2 | n+3=>rfl
theorem tL {v:List Nat} (h:v.length=5):(mp v).length=5:=by
 obtain ⟨b,x,y,z,w,rfl⟩:=tJ h
 rfl
theorem wU {s v v':List Nat} (hs:Below s v) (hv:Below v v') (h:preB s v'=true) {j:Nat} (hj:v[j]?≠v'[j]?):s.length<=j:=by
 rcases Nat.lt_or_ge j s.length with h' | h'
 ·exact absurd ((uS hs hv h).2 j h') hj
 ·exact h'
theorem vq {s v:List Nat} (hl:v.length=5) (hs:Below s v) (h:preB s (jk v)=true):s.length=0:=by
 obtain ⟨b,x,y,z,w,rfl⟩:=tJ hl
 have:=wU hs (jE _) h (j:=0) (by simp[jk])
 omega
theorem tM {s v:List Nat} (d:Nat) (hl:v.length=5) (hs:Below s v) (h:preB s (kb d v)=true):s.length<=min 4 (1+d):=by
 have h4:s.length<=4:=by
  refine wU hs (kL d hl) h ?_
  obtain ⟨b,x,y,z,w,rfl⟩:=tJ hl
  match d with
  | 0 | 1 | 2 | n+3=>simp[kb]
 have hd:s.length<=1+d:=by
  rcases Nat.lt_or_ge d 3 with hd | hd
  ·refine wU hs (kL d hl) h ?_
   obtain ⟨b,x,y,z,w,rfl⟩:=tJ hl
   match d,hd with
   | 0,_ | 1,_ | 2,_=>simp[kb]
  ·omega
 omega
theorem vX {s v:List Nat} (hl:v.length=5) (hs:Below s v) (h:preB s (mp v)=true):s.length<=4:=by
 refine wU hs (nM hl) h ?_
 grind [tJ,mp]
section
variable {P:Program} {C:Ctx} {A A2:Cells} {X:FP} {σ:St} {a:Act} {w w2:World} {F:Nat->FP}
theorem fD (a:Act) (d:Nat) (v:Value) (i:Nat):tmp (a.put (some d) v) i=if d=i/\i < a.tmps.size then v else tmp a i:=by
 simp only[tmp,Act.put,Array.getD_eq_getD_getElem?,Array.getElem?_setIfInBounds]
 grind
theorem mC {tv:Value} {s:Slot} {G:FP} {R:Pl} (h:aV P A σ a w tv s G) (hR:bk w tv s=some R) :
  ∃ (m:Md) (v:R.t.den) (F1:FP),af P w A R.t m R.H v R.cs F1/\(∀ b i,F1 b i<=G b i) /\
   (∀ b o,R.ad=some (b,o)->Has w b o R.cs/\(∀ x i,bj b o R.t.sz x i+F1 x i<=G x i)/\∀ j,j < R.t.sz->w.frozen? ⟨b,o+j,none⟩=false) /\
   ((∃ v',s=.own R.t m R.H v'/\HEq v v'/\R.ad=none)\/(∃ v',s=.box R.t m R.H v'/\HEq v v'/\R.ad.isSome=true)):=by
 cases s with
 | own t m H v=>
  simp only[bk,Option.some.injEq] at hR
  subst hR
  obtain ⟨cs,h1,Y⟩:=h
  refine ⟨m,v,G,?_,λ_ _=>Nat.le_refl _,(λb o h=>by cases h),.inl ⟨v,rfl,HEq.rfl,rfl⟩⟩
  grind [dz,af.length,af.one]
 | box t m H v=>
  obtain ⟨b,o,L,F1,h1,Y,h3,h4,h5,h6⟩:=h
  grind [bk,bB]
 | _=>simp[bk] at hR
theorem mD {tv:Value} {s:Slot} {G:FP} {R:Pl} (h:aV P A σ a w tv s G) (hc:∀ b i,1<=G b i->∀ u,ce w b i=some u->ce w2 b i=some u)
  (hR:bk w tv s=some R):bk w2 tv s=some R:=by
 cases s with
 | own t m H v=>exact hR
 | box t m H v=>
  obtain ⟨b,o,L,F1,h1,Y,h3,h4,h5,h6⟩:=h
  subst h1
  simp only[bk,Option.some.injEq] at hR ⊢
  have:Has w2 b o L:=λj u hu=>hc _ _ (by
   grind [bj]) u (h3 j u hu)
  grind [bB]
 | _=>simp[bk] at hR
theorem lG {σ':St} {a':Act} {r:Nat} {p:Path} {G:FP} {pl:Pl} (h:aV P A σ a w (tmp a r) (σ.get r) G) (hg:σ'.get r=σ.get r) (ht:tmp a' r=tmp a r)
  (hA:∀ b i,A b i->∀ u,ce w b i=some u->ce w2 b i=some u) (hc:∀ b i,1<=G b i->∀ u,ce w b i=some u->ce w2 b i=some u)
  (hp:place σ a w r p=some pl):place σ' a' w2 r p=some pl:=by
 unfold place at hp ⊢
 rw[hg,ht]
 cases hR:bk w (tmp a r) (σ.get r) <;> grind [mD,mC,l5]
theorem ek {σ:St} {i:Nat} (h:¬ i < σ.n):σ.get i=.dead:=by simp[St.get,h]
theorem jR {r:Nat} {p:Path} {pl:Pl} (h:place σ a w r p=some pl):r < σ.n:=by
 grind [place,ek,bk]
theorem Rel.put (h:Rel P C A X σ a w F) {d:Nat} (hd:d < σ.n) {s:Slot} {v:Value} {Fd X':FP} (hs:aV P A σ a w v s Fd) (ht:∀ b i,X' b i+Fd b i<=X b i+F d b i)
  (Jr:∀ t m H v',s=.box t m H v'->∃ b,v=.pointer (some ⟨b,0,none⟩)/\cr w b (t.sz,false)) :
  Rel P C A X' (σ.put d s) (a.put (some d) v) w (bL F d Fd):=by
 have fi:=h.size
 have fe:nz σ a w (σ.put d s) (a.put (some d) v) w:=by
  intro r p snap hb
  rw[pu,St.ok,pu]
  by_cases hr:d=r
  ·subst hr
   simp only[if_true]
   refine ⟨hb.trans (jE _),λap=>?_⟩
   have h0:=vq (h.eg d) hb ap
   exact ⟨(uS hb (jE _) ap).1,λhl=>by omega⟩
  ·simp only[if_neg hr]
   refine ⟨hb,λap=>⟨ap,λhl pl df=>⟨pl.H,pl.cs,?_,λ_=>rfl⟩⟩⟩
   exact lG (h.cj r (jR df)) (by grind [nA]) (by grind [fD]) (λ_ _ _ _ h=>h) (λ_ _ _ _ h=>h) df
 have mE:∀ b i,X' b i+ao σ.n (bL F d Fd) b i<=X b i+ao σ.n F b i:=λb i=>by
  grind [jP]
 refine ⟨by simp[Act.put,fi,St.put],by simpa [Act.put] using h.defers,λi hi=>?_,?_,λb i=>Nat.le_trans (mE b i) (h.f5 b i),λb i hp=>h.gD b i (Nat.le_trans hp (mE b i)),
  λb i hp=>h.dA b i (hp.imp (λhp=>Nat.le_trans hp (mE b i)) id),λi=>?_,h.ext,λb i hp=>h.own b i (Nat.le_trans hp (mE b i)),h.a0,h.J,?_,?_,?_,h.mB⟩
 ·have hi:i < σ.n:=hi
  rw[nA,fD,fi]
  by_cases Js:d=i
  ·subst Js
   rw[if_pos ⟨rfl,hi⟩,if_pos ⟨rfl,hi⟩]
   simp only[bL,if_true]
   exact aV.eL fe (λ_ _ h=>h) (λ_ _ _ _ h=>h) (λ_ _ h=>h) (λ_ _ _=>⟨λ_ h=>h,rfl⟩) hs
  ·rw[if_neg (λh=>Js h.1),if_neg (λh=>Js h.1)]
   simp only[bL,if_neg (λh:i=d=>Js h.symm)]
   exact aV.eL fe (λ_ _ h=>h) (λ_ _ _ _ h=>h) (λ_ _ h=>h) (λ_ _ _=>⟨λ_ h=>h,rfl⟩) (h.cj i hi)
 ·intro d' r p snap hm
  obtain ⟨hm,ci⟩:=AN hm
  rw[fD,if_neg (λh=>ci h.1.symm)]
  exact iv.eL fe (h.gh d' r p snap hm)
 ·rw[pu]
  split
  ·rw[tK];exact h.eg d
  ·exact h.eg i
 ·intro j k hm
  obtain ⟨hm,ci⟩:=oY hm
  rw[fD,if_neg (λh=>ci h.1.symm)]
  exact h.fH j k hm
 ·intro r t m H v' hg hl
  rw[nA] at hg
  rw[fD,fi]
  by_cases wP:d=r/\r < σ.n
  ·grind
  ·rw[if_neg wP] at hg ⊢
   refine h.whole r t m H v' hg λk hm=>hl k (wS hm λe=>wP ⟨e.symm,?_⟩)
   grind
 ·intro j k hm R hR
  obtain ⟨hm,ci⟩:=oY hm
  rw[fD,if_neg (λh=>ci h.1.symm),nA,if_neg (λh=>ci h.1.symm)] at hR
  exact h.e7 j k hm R hR
theorem Rel.less (h:Rel P C A X σ a w F) {X':FP} (ht:∀ b i,X' b i<=X b i):Rel P C A X' σ a w F:=
 { h with
  f5:=λb i=>by have:=h.f5 b i;grind
  gD:=λb i hp=>h.gD b i (by grind)
  dA:=λb i hp=>h.dA b i (hp.imp (λhp=>by grind) id)
  own:=λb i hp=>h.own b i (by grind) }
theorem Ext.refl (w:World) (F:FP):Ext w w F:=⟨Nat.le_refl _,λ_ _ _ _ _ h=>h,λ_ _ h=>h,λ_ _ _=>rfl,rfl,rfl,rfl,λ_ _ _=>rfl,Nat.le_refl _⟩
theorem Ext.mono {F F':FP} (h:Ext w w2 F) (hF:∀ b i,F' b i=0->F b i=0):Ext w w2 F':={ h with cell:=λb i hb hz=>h.cell b i hb (hF b i hz),obj:=λb hb hz=>h.obj b hb λi=>hF b i (hz i) }
theorem Ext.trans {w3:World} {F G:FP} (h:Ext w w2 F) (Y:Ext w2 w3 G) (hG:∀ b i,b < w.heap.size->F b i=0->G b i=0):Ext w w3 F:=
 ⟨Nat.le_trans h.size Y.size,λb i hb hz u hu=>Y.cell b i (Nat.lt_of_lt_of_le hb h.size) (hG b i hb hz) u (h.cell b i hb hz u hu),λb n hn=>Y.lY b n (h.lY b n hn),
  λb i hb=>(Y.oM b i (Nat.lt_of_lt_of_le hb h.size)).trans (h.oM b i hb),Y.os.trans h.os,Y.tape.trans h.tape,Y.output.trans h.output,
  λb hb hz=>(Y.obj b (Nat.lt_of_lt_of_le hb h.size) λi=>hG b i hb (hz i)).trans (h.obj b hb hz),Nat.le_trans h.drawn Y.drawn⟩
theorem Rel.Oq (h:Rel P C A X σ a w F) {r:Nat} (hr:r < σ.n) {σ':St} (hn:σ'.n=σ.n) (nB:∀ i,i≠r->σ'.get i=σ.get i) (LF:∀ i,i≠r->σ'.dJ i=σ.dJ i)
  (Or:Below (σ.dJ r) (σ'.dJ r)) (FW:(σ'.dJ r).length=5) (sn:∀ e,e ∈ σ'.aA->e ∈ σ.aA) (LG:∀ j k,(j,k,false) ∈ σ.aA->(j,k,false) ∈ σ'.aA) (Jt:∀ e,e ∈ σ'.gh->e ∈ σ.gh)
  {X2 FY:FP} {R:Pl} {H2:List Path} {be:List Value} (hs:aV P A2 σ' a w2 (tmp a r) (σ'.get r) FY) (hR:bk w (tmp a r) (σ.get r)=some R)
  (Ot:bk w2 (tmp a r) (σ'.get r)=some ⟨R.t,H2,be,R.ad⟩)
  (br:∀ (p:Path) (snap:List Nat),Below snap (σ.dJ r)->σ'.ok r snap=true->(snap.length=min 5 (1+bm p)\/snap.length=min 5 (2+bm p)\/snap.length=5) ->
   ∃ D full,bm p<=D/\(snap.length=min 5 (2+bm p)->bm p < D\/full)/\(snap.length=5->full)/\iN D full w R.t R.H R.cs R.ad w2 H2 be)
  (hA:∀ b i,A b i->A2 b i) (LH:∀ b i,A2 b i->A b i\/(1<=X b i+F r b i/\X2 b i+FY b i=0))
  (hx:∀ b i,X2 b i+FY b i<=X b i+F r b i) (hw:Ext w w2 λb i=>X b i+F r b i) (LI:∀ t m H v,σ'.get r=.box t m H v->∃ m0 H0 v0,σ.get r=.box t m0 H0 v0) (pL:∀ k,(r,k,true) ∈ σ'.aA->be=R.cs) :
  Rel P C A2 X2 σ' a w2 (bL F r FY):=by
 have hle:∀ b i,X b i+F r b i<=X b i+ao σ.n F b i:=λb i=>by grind [a_]
 have jC:∀ b i,A b i->∀ u,ce w b i=some u->ce w2 b i=some u:=λb i ha u hu=>by
  refine hw.cell b i (h.dA b i (.inr ha)) ?_ u hu
  rcases Nat.eq_zero_or_pos (X b i+F r b i) with h0 | h0
  ·exact h0
  ·exact absurd ha (h.gD b i (Nat.le_trans h0 (hle b i)))
 have tN:∀ j,j < σ.n->j≠r->∀ b i,1<=F j b i->(∀ u,ce w b i=some u->ce w2 b i=some u)/\w2.frozen? ⟨b,i,none⟩=w.frozen? ⟨b,i,none⟩:=λj hj FZ b i hp=>by
  have h1:=jQ F hj hr FZ b i
  have Y:=h.f5 b i
  have hb:=h.dA b i (.inl (by grind))
  exact ⟨λu hu=>hw.cell b i hb (by grind) u hu,hw.oM b i hb⟩
 have fe:nz σ a w σ' a w2:=by
  intro r' p snap hb
  by_cases Ju:r'=r
  ·subst Ju
   refine ⟨hb.trans Or,λap=>?_⟩
   refine ⟨(uS hb Or ap).1,λhl pl df=>?_⟩
   obtain ⟨D,full,h1,Y,h3,h4⟩:=br p snap hb ap hl
   unfold place at df ⊢
   rw[hR] at df
   rw[Ot]
   obtain ⟨H',aJ,h5,h6⟩:=h4 p pl h1 df
   grind
  ·rw[St.ok,LF r' Ju]
   refine ⟨hb,λap=>⟨ap,λhl pl df=>⟨pl.H,pl.cs,?_,λ_=>rfl⟩⟩⟩
   have aB:=jR df
   exact lG (h.cj r' aB) (nB r' Ju) rfl jC (λb i hp=>(tN r' aB Ju b i hp).1) df
 have mE:∀ b i,X2 b i+ao σ.n (bL F r FY) b i<=X b i+ao σ.n F b i:=λb i=>by
  grind [jP]
 refine ⟨by rw[hn];exact h.size,h.defers,λi hi=>?_,λd r' p snap hm=>iv.eL fe (h.gh d r' p snap (Jt _ hm)),λb i=>by rw[hn];exact Nat.le_trans (mE b i) (h.f5 b i),λb i hp ha=>?_,
  λb i hp=>?_,λi=>?_,h.ext.trans hw λb i hb hz=>?_,λb i hp=>by rw[hn] at hp;exact h.own b i (Nat.le_trans hp (mE b i)),λb i ha=>hA b i (h.a0 b i ha),λb i ha=>?_,
  λj k hm=>h.fH j k (sn _ hm),λr' t m H v hg hl=>?_,λj k hm R' f_=>?_,h.mB⟩
 ·rw[hn] at hi
  by_cases Df:i=r
  ·grind [bL]
  ·simp only[bL,if_neg Df]
   rw[nB i Df]
   exact aV.eL fe hA jC hw.lY (tN i hi Df) (h.cj i hi)
 ·rw[hn] at hp
  rcases LH b i ha with ha | ⟨h1,Y⟩
  ·exact h.gD b i (Nat.le_trans hp (mE b i)) ha
  ·have h3:=h.f5 b i
   grind [jP]
 ·rw[hn] at hp
  refine Nat.lt_of_lt_of_le (h.dA b i ?_) hw.size
  grind
 ·by_cases Df:i=r
  ·grind
  ·rw[LF i Df];exact h.eg i
 ·rcases Nat.eq_zero_or_pos (X b i+F r b i) with h0 | h0
  ·exact h0
  ·have:=h.own b i (Nat.le_trans h0 (hle b i));omega
 ·rcases LH b i ha with ha | ⟨h1,_⟩
  ·exact h.J b i ha
  ·exact .inr (h.own b i (Nat.le_trans h1 (hle b i)))
 ·have:∃ m0 H0 v0,σ.get r'=.box t m0 H0 v0:=by
   grind
  obtain ⟨m0,H0,v0,LJ⟩:=this
  obtain ⟨b,h1,Y⟩:=h.whole r' t m0 H0 v0 LJ λk hm=>hl k (LG _ _ hm)
  exact ⟨b,h1,hw.lY _ _ Y⟩
 ·by_cases FZ:j=r
  ·subst FZ
   rw[Ot] at f_
   injection f_ with f_
   subst f_
   show aZ R.t be=_
   rw[pL k hm]
   exact h.e7 j k (sn _ hm) R hR
  ·rcases Nat.lt_or_ge j σ.n with hj | hj
   ·rw[nB j FZ] at f_
    have iK:=h.cj j hj
    cases oS:bk w (tmp a j) (σ.get j) with
    | none=>exfalso;cases hg:σ.get j <;> rw[hg] at oS f_ <;> simp only[bk] at oS f_ <;> first | grind | grind | grind
    | some R0=>
     rw[mD iK (λb i hp=>(tN j hj FZ b i hp).1) oS] at f_
     injection f_ with f_
     subst f_
     exact h.e7 j k (sn _ hm) _ oS
   ·rw[ek (by rw[hn];omega)] at f_;cases f_
end
end OT
set_option linter.unusedVariables false
set_option linter.unusedSimpArgs false
namespace OT
open Go
def dL (ad:Option (Nat×Nat)) (n:Nat):FP:=λb i=>match ad with
 | some (b',o)=>bj b' o n b i
 | none=>0
section
variable {P:Program} {C:Ctx} {A:Cells} {X:FP} {σ:St} {a:Act} {w:World} {F:Nat->FP} {R:Type} {x:R}
theorem wV {r:Nat} {K:(t:Ty)->Md->List Path->t.den->Option R} (h:mq σ r K=some x) :
  r < σ.n/\∃ t m H v,(σ.get r=.own t m H v\/σ.get r=.box t m H v)/\K t m H v=some x:=by
 grind [mq,ek]
structure LK (P:Program) (A:Cells) (σ:St) (a:Act) (w:World) (r:Nat) (G:FP) (t:Ty) (m:Md) (H:List Path) (v:t.den) (cs:List Value) (ad:Option (Nat×Nat)) (F1:FP):Prop where
 root:bk w (tmp a r) (σ.get r)=some ⟨t,H,cs,ad⟩
 rep:af P w A t m H v cs F1
 le:∀ b i,dL ad t.sz b i+F1 b i<=G b i
 has:∀ b o,ad=some (b,o)->Has w b o cs
 oM:∀ b o,ad=some (b,o)->∀ j,j < t.sz->w.frozen? ⟨b,o+j,none⟩=false
 val:ad=none->tmp a r=aZ t cs/\σ.get r=.own t m H v
 ptr:∀ b o,ad=some (b,o)->tmp a r=.pointer (some ⟨b,o,none⟩)/\σ.get r=.box t m H v
theorem aV.root {r:Nat} {G:FP} (h:aV P A σ a w (tmp a r) (σ.get r) G) {t:Ty} {m:Md} {H:List Path} {v:t.den} (hg:σ.get r=.own t m H v\/σ.get r=.box t m H v) :
  ∃ cs ad F1,LK P A σ a w r G t m H v cs ad F1:=by
 rcases hg with hg | hg
 ·rw[hg] at h
  obtain ⟨cs,h1,Y⟩:=h
  refine ⟨cs,none,G,by grind [bk,dz,af.length,af.one],Y,λb i=>by simp[dL],(λb o h=>by cases h),(λb o h=>by cases h),λ_=>⟨h1,hg⟩,(λb o h=>by cases h)⟩
 ·rw[hg] at h
  obtain ⟨b,o,L,F1,h1,Y,h3,h4,h5,h6⟩:=h
  refine ⟨L,some (b,o),F1,by grind [bk,bB],h6,λb i=>h5 b i,?_,?_,(λh=>by cases h),?_⟩
  all_goals grind
theorem d7 (h:Rel P C A X σ a w F) {r:Nat} {p:Path} {K:(t:Ty)->Md->List Path->t.den->Option R} (hk:gg σ r p K=some x) :
  r < σ.n/\∃ (t':Ty) (m':Md) (H':List Path) (v':t'.den) (aJ:List Value) (aX:Option (Nat×Nat)) (F':FP),K t' m' H' v'=some x/\(∀ {S:Type} (K0:(t:Ty)->Md->List Path->t.den->Option S),gg σ r p K0=K0 t' m' H' v')/\place σ a w r p=some ⟨t',H',aJ,aX⟩/\af P w A t' m' H' v' aJ F' /\
   (∀ b i,F' b i<=F r b i)/\(∀ b o,aX=some (b,o)->Has w b o aJ):=by
 obtain ⟨hr,t,m,H,v,hg,hk⟩:=wV hk
 obtain ⟨cs,ad,F1,RO⟩:=(h.cj r hr).root hg
 obtain ⟨t',m',H',v',aJ,aX,F',h1,hn,Y,h3,h4,h5,_⟩:=Lw p t hk RO.rep (ad:=ad) RO.has
 refine ⟨hr,t',m',H',v',aJ,aX,F',h1,λK0=>?_,?_,h3,λb i=>by have:=h4 b i;have:=RO.le b i;omega,h5⟩
 ·grind [gg,mq]
 unfold place
 rw[RO.root];exact Y
theorem nN (r:Nat) (t:Ty) (m:Md) (H:List Path) (v:t.den) (i:Nat) (h:i≠r):(σ.dq r t m H v).get i=σ.get i:=by
 grind [St.dq,uT]
theorem mF {r:Nat} (hr:r < σ.n) {t t0:Ty} {m m0:Md} {H H0:List Path} {v0:t0.den} (v:t.den) (h:σ.get r=.own t0 m0 H0 v0):(σ.dq r t m H v).get r=.own t m H v:=by
 grind [St.dq,uT]
theorem mG {r:Nat} (hr:r < σ.n) {t t0:Ty} {m m0:Md} {H H0:List Path} {v0:t0.den} (v:t.den) (h:σ.get r=.box t0 m0 H0 v0):(σ.dq r t m H v).get r=.box t m H v:=by
 grind [St.dq,uT]
theorem kM (r:Nat) (t:Ty) (m:Md) (H:List Path) (v:t.den):(σ.dq r t m H v).n=σ.n:=by unfold St.dq;split <;> rfl
theorem ik (r:Nat) (t:Ty) (m:Md) (H:List Path) (v:t.den) (i:Nat):(σ.dq r t m H v).dJ i=σ.dJ i:=by unfold St.dq;split <;> rfl
theorem mH (r:Nat) (t:Ty) (m:Md) (H:List Path) (v:t.den):(σ.dq r t m H v).aA=σ.aA:=by unfold St.dq;split <;> rfl
theorem so (r:Nat) (t:Ty) (m:Md) (H:List Path) (v:t.den):(σ.dq r t m H v).gh=σ.gh:=by unfold St.dq;split <;> rfl
def ic (σ σ':St):Prop:=∀ (w:World) (tv:Value) (i:Nat) (R:Pl),bk w tv (σ'.get i)=some R->∃ H,bk w tv (σ.get i)=some ⟨R.t,H,R.cs,R.ad⟩
theorem ic.refl (σ:St):ic σ σ:=λw tv i R h=>⟨R.H,h⟩
theorem ic.trans {σ σ' nC:St} (h:ic σ σ') (h':ic σ' nC):ic σ nC:=by
 intro w tv i R0 hR
 obtain ⟨H,h1⟩:=h' w tv i R0 hR
 exact h w tv i ⟨R0.t,H,R0.cs,R0.ad⟩ h1
theorem oN {r:Nat} (hr:r < σ.n) {t:Ty} {m m0:Md} {H H0:List Path} {v0:t.den} (v:t.den) (h:σ.get r=.own t m0 H0 v0\/σ.get r=.box t m0 H0 v0) {σ':St} (hg:∀ i,σ'.get i=(σ.dq r t m H v).get i):ic σ σ':=by
 intro w tv i R hR
 rw[hg] at hR
 by_cases hi:i=r
 ·subst hi
  rcases h with h | h
  ·grind [mF,bk]
  ·rw[mG hr v h] at hR
   rw[h]
   simp only[bk] at hR ⊢
   grind
 ·rw[nN r t m H v i hi] at hR
  exact ⟨R.H,hR⟩
structure H_ (σ:St) (r:Nat) (s:Slot) (LL:Prop) (σ':St):Prop where
 n:σ'.n=σ.n
 get:∀ i,i≠r->σ'.get i=σ.get i
 root:σ'.get r=s
 dJ:∀ i,i≠r->σ'.dJ i=σ.dJ i
 below:Below (σ.dJ r) (σ'.dJ r)
 eg:(σ'.dJ r).length=5
 aA:∀ e,e ∈ σ'.aA->e ∈ σ.aA
 Jv:∀ j k,(j,k,false) ∈ σ.aA->(j,k,false) ∈ σ'.aA
 gh:∀ e,e ∈ σ'.gh->e ∈ σ.gh
 head:∀ k,(r,k,true) ∈ σ'.aA->LL
theorem Rel.yr (h:Rel P C A X σ a w F) {r:Nat} {p:Path} {f:(t':Ty)->Md->List Path->t'.den->(Md->List Path->t'.den->Option R)->Option R}
  {Kf:(t:Ty)->Md->List Path->t.den->Option R} (hk:mq σ r (λt0 m0 H0 v0=>ir p t0 m0 H0 v0 f λm' H' v'=>Kf t0 m' H' v')=some x) :
  r < σ.n/\∃ (t':Ty) (m':Md) (H':List Path) (v':t'.den) (aJ:List Value) (aX:Option (Nat×Nat)) (F':FP) (kk:Md->List Path->t'.den->Option R),
   f t' m' H' v' kk=some x/\(∀ {S:Type} (K0:(t:Ty)->Md->List Path->t.den->Option S),gg σ r p K0=K0 t' m' H' v')/\place σ a w r p=some ⟨t',H',aJ,aX⟩/\af P w A t' m' H' v' aJ F' /\
   (∀ b i,dL aX t'.sz b i+F' b i<=F r b i)/\(∀ b o,aX=some (b,o)->Has w b o aJ)/\(∀ b o,aX=some (b,o)->∀ j,j < t'.sz->w.frozen? ⟨b,o+j,none⟩=false) /\
   ∀ m2 H2 (v2:t'.den),kk m2 H2 v2=some x->∀ (w2:World) (A2:Cells) (be:List Value) (F2 X2:FP),
    Ext w w2 (λb i=>X b i+(F' b i+dL aX t'.sz b i))->(∀ b i,A b i->A2 b i)->(∀ b i,A2 b i->A b i\/(1<=X b i+F' b i/\X2 b i+F2 b i=0)) ->
    (∀ b i,X2 b i+F2 b i<=X b i+F' b i)->(∀ b o,aX=some (b,o)->Has w2 b o be)->(aX=none->be=aJ)->af P w2 A2 t' m2 H2 v2 be F2 ->
    ∃ (t0:Ty) (m3:Md) (H3:List Path) (v3:t0.den) (Fr:FP) (A3:Cells),Kf t0 m3 H3 v3=some x/\(∃ (m0:Md) (H0:List Path) (v0:t0.den),σ.get r=.own t0 m0 H0 v0\/σ.get r=.box t0 m0 H0 v0)/\(∀ b i,A2 b i->A3 b i)/\(∀ b i,Fr b i<=F r b i+X b i) /\
     ∀ σ',H_ σ r ((σ.dq r t0 m3 H3 v3).get r) (1<=bm p\/be=aJ) σ' ->
      (∀ (p':Path) (snap:List Nat),Below snap (σ.dJ r)->σ'.ok r snap=true->(snap.length=min 5 (1+bm p')\/snap.length=min 5 (2+bm p')\/snap.length=5) ->
       ∃ D full,bm p'<=D+bm p/\(snap.length=min 5 (2+bm p')->bm p' < D+bm p\/full)/\(snap.length=5->full)/\iN D full w t' H' aJ aX w2 H2 be) ->
      Rel P C A3 X2 σ' a w2 (bL F r Fr):=by
 obtain ⟨hr,t,m,H,v,hg,hk⟩:=wV hk
 obtain ⟨cs,ad,F1,RO⟩:=(h.cj r hr).root hg
 have vt:∀ b i,X b i+F r b i<=1:=λb i=>by have:=h.f5 b i;grind [a_]
 have pI:∀ b o,ad=some (b,o)->∀ j,j < t.sz->F1 b (o+j)=0:=λb o e j hj=>by
  have h1:=RO.le b (o+j);grind [dL,bj]
 obtain ⟨t',m',H',v',aJ,aX,F',G,kk,loc,M⟩:=Lx p t hk RO.rep (λb i=>by have:=vt b i;have:=RO.le b i;omega) RO.has pI
 have hlen:=af.length t RO.rep
 have AP:∀ b i,dL aX t'.sz b i+F' b i<=F r b i/\(1<=dL aX t'.sz b i->1<=G b i\/1<=dL ad t.sz b i)/\dL aX t'.sz b i<=1:=λb i=>by
  have h1:=M.sum b i;have Y:=RO.le b i;have h3:=vt b i
  cases di:aX with
  | none=>grind [dL]
  | some bo=>
   obtain ⟨b0,o0⟩:=bo
   simp only[dL,bj]
   split
   ·rename_i cI
    obtain ⟨rfl,SP,PD⟩:=cI
    cases loc with
    | none=>
     obtain ⟨b',o',e1,e2⟩:=M.out rfl
     rw[di] at e1
     simp only[Option.some.injEq,Prod.mk.injEq] at e1
     obtain ⟨rfl,rfl⟩:=e1
     have:=(e2 (i - o0) (by omega)).1
     grind
    | some off=>
     obtain ⟨e1,e2,e3⟩:=M.kh off rfl
     grind [ca,bj,dL]
   ·omega
 refine ⟨hr,t',m',H',v',aJ,aX,F',kk,M.run,λK0=>?_,by unfold place;rw[RO.root];exact M.place,M.rep,λb i=>(AP b i).1,M.has,λb o e j hj=>?_,?_⟩
 ·unfold gg mq
  rcases hg with hg | hg <;> rw[hg] <;> exact M.FR K0
 ·cases loc with
  | none=>
   obtain ⟨b',o',e1,e2⟩:=M.out rfl
   grind
  | some off=>
   obtain ⟨e1,e2,e3⟩:=M.kh off rfl
   cases pM:ad with
   | none=>rw[e,pM] at e3;cases e3
   | some y=>
    rw[e,pM] at e3
    simp only[ca,Option.map_some,Option.some.injEq,Prod.mk.injEq] at e3
    obtain ⟨rfl,rfl⟩:=e3
    have:=RO.oM y.1 y.2 pM (off+j) (by omega)
    grind
 intro m2 H2 v2 tg w2 A2 be F2 X2 bI hA LH hX qX wR uU
 have oh:=af.length t' uU
 have jC:∀ b i,A b i->∀ u,ce w b i=some u->ce w2 b i=some u:=λb i ha u hu=>by
  refine bI.cell b i (h.dA b i (.inr ha)) ?_ u hu
  have h1:=(AP b i).1
  have Y:=a_ F hr b i
  have h3:=h.gD b i
  grind
 have Ou:∀ b i,1<=G b i\/1<=dL ad t.sz b i->(∀ o,aX=some (b,o)->¬ (o<=i/\i < o+t'.sz))->∀ u,ce w b i=some u->ce w2 b i=some u:=λb i hp hn u hu=>by
  have h1:=AP b i;have Y:=vt b i;have h3:=M.sum b i;have h4:=RO.le b i
  refine bI.cell b i (h.dA b i (.inl (by grind [a_]))) ?_ u hu
  show X b i+(F' b i+dL aX t'.sz b i)=0
  have h5:dL aX t'.sz b i=0:=by
   cases di:aX <;> grind [dL,bj]
  omega
 have NI:∀ b i,F2 b i+G b i<=1:=λb i=>by
  have:=hX b i;have:=M.sum b i;have:=RO.le b i;grind
 obtain ⟨m3,H3,v3,F3,k1,k2,k3,k4⟩:=M.back m2 H2 v2 tg w2 A2 be F2 bI.lY hA jC (λb i hp hn=>Ou b i (.inl hp) hn) qX uU NI
 have LM:(dW loc cs t'.sz be).length=t.sz:=by
  cases loc with
  | none=>exact hlen
  | some off=>have:=(M.kh off rfl).1;grind [dW,li]
 have oV:be=aJ->dW loc cs t'.sz be=cs:=λe=>by
  cases loc with
  | none=>rfl
  | some off=>
   obtain ⟨e1,e2,_⟩:=M.kh off rfl
   rw[e,e2];exact pH (by omega)
 have Ef:∀ b o,ad=some (b,o)->Has w2 b o (dW loc cs t'.sz be):=λb o e=>by
  have cells:∀ j u,cs[j]?=some u->(∀ o',aX=some (b,o')->¬ (o'<=o+j/\o+j < o'+t'.sz))->ce w2 b (o+j)=some u:=λj u hu hn=>by
   have hj:j < t.sz:=hlen ▸ (List.getElem?_eq_some_iff.1 hu).1
   exact Ou b (o+j) (.inr (by grind [dL,bj])) hn u (RO.has b o e j u hu)
  cases AQ:loc with
  | none=>
   intro j u hu
   refine cells j u hu λo' he cI=>?_
   have hj:j < t.sz:=hlen ▸ (List.getElem?_eq_some_iff.1 hu).1
   obtain ⟨b',S_,e1,e2⟩:=M.out AQ
   rw[he] at e1
   simp only[Option.some.injEq,Prod.mk.injEq] at e1
   obtain ⟨rfl,rfl⟩:=e1
   have h1:=(e2 (o+j - o') (by omega)).1
   rw[show o'+(o+j - o')=o+j by omega] at h1
   have Y:=RO.le b (o+j);have h3:=vt b (o+j);have h4:=M.sum b (o+j)
   grind
  | some off=>
   obtain ⟨e1,e2,e3⟩:=M.kh off AQ
   rw[e] at e3
   simp only[ca,Option.map_some] at e3
   exact Db (by omega) oh (qX b (o+off) e3) (λj u hu hn=>cells j u hu λo' he cI=>by
    grind)
 refine ⟨t,m3,H3,v3,λb i=>dL ad t.sz b i+F3 b i,λb i=>A2 b i\/(1<=F2 b i+G b i/\F3 b i=0),k1,⟨m,H,v,hg⟩,λ_ _ h=>.inl h,λb i=>?_,λσ' on br=>?_⟩
 ·have h1:=k2 b i;have Y:=hX b i;have h3:=M.sum b i;have h4:=RO.le b i
  grind
 have Eg:=k3 (λb i=>A2 b i\/(1<=F2 b i+G b i/\F3 b i=0)) (λ_ _ h=>.inl h) (λb i h1 Y=>.inr ⟨h1,Y⟩)
 have Ad:aV P (λb i=>A2 b i\/(1<=F2 b i+G b i/\F3 b i=0)) σ' a w2 (tmp a r) (σ'.get r) (λb i=>dL ad t.sz b i+F3 b i)/\bk w2 (tmp a r) (σ'.get r)=some ⟨t,H3,dW loc cs t'.sz be,ad⟩:=by
  rw[on.root]
  cases pM:ad with
  | none=>
   obtain ⟨e1,e2⟩:=RO.val pM
   have e3:dW loc cs t'.sz be=cs:=by
    cases AQ:loc with
    | none=>rfl
    | some off=>
     have:=(M.kh off AQ).2.2
     rw[pM] at this
     rw[<-AQ];exact oV (wR this)
   rw[mF hr v3 e2]
   rw[e3] at Eg ⊢
   exact ⟨⟨cs,e1,af.le Eg (λb i=>by grind)⟩,by grind [bk,dz,af.one]⟩
  | some bo=>
   obtain ⟨b,o⟩:=bo
   obtain ⟨e1,e2⟩:=RO.ptr b o pM
   rw[mG hr v3 e2,e1]
   have hh:=Ef b o pM
   refine ⟨⟨b,o,_,F3,rfl,LM,hh,λj hj=>?_,λb' i=>?_,Eg⟩,by grind [bk,bB]⟩
   ·have hb:b < w.heap.size:=h.dA b (o+j) (.inl (by
     have h1:=RO.le b (o+j);grind [a_,dL,bj]))
    rw[bI.oM b (o+j) hb]
    exact RO.oM b o pM j hj
   ·exact Nat.le_refl _
 refine h.Oq hr on.n on.get on.dJ on.below on.eg on.aA on.Jv on.gh Ad.1 RO.root Ad.2 (λp' snap h1 Y h3=>?_) (λb i ha=>.inl (hA b i ha)) (λb i ha=>?_) (λb i=>?_) (bI.mono λb i hz=>?_) (λt5 m5 H5 v5 QC=>?_) (λk hm=>?_)
 ·grind
 ·have h1:=hX b i;have Y:=k2 b i;have h3:=M.sum b i;have h4:=RO.le b i;grind
 ·have h1:=hX b i;have Y:=k2 b i;have h3:=M.sum b i;have h4:=RO.le b i
  grind
 ·grind
 ·rw[on.root] at QC
  grind [mF,mG]
 ·rcases on.head k hm with hp | he
  ·rw[M.Ec hp];rfl
  grind
end
end OT
set_option linter.unusedVariables false
set_option linter.unusedSimpArgs false
namespace OT
open Go
theorem af.Jw {P:Program} {w:World} {A:Cells}:∀ (t:Ty) {m:Md} {H:List Path} {v:t.den} {cs:List Value} {F:FP},af P w A t m H v cs F->af P w A t m (ku t) v cs (λ_ _=>0):=by
 intro t
 induction t with
 | pair a b eG et=>
  intro m H v cs F h
  obtain ⟨_,F1,F2,hs,h1,Y⟩:=h
  refine ⟨by grind [ku,jm,it],λ_ _=>0,λ_ _=>0,λ_ _=>Nat.le_refl _,?_,?_⟩
  all_goals grind [ku,kf,kI,kJ,kg]
 | aa e ih=>
  intro m H v cs F h
  have h1:=af.length _ h
  have Y:=af.one _ h
  match cs,h1 with
  | [y],_=>grind [af,ku,hole]
 | ptr e ih=>
  intro m H v cs F h
  have h1:=af.length _ h
  have Y:=af.one _ h
  match cs,h1 with
  | [y],_=>grind [af,ku,hole]
 | arr n e ih=>intro m H v cs F h;rw[ku,h.2.1];obtain ⟨rfl,h⟩:=h;exact ⟨rfl,h⟩
 | map k v=>
  intro m H v cs F h
  have h1:=af.length _ h
  have Y:=af.one _ h
  match cs,h1 with
  | [y],_=>grind [af,ku,hole]
 | _=>intro m H v cs F h;exact h
section
variable {P:Program} {C:Ctx} {A:Cells} {X:FP} {σ:St} {a:Act} {w:World} {F:Nat->FP} {R:Type} {x:R}
structure At (σ:St) (r:Nat) (p:Path) (t:Ty) (m:Md) (H:List Path) (v:t.den):Prop where
 eq:∀ {S:Type} (K0:(t:Ty)->Md->List Path->t.den->Option S),gg σ r p K0=K0 t m H v
theorem At.inj {r:Nat} {p:Path} {t t':Ty} {m m':Md} {H H':List Path} {v:t.den} {v':t'.den} (h:At σ r p t m H v) (h':At σ r p t' m' H' v'):t=t'/\m=m'/\H=H'/\HEq v v':=by
 have h1:=h.eq (λt m H v=>some (⟨t,m,H,v⟩:(t:Ty)×Md×List Path×t.den))
 rw[h'.eq] at h1
 grind
theorem wW (σ:St) (r d:Nat):(σ.head r d).n=σ.n:=by unfold St.head;split <;> rfl
theorem pN (σ:St) (r d i:Nat):(σ.head r d).get i=σ.get i:=by unfold St.head;split <;> rfl
theorem pO (σ:St) (r d i:Nat):(σ.head r d).dJ i=σ.dJ i:=by unfold St.head;split <;> rfl
theorem Dg (σ:St) (r d:Nat):(σ.head r d).gh=σ.gh:=by unfold St.head;split <;> rfl
theorem AS {r d:Nat} {f:List Nat->List Nat} (h1:Below (σ.dJ r) (f (σ.dJ r))) (Y:(f (σ.dJ r)).length=5) {t:Ty} {m:Md} {H:List Path} {v:t.den} {q:Prop} (hq:1<=d->q) :
  H_ σ r ((σ.dq r t m H v).get r) q (((σ.dq r t m H v).eI r f).head r d) where
 n:=by rw[wW];exact kM r t m H v
 get i hi:=by rw[pN];exact nN r t m H v i hi
 root:=by rw[pN];rfl
 dJ i hi:=by grind [pO,h_,ik]
 below:=by grind [pO,h_,ik]
 eg:=by grind [pO,h_,ik]
 aA e he:=by
  unfold St.head at he
  grind [wT,St.eI,mH]
 Jv j k hm:=by
  unfold St.head
  grind [Ee,St.eI,mH]
 gh e he:=by grind [Dg,St.eI,so]
 head k hm:=by
  unfold St.head at hm
  split at hm
  ·exact absurd ⟨rfl,rfl⟩ (wT hm).2
  grind
theorem AT (h:Rel P C A X σ a w F) {r:Nat} {p:Path} {K:St->Option R} (hk:oU σ r p K=some x) {t':Ty} {m':Md} {H':List Path} {v':t'.den} (hn:At σ r p t' m' H' v') :
  ∃ (A':Cells) (σ':St) (F':Nat->FP) (cs:List Value) (ad:Option (Nat×Nat)) (Fv:FP),K σ'=some x/\(∀ b i,A b i->A' b i)/\Rel P C A' (λb i=>X b i+Fv b i) σ' a w F'/\σ'.n=σ.n/\ic σ σ' /\
   place σ a w r p=some ⟨t',H',cs,ad⟩/\af P w A t' m' H' v' cs Fv/\∀ b i,Fv b i<=F r b i:=by
 obtain ⟨hr,t1,m1,H1,v1,cs,ad,Fv,kk,h1,Y,h3,h4,h5,h6,h7,h8⟩:=h.yr hk
 obtain ⟨e1,e2,e3,e4⟩:=hn.inj ⟨Y⟩
 subst e1;subst e2;subst e3
 have e4:=eq_of_heq e4
 subst e4
 obtain ⟨t0,m3,H3,v3,Fr,A3,k1,⟨m0,H0,v0,k0⟩,k2,k3,k4⟩:=h8 _ _ _ h1 w A cs (λ_ _=>0) (λb i=>X b i+Fv b i) (Ext.refl _ _) (λ_ _ h=>h) (λ_ _ h=>.inl h) (λb i=>Nat.le_refl _) h6 (λ_=>rfl) (af.Jw _ h4)
 refine ⟨A3,_,_,cs,ad,Fv,k1,k2,k4 _ (AS (kL _ (h.eg r)) (sk _ (h.eg r)) .inl) (λp' snap hb ap hl=>?_),?_,oN hr v3 k0 (λi=>by rw[pN];rfl),h3,h4,λb i=>by grind⟩
 ·refine ⟨0,False,?_,?_,?_,iN.zero (A:=A) ad (af.Jw _ h4)⟩
  all_goals
   unfold St.ok at ap
   rw[pO,h_,if_pos rfl,ik] at ap
   have:=tM (bm p) (h.eg r) hb ap
  all_goals omega
 ·rw[wW];exact kM _ _ _ _ _
theorem yt (h:Rel P C A X σ a w F) {r:Nat} {p:Path} {K:St->Option R} (hk:oU σ r p K=some x) {t':Ty} {m':Md} {v':t'.den} (hn:At σ r p t' m' [] v') :
  ∃ (A':Cells) (σ':St) (F':Nat->FP) (cs:List Value) (ad:Option (Nat×Nat)) (Fv:FP),K σ'=some x/\(∀ b i,A b i->A' b i)/\Rel P C A' (λb i=>X b i+Fv b i) σ' a w F'/\σ'.n=σ.n/\ic σ σ' /\
   place σ a w r p=some ⟨t',[],cs,ad⟩/\af P w A t' m' [] v' cs Fv:=
 have ⟨A',σ',F',cs,ad,Fv,h1,Y,h3,h4,h5,h6,h7,_⟩:=AT h hk hn
 ⟨A',σ',F',cs,ad,Fv,h1,Y,h3,h4,h5,h6,h7⟩
theorem ze {r:Nat} (hv:(σ.dJ r).length=5) {t:Ty} {m:Md} {H:List Path} {v:t.den} {q:Prop} (hq:q):H_ σ r ((σ.dq r t m H v).get r) q (σ.dq r t m H v):=
 ⟨kM _ _ _ _ _,λi hi=>nN _ _ _ _ _ i hi,rfl,λi _=>ik _ _ _ _ _ i,by rw[ik];exact Below.refl _,by grind [ik],
  λe he=>by grind [mH],λj k hm=>by grind [mH],λe he=>by grind [so],λ_ _=>hq⟩
theorem Cu (h:Rel P C A X σ a w F) {r:Nat} {p:Path} {m2:Md} {K:St->Option R} (hk:lW σ r p m2 K=some x) :
  ∃ (A':Cells) (σ':St) (F':Nat->FP),K σ'=some x/\(∀ b i,A b i->A' b i)/\Rel P C A' X σ' a w F'/\σ'.n=σ.n/\ic σ σ':=by
 obtain ⟨hr,t1,m1,H1,v1,cs,ad,Fv,kk,h1,Y,h3,h4,h5,h6,h7,h8⟩:=h.yr hk
 have vt:∀ b i,X b i+F r b i<=1:=λb i=>by have:=h.f5 b i;grind [a_]
 split at h1
 ·rename_i hc
  simp only[Bool.and_eq_true,List.isEmpty_iff] at hc
  obtain ⟨rfl,hc⟩:=hc
  obtain ⟨F1,QD,cH⟩:=af.fits _ hc h4 (λb i=>by grind)
  have NJ:=cH (λb i=>A b i\/(1<=Fv b i/\F1 b i=0)) (λ_ _ h=>.inl h) (λb i h1 Y=>.inr ⟨h1,Y⟩)
  obtain ⟨t0,m3,H3,v3,Fr,A3,k1,⟨m0,H0,v0,k0⟩,k2,k3,k4⟩:=h8 _ _ _ h1 w (λb i=>A b i\/(1<=Fv b i/\F1 b i=0)) cs F1 X (Ext.refl _ _) (λ_ _ h=>.inl h)
   (λb i ha=>ha.imp id λ⟨h1,Y⟩=>⟨by omega,by grind⟩) (λb i=>by grind) h6 (λ_=>rfl) NJ
  exact ⟨A3,_,_,k1,λb i ha=>k2 b i (.inl ha),k4 _ (ze (h.eg r) (.inr rfl)) (λp' snap hb ap hl=>⟨bm p'+1,True,by omega,λ_=>.inr trivial,λ_=>trivial,
   iN.same ad h4 (λ_ _ _ _ h=>h) (λ_ _ _ _ h=>h) _ True⟩),kM _ _ _ _ _,oN hr v3 k0 (λi=>rfl)⟩
 ·cases h1
theorem ol (h:Rel P C A X σ a w F) {r:Nat} {p:Path} {K:St->Option R} (hk:ny σ r p K=some x) :
  ∃ (A':Cells) (σ':St) (F':Nat->FP) (t':Ty) (m':Md) (v':t'.den) (cs:List Value) (ad:Option (Nat×Nat)),K σ'=some x/\(∀ b i,A b i->A' b i)/\Rel P C A' X σ' a w F'/\σ'.n=σ.n/\ic σ σ' /\
   At σ r p t' m' [] v'/\place σ a w r p=some ⟨t',[],cs,ad⟩/\Ro P w A' t' v' cs:=by
 obtain ⟨hr,t1,m1,H1,v1,cs,ad,Fv,kk,h1,Y,h3,h4,h5,h6,h7,h8⟩:=h.yr hk
 have vt:∀ b i,X b i+F r b i<=1:=λb i=>by have:=h.f5 b i;grind [a_]
 split at h1
 ·rename_i hc
  simp only[Bool.and_eq_true,List.isEmpty_iff] at hc
  obtain ⟨rfl,hc⟩:=hc
  have km:Ro P w (λb i=>A b i\/1<=Fv b i) t1 v1 cs:=af.my (λ_ _ h=>.inl h) t1 h4 (λb i hp=>.inr hp)
  obtain ⟨t0,m3,H3,v3,Fr,A3,k1,⟨m0,H0,v0,k0⟩,k2,k3,k4⟩:=h8 _ _ _ h1 w (λb i=>A b i\/1<=Fv b i) cs (λ_ _=>0) X (Ext.refl _ _) (λ_ _ h=>.inl h)
   (λb i ha=>ha.imp id λh1=>⟨by omega,by grind⟩) (λb i=>by omega) h6 (λ_=>rfl) (Ro.rep _ _ (bS _) km)
  exact ⟨A3,_,_,t1,m1,v1,cs,ad,k1,λb i ha=>k2 b i (.inl ha),k4 _ (ze (h.eg r) (.inr rfl)) (λp' snap hb ap hl=>⟨bm p'+1,True,by omega,λ_=>.inr trivial,λ_=>trivial,
   iN.same ad h4 (λ_ _ _ _ h=>h) (λ_ _ _ _ h=>h) _ True⟩),kM _ _ _ _ _,oN hr v3 k0 (λi=>rfl),⟨Y⟩,h3,Ro.mono (λ_ _ _ _ h=>h) k2 _ km⟩
 ·cases h1
theorem aU {t t':Ty} {v:t.den} {K:t'.den->Option R} (h:cS t t' v K=some x):∃ e:t=t',K (e ▸ v)=some x:=by
 grind [cS]
theorem rE (h:Rel P C A X σ a w F) {r:Nat} {p:Path} {t:Ty} {m:Md} {v:t.den} {K:St->Option R} (hk:lA σ r p t m v K=some x) :
  r < σ.n/\∃ (m':Md) (H':List Path) (v':t.den) (cs:List Value) (ad:Option (Nat×Nat)) (F':FP),At σ r p t m' H' v'/\place σ a w r p=some ⟨t,H',cs,ad⟩/\af P w A t m' H' v' cs F' /\
   (∀ b i,dL ad t.sz b i+F' b i<=F r b i)/\(∀ b o,ad=some (b,o)->Has w b o cs/\∀ j,j < t.sz->w.frozen? ⟨b,o+j,none⟩=false) /\
   ∀ (w2:World) (A2:Cells) (be:List Value) (Fv X2:FP),Ext w w2 (λb i=>X b i+(F' b i+dL ad t.sz b i))->(∀ b i,A b i->A2 b i)->(∀ b i,A2 b i->A b i\/(1<=X b i+F' b i/\X2 b i+Fv b i=0)) ->
    (∀ b i,X2 b i+Fv b i<=X b i+F' b i)->(∀ b o,ad=some (b,o)->Has w2 b o be)->(ad=none->be=cs)->af P w2 A2 t m [] v be Fv ->
    ∃ (A3:Cells) (σ':St) (Fr:FP),K σ'=some x/\(∀ b i,A2 b i->A3 b i)/\Rel P C A3 X2 σ' a w2 (bL F r Fr)/\σ'.n=σ.n /\
     ∀ g:List Nat->List Nat,Below (σ.dJ r) (g (σ.dJ r))->(g (σ.dJ r)).length=5->be=cs ->
      (∀ (p':Path) (snap:List Nat),Below snap (σ.dJ r)->preB snap (g (σ.dJ r))=true->(snap.length=min 5 (1+bm p')\/snap.length=min 5 (2+bm p')\/snap.length=5) ->
       ∃ D full,bm p'<=D+bm p/\(snap.length=min 5 (2+bm p')->bm p' < D+bm p\/full)/\(snap.length=5->full)/\iN D full w t H' cs ad w2 [] be) ->
      Rel P C A3 X2 { σ' with vr:=(σ.eI r g).vr,aA:=σ.aA } a w2 (bL F r Fr):=by
 obtain ⟨hr,t1,m1,H1,v1,cs,ad,Fv,kk,h1,Y,h3,h4,h5,h6,h7,h8⟩:=h.yr hk
 obtain ⟨e,h1⟩:=aU h1
 subst e
 refine ⟨hr,m1,H1,v1,cs,ad,Fv,⟨Y⟩,h3,h4,h5,λb o e=>⟨h6 b o e,h7 b o e⟩,λw2 A2 be QE X2 g1 g2 g3 g4 g5 g6 g7=>?_⟩
 obtain ⟨t0,m3,H3,v3,Fr,A3,k1,⟨m0,H0,v0,k0⟩,k2,k3,k4⟩:=h8 m [] v h1 w2 A2 be QE X2 g1 g2 g3 g4 g5 g6 g7
 refine ⟨A3,_,Fr,k1,k2,k4 _ (AS ?_ ?_ .inl) (λp' snap hb ap hl=>?_),?_,λg Ta Tb fM br=>?_⟩
 ·split
  ·exact nM (h.eg r)
  ·exact kL _ (h.eg r)
 ·split
  ·exact tL (h.eg r)
  ·exact sk _ (h.eg r)
 ·unfold St.ok at ap
  rw[pO,h_,if_pos rfl,ik] at ap
  by_cases hf:t.flat=true
  ·rw[if_pos hf] at ap
   have:=vX (h.eg r) hb ap
   exact ⟨bm p'+1,False,by omega,λ_=>.inl (by omega),λ_=>by omega,iN.flat (A:=A) ad g7 hf _⟩
  ·rw[if_neg hf] at ap
   have:=tM (bm p) (h.eg r) hb ap
   exact ⟨0,False,by omega,λ_=>.inl (by omega),λ_=>by omega,iN.zero (A:=A) ad g7⟩
 ·rw[wW];exact kM _ _ _ _ _
 ·refine k4 _ ⟨by rw[wW];exact kM _ _ _ _ _,λi hi=>?_,?_,λi hi=>?_,?_,?_,λe he=>he,λj k hm=>hm,λe he=>?_,λ_ _=>.inr fM⟩ (λp' snap hb ap hl=>br p' snap hb ?_ hl)
  ·show (((σ.dq r t0 m3 H3 v3).eI r _).head r _).get i=_
   rw[pN];exact nN r t0 m3 H3 v3 i hi
  ·show (((σ.dq r t0 m3 H3 v3).eI r _).head r _).get r=_
   rw[pN];rfl
  ·show (σ.eI r g).dJ i=σ.dJ i
   grind [h_]
  ·show Below _ ((σ.eI r g).dJ r)
   grind [h_]
  ·show ((σ.eI r g).dJ r).length=5
   grind [h_]
  ·grind [Dg,St.eI,so]
  ·have ap:preB snap ((σ.eI r g).dJ r)=true:=ap
   grind [h_]
end
end OT
set_option linter.unusedVariables false
set_option linter.unusedSimpArgs false
namespace OT
open Go
section
variable {P:Program} {C:Ctx} {A:Cells} {X:FP} {σ:St} {a:Act} {w:World} {F:Nat->FP} {R:Type} {x:R}
theorem Rel.grow (h:Rel P C A X σ a w F) {w1:World} (hw:Ext w w1 (λ_ _=>0)) {A1:Cells} {X1:FP} (hA:∀ b i,A b i->A1 b i)
  (tO:∀ b i,A1 b i->A b i\/(w.heap.size<=b/\b < w1.heap.size/\X1 b i=0)) (hX:∀ b i,X1 b i<=X b i\/(w.heap.size<=b/\b < w1.heap.size/\X1 b i<=1)):Rel P C A1 X1 σ a w1 F:=by
 have jC:∀ b i,A b i->∀ u,ce w b i=some u->ce w1 b i=some u:=λb i ha u hu=>hw.cell b i (h.dA b i (.inr ha)) rfl u hu
 have F7:∀ b i,w.heap.size<=b->ao σ.n F b i=0:=λb i hb=>by
  rcases Nat.eq_zero_or_pos (ao σ.n F b i) with h0 | h0
  ·exact h0
  ·have:=h.dA b i (.inl (by omega));omega
 have tN:∀ j,j < σ.n->∀ b i,1<=F j b i->(∀ u,ce w b i=some u->ce w1 b i=some u)/\w1.frozen? ⟨b,i,none⟩=w.frozen? ⟨b,i,none⟩:=λj hj b i hp=>by
  have hb:=h.dA b i (.inl (by grind [a_]))
  exact ⟨λu hu=>hw.cell b i hb rfl u hu,hw.oM b i hb⟩
 have fe:nz σ a w σ a w1:=λr p snap hb=>⟨hb,λap=>⟨ap,λhl pl df=>⟨pl.H,pl.cs,by
  have aB:=jR df
  exact lG (h.cj r aB) rfl rfl jC (λb i hp=>(tN r aB b i hp).1) df,λ_=>rfl⟩⟩⟩
 refine ⟨h.size,h.defers,λi hi=>aV.eL fe hA jC hw.lY (tN i hi) (h.cj i hi),λd r p snap hm=>iv.eL fe (h.gh d r p snap hm),λb i=>?_,λb i hp ha=>?_,λb i hp=>?_,
  h.eg,h.ext.trans hw (λ_ _ _ _=>rfl),λb i hp=>?_,λb i ha=>hA b i (h.a0 b i ha),λb i ha=>?_,h.fH,λr t m H v hg hl=>?_,λj k hm R' f_=>?_,h.mB⟩
 ·have h1:=h.f5 b i
  grind
 ·rcases tO b i ha with ha | ⟨h1,Y,h3⟩
  ·have aB:=h.dA b i (.inr ha)
   rcases hX b i with Y | ⟨Y,_⟩
   ·exact h.gD b i (by omega) ha
   ·omega
  grind
 ·rcases hp with hp | ha
  ·rcases hX b i with Y | ⟨Y,h3,_⟩
   ·exact Nat.lt_of_lt_of_le (h.dA b i (.inl (by omega))) hw.size
   ·exact h3
  ·rcases tO b i ha with ha | ⟨h1,Y,h3⟩
   ·exact Nat.lt_of_lt_of_le (h.dA b i (.inr ha)) hw.size
   ·exact Y
 ·rcases hX b i with Y | ⟨Y,_⟩
  ·exact h.own b i (by omega)
  ·exact .inr (Nat.le_trans h.ext.size Y)
 ·rcases tO b i ha with ha | ⟨h1,_⟩
  ·exact h.J b i ha
  ·exact .inr (.inr (Nat.le_trans h.ext.size h1))
 ·obtain ⟨b,h1,Y⟩:=h.whole r t m H v hg hl
  exact ⟨b,h1,hw.lY _ _ Y⟩
 ·rcases Nat.lt_or_ge j σ.n with hj | hj
  ·have iK:=h.cj j hj
   cases oS:bk w (tmp a j) (σ.get j) with
   | none=>exfalso;cases hg:σ.get j <;> rw[hg] at oS f_ <;> simp only[bk] at oS f_ <;> first | grind | grind | grind
   | some R0=>
    rw[mD iK (λb i hp=>(tN j hj b i hp).1) oS] at f_
    injection f_ with f_
    subst f_
    exact h.e7 j k hm _ oS
  ·rw[ek (Nat.not_lt.2 hj)] at f_;cases f_
def bg (P:Program):Operand->Bool
 | .func f=>(P.funcs[f]?).any (·.nfree == 0)
 | _=>true
theorem bE (h:Rel P C A X σ a w F) {o:Operand} (ho:bg P o=true):aV P A σ a w (a.eval o) (bh σ o) (λ_ _=>0)\/∃ xs,bh σ o=.iI xs:=by
 cases o with
 | tmp i=>
  show aV P A σ a w (tmp a i) _ _\/_
  rcases Nat.lt_or_ge i σ.n with hi | hi
  ·have hs:=h.cj i hi
   simp only[bh]
   cases hg:σ.get i with
   | own t m H v=>
    rw[hg] at hs
    obtain ⟨cs,h1,Y⟩:=hs
    left
    have df:place σ a w i []=some ⟨t,H,cs,none⟩:=by
     grind [place,bk,dz,af.length,af.one,aD]
    have h5:=h.eg i
    refine ⟨?_,λ_=>⟨_,df,h1,?_⟩⟩
    ·unfold ld
     split
     ·intro j y hj;grind
     ·intro j y hj;grind
     ·exact Below.refl _
    ·unfold ld
     grind [mz]
   | box t m H v=>
    rw[hg] at hs
    obtain ⟨b,o,L,F1,h1,Y,h3,h4,h5,h6⟩:=hs
    left
    have Tc:=h.eg i
    refine ⟨?_,λ_=>⟨⟨t,H,L,some (b,o)⟩,b,o,?_,rfl,h1,by grind [lX]⟩⟩
    ·unfold lX
     intro j y hj;grind
    grind [place,bk,bB,aD]
   | iI xs=>grind
   | dead=>exact .inl trivial
   | mn=>rw[hg] at hs;exact .inl hs
   | val t v=>rw[hg] at hs;exact .inl hs
   | cp t v=>rw[hg] at hs;exact .inl hs
   | ref r p snap=>rw[hg] at hs;exact .inl hs
   | ptr r p snap=>rw[hg] at hs;exact .inl hs
   | sub r p snap lo hi=>rw[hg] at hs;exact .inl hs
  ·simp only[bh,ek (Nat.not_lt.2 hi)];exact .inl trivial
 | const v=>
  left
  show aV P A σ a w v (jM v) _
  unfold jM
  split
  ·split
   ·rename_i hn;exact ⟨[_],rfl,by grind [Ro,fZ]⟩
   ·trivial
  ·exact ⟨[_],rfl,rfl⟩
  ·exact ⟨[_],rfl,rfl⟩
  ·exact ⟨[_],rfl,rfl⟩
  ·exact ⟨[_],rfl,rfl⟩
  ·exact ⟨[_],rfl,rfl⟩
  ·exact ⟨[_],rfl,by simp[Ro]⟩
  ·rfl
  ·trivial
 | func f=>
  left
  simp only[bg,Option.any_eq_true,beq_iff_eq] at ho
  obtain ⟨fn,h1,Y⟩:=ho
  exact ⟨[_],rfl,#[],rfl,fn,h1,.inl ⟨Y,rfl⟩⟩
 | global g=>exact .inl trivial
def AO (A:Cells) (σ:St) (F:Nat->FP):Cells:=λb i=>A b i\/1<=ao σ.n F b i
theorem bp (t:Ty) (y:Value) (h:isAgg t=false):aZ t [y]=y:=by simp[aZ,h]
theorem Ro.piece {e:Ty} {v:List e.den} {xa:Option Addr} {n cap lo hi cap':Nat} {lH:Option Addr} (h:Ro P w A (.aa e) v [.slice xa n cap]) (h1:lo<=hi) (Y:hi<=n) (h3:cap'+lo=cap) (h4:xa=none->lH=none)
  (h5:∀ ad,xa=some ad->∃ aX,lH=some aX/\aX.spot=ad.spot/\aX.block=ad.block/\(lo < hi->aX.off=ad.off+lo*e.sz)) :
  Ro P w A (.aa e) ((v.take hi).drop lo) [.slice lH (hi - lo) cap']:=by
 obtain ⟨a0,PE,g1,g2,g3,g4⟩:=h
 simp only[List.cons.injEq,Value.slice.injEq,and_true] at g1
 obtain ⟨rfl,rfl,rfl⟩:=g1
 have hlen:List.length ((v.take hi).drop lo)=hi - lo:=by simp;omega
 refine ⟨lH,cap',by rw[hlen],by grind,λhn=>?_,λaX Eb=>?_⟩
 ·rw[hlen]
  cases F8:xa <;> grind
 ·cases F8:xa <;> grind
def AR (A:Cells) (F:Nat->FP) (rs:List Nat):Cells:=λb i=>A b i\/∃ r ∈ rs,1<=F r b i
theorem zf (h:Rel P C A X σ a w F) {s:Slot} {tv:Value} {G:FP} (hs:aV P A σ a w tv s G) {t:Ty} {K:t.den->Option R} (hk:jy σ s t K=some x) :
  ∃ (v:t.den) (cs:List Value),K v=some x/\tv=aZ t cs/\Ro P w (AR A F (eQ s)) t v cs:=by
 have F9:∀ b i,A b i->AR A F (eQ s) b i:=λb i ha=>.inl ha
 have oV:∀ b i,A b i->∀ u,ce w b i=some u->ce w b i=some u:=λ_ _ _ _ h=>h
 cases s with
 | val t' v=>
  obtain ⟨e,hk⟩:=aU hk;subst e
  obtain ⟨cs,h1,Y⟩:=hs
  grind [Ro.mono]
 | cp t' v=>
  obtain ⟨e,hk⟩:=aU hk;subst e
  exact ⟨v,[tv],hk,(bp _ _ rfl).symm,Ro.mono oV F9 _ hs⟩
 | mn=>
  simp only[jy] at hk
  split at hk
  ·rename_i t e
   have hs:tv=.slice none 0 0:=hs
   subst hs
   exact ⟨[],_,hk,(bp _ _ rfl).symm,none,0,rfl,Nat.le_refl _,λ_=>rfl,λad di=>by cases di⟩
  ·cases hk
 | ref r p snap=>
  simp only[jy] at hk
  split at hk
  ·rename_i ap
   obtain ⟨hr,t',m',H',v',aJ,aX,F',h1,Y,h3,h4,h5,h6⟩:=d7 h hk
   obtain ⟨pl,g1,g2,g3⟩:=hs.2 ap
   rw[h3] at g1
   injection g1 with g1
   subst g1
   split at h1
   ·rename_i hH
    have hH:=List.isEmpty_iff.1 hH;subst hH
    obtain ⟨e,h1⟩:=aU h1;subst e
    exact ⟨v',aJ,h1,g2,af.my F9 _ h4 (λb i hp=>.inr ⟨r,List.mem_singleton.2 rfl,by grind⟩)⟩
   ·cases h1
  ·cases hk
 | sub r p snap lo hi=>
  simp only[jy] at hk
  split at hk
  ·rename_i ap
   obtain ⟨hr,t',m',H',v',aJ,aX,F',h1,Y,h3,h4,h5,h6⟩:=d7 h hk
   obtain ⟨pl,e,xa,n,cap,lH,cap',g1,g2,g3,g4,g5,g6,g7,Dh,g8,g9,g10⟩:=hs.2 ap
   rw[h3] at g1
   injection g1 with g1
   subst g1
   simp only at g2 g3
   subst g2;subst g3
   split at h1
   ·rename_i hH
    have hH:=List.isEmpty_iff.1 hH;subst hH
    obtain ⟨e',h1⟩:=aU h1;subst e'
    exact ⟨_,_,h1,by rw[bp _ _ rfl];exact g6,Ro.piece (af.my F9 _ h4 (λb i hp=>.inr ⟨r,List.mem_singleton.2 rfl,by grind⟩)) g4 g5 g7 g8 g9⟩
   ·cases h1
  ·cases hk
 | ptr r p snap=>
  simp only[jy] at hk
  split at hk
  ·rename_i ap
   obtain ⟨hr,t',m',H',v',aJ,aX,F',h1,Y,h3,h4,h5,h6⟩:=d7 h hk
   obtain ⟨pl,b,o,g1,g2,g3,g4⟩:=hs.2 ap
   rw[h3] at g1
   injection g1 with g1
   subst g1
   split at h1
   ·rename_i hH
    have hH:=List.isEmpty_iff.1 hH;subst hH
    obtain ⟨e',h1⟩:=aU h1;subst e'
    simp only at g2
    subst g2
    refine ⟨v',[tv],h1,(bp _ _ rfl).symm,⟨b,o,none⟩,by rw[g3],rfl,aJ,af.length _ h4,λj u hu=>⟨h6 b o rfl j u hu,?_⟩,
     af.my F9 _ h4 (λb i hp=>.inr ⟨r,List.mem_singleton.2 rfl,by grind⟩)⟩
    have hj:j < t'.sz:=af.length _ h4 ▸ (List.getElem?_eq_some_iff.1 hu).1
    unfold place at h3
    cases hR:bk w (tmp a r) (σ.get r) with
    | none=>grind
    | some R0=>
     rw[hR] at h3
     obtain ⟨m0,v0,F1,q1,q2,q3,_⟩:=mC (h.cj r hr) hR
     exact FQ F9 p R0.t q1 (λb i hp=>.inr ⟨r,List.mem_singleton.2 rfl,by grind⟩) (λb' o' e' j hj=>.inr ⟨r,List.mem_singleton.2 rfl,by
      grind [bj]⟩) h3 b o rfl j hj
   ·cases h1
  ·cases hk
 | _=>simp[jy] at hk
theorem tP (h:Rel P C A X σ a w F) {s:Slot} {t:Ty} {K:t.den->Option R} (hk:jy σ s t K=some x):∀ r ∈ eQ s,r < σ.n:=by
 intro r hr
 cases s <;> simp only[eQ,List.mem_singleton,List.not_mem_nil] at hr
 all_goals
  subst hr
  simp only[jy] at hk
  split at hk
  ·exact (d7 h hk).1
  ·cases hk
theorem Di (h:Rel P C A X σ a w F) {s:Slot} {tv:Value} {G:FP} (hs:aV P A σ a w tv s G) {t:Ty} {K:t.den->Option R} (hk:jy σ s t K=some x) :
  ∃ (v:t.den) (cs:List Value),K v=some x/\tv=aZ t cs/\Ro P w (AO A σ F) t v cs:=by
 obtain ⟨v,cs,h1,Y,h3⟩:=zf h hs hk
 refine ⟨v,cs,h1,Y,Ro.mono (λ_ _ _ _ h=>h) (λb i ha=>?_) t h3⟩
 rcases ha with ha | ⟨r,hr,hp⟩
 ·exact .inl ha
 ·have:=a_ F (tP h hk r hr) b i
  exact .inr (by omega)
end
end OT
set_option linter.unusedVariables false
set_option linter.unusedSimpArgs false
namespace OT
open Go
section
variable {P:Program} {C:Ctx} {A:Cells} {X:FP} {σ:St} {a:Act} {w:World} {F:Nat->FP} {R:Type} {x:R}
theorem wX {l:List (Nat×Nat×Bool)} {r:Nat} (h:rX l r=false) (k:Nat):(r,k,false) ∉ l:=by
 induction l with
 | nil=>grind
 | cons y l ih=>
  obtain ⟨k',n,b⟩:=y
  simp_all [rX]
theorem iw (a:Act) (i:Nat):a.put (some i) (tmp a i)=a:=by
 have:a.tmps.setIfInBounds i (tmp a i)=a.tmps:=by
  apply Array.ext
  all_goals simp_all [Array.getElem_setIfInBounds,tmp]
 simp[Act.put,this]
theorem ko (h:Rel P C A X σ a w F) {s:Slot} {tv:Value} {G:FP} (hs:aV P A σ a w tv s G) {mv:Bool} {t:Ty} {K:Md->t.den->St->Option R} (hk:ep σ s mv t K=some x) :
  ∃ (A':Cells) (σ':St) (F':Nat->FP) (m:Md) (v:t.den) (cs:List Value) (Fv:FP),K m v σ'=some x/\(∀ b i,A b i->A' b i)/\Rel P C A' (λb i=>X b i+Fv b i) σ' a w F'/\σ'.n=σ.n/\ic σ σ' /\
   tv=aZ t cs/\af P w A' t m [] v cs Fv:=by
 have hz:Rel P C A (λb i=>X b i+0) σ a w F:=h
 cases s with
 | val t' v=>
  simp only[ep] at hk
  obtain ⟨e,hk⟩:=aU hk;subst e
  obtain ⟨cs,h1,Y⟩:=hs
  exact ⟨A,σ,F,_,v,cs,λ_ _=>0,hk,λ_ _ h=>h,hz,rfl,ic.refl σ,h1,Ro.rep _ _ (bS _) Y⟩
 | cp t' v=>
  simp only[ep] at hk
  obtain ⟨e,hk⟩:=aU hk;subst e
  exact ⟨A,σ,F,_,v,[tv],λ_ _=>0,hk,λ_ _ h=>h,hz,rfl,ic.refl σ,(bp _ _ rfl).symm,Ro.rep _ _ (bS _) hs⟩
 | mn=>
  simp only[ep] at hk
  split at hk
  ·rename_i t e
   have hs:tv=.slice none 0 0:=hs
   subst hs
   refine ⟨A,σ,F,_,_,[.slice none 0 0],λ_ _=>0,hk,λ_ _ h=>h,hz,rfl,ic.refl σ,(bp _ _ rfl).symm,?_⟩
   grind [af,hole,lz,Md.own]
  ·cases hk
 | ref r p snap=>
  simp only[ep] at hk
  split at hk
  ·rename_i ap
   obtain ⟨hr,t',m',H',v',aJ,aX,F',h1,Y,h3,h4,h5,h6⟩:=d7 h hk
   obtain ⟨pl,g1,g2,g3⟩:=hs.2 ap
   rw[h3] at g1
   injection g1 with g1
   subst g1
   split at h1
   ·rename_i hH
    have hH:=List.isEmpty_iff.1 hH;subst hH
    obtain ⟨e,h1⟩:=aU h1;subst e
    split at h1
    ·rename_i hm;subst hm
     exact ⟨A,σ,F,_,v',aJ,λ_ _=>0,h1,λ_ _ h=>h,hz,rfl,ic.refl σ,g2,Ro.rep _ _ (bS _) (af.ro _ (bS _) h4)⟩
    ·split at h1
     ·obtain ⟨A',σ',F2,cs,ad,Fv,k1,k2,k3,k4,kr,k5,k6⟩:=yt h h1 ⟨Y⟩
      rw[h3] at k5
      injection k5 with k5
      simp only[Pl.mk.injEq,true_and] at k5
      obtain ⟨rfl,rfl⟩:=k5
      exact ⟨A',σ',F2,_,v',aJ,Fv,k1,k2,k3,k4,kr,g2,af.mono k2 (λ_ _ _ _ h=>h) (λ_ _ h=>h) _ k6 (λ_ _=>Nat.le_refl _) (λ_ _ _ _ h=>h)⟩
     ·obtain ⟨A',σ',F2,t2,m2,v2,cs,ad,k1,k2,k3,k4,kr,k5,k6,k7⟩:=ol h h1
      obtain ⟨e1,e2,e3,e4⟩:=At.inj ⟨Y⟩ k5
      subst e1
      have e4:=eq_of_heq e4
      subst e4
      rw[h3] at k6
      injection k6 with k6
      simp only[Pl.mk.injEq,true_and] at k6
      obtain ⟨rfl,rfl⟩:=k6
      exact ⟨A',σ',F2,_,v',aJ,λ_ _=>0,k1,k2,k3,k4,kr,g2,Ro.rep _ _ (bS _) k7⟩
   ·cases h1
  ·cases hk
 | sub r p snap lo hi=>
  simp only[ep] at hk
  split at hk
  ·rename_i ap
   obtain ⟨hr,t',m',H',v',aJ,aX,F',h1,Y,h3,h4,h5,h6⟩:=d7 h hk
   obtain ⟨pl,e,xa,n,cap,lH,cap',g1,g2,g3,g4,g5,g6,g7,Dh,g8,g9,g10⟩:=hs.2 ap
   rw[h3] at g1
   injection g1 with g1
   subst g1
   simp only at g2 g3
   subst g2;subst g3
   split at h1
   ·rename_i hH
    have hH:=List.isEmpty_iff.1 hH;subst hH
    obtain ⟨e',h1⟩:=aU h1;subst e'
    simp only at h1
    have pP:tv=aZ (.aa e) [.slice lH (hi - lo) cap']:=by rw[bp _ _ rfl];exact g6
    split at h1
    ·rename_i hm;subst hm
     exact ⟨A,σ,F,_,_,_,λ_ _=>0,h1,λ_ _ h=>h,hz,rfl,ic.refl σ,pP,Ro.rep _ _ (bS _) (Ro.piece (af.ro _ (bS _) h4) g4 g5 g7 g8 g9)⟩
    ·split at h1
     ·split at h1
      ·rename_i AU
       subst AU
       obtain ⟨A',σ',F2,cs,ad,Fv,k1,k2,k3,k4,kr,k5,k6⟩:=yt h h1 ⟨Y⟩
       rw[h3] at k5
       injection k5 with k5
       simp only[Pl.mk.injEq,true_and] at k5
       obtain ⟨rfl,rfl⟩:=k5
       have k6:=af.mono k2 (λ_ _ _ _ h=>h) (λ_ _ h=>h) _ k6 (λ_ _=>Nat.le_refl _) (λ_ _ _ _ h=>h)
       refine ⟨A',σ',F2,_,_,_,Fv,k1,k2,k3,k4,kr,pP,?_⟩
       have F8:=Dh rfl
       subst F8
       simp only[Nat.add_zero] at g7
       subst g7
       simp only[af,hole,List.any_nil,Bool.false_eq_true,if_false] at k6 ⊢
       split at k6
       ·rename_i cy
        rw[if_pos cy]
        obtain ⟨a0,PE,q1,q2,q3,q4,q5⟩:=k6
        simp only[List.cons.injEq,Value.slice.injEq,and_true] at q1
        obtain ⟨rfl,rfl,rfl⟩:=q1
        have hlen:List.length ((v'.take hi).drop 0)=hi:=by simp;omega
        refine ⟨lH,cap',by rw[hlen];rfl,by grind,q3,q4,λad di=>?_⟩
        obtain ⟨r1,r2,r3,Fi,r4,r5⟩:=q5 ad di
        refine ⟨r1,r2,r3,Fi,λb i=>?_,λi y hy=>?_⟩
        ·rw[hlen]
         have:=r4 b i;have:=y_ (List.length v') Fi 0 hi (by omega) b i
         grind
        simp_all [List.getElem?_take]
       ·rename_i cy
        rw[if_neg cy]
        exact ⟨trivial,k6.2.1,Ro.piece (cap':=cap') k6.2.2 g4 g5 rfl g8 g9⟩
      ·cases h1
     ·obtain ⟨A',σ',F2,t2,m2,v2,cs,ad,k1,k2,k3,k4,kr,k5,k6,k7⟩:=ol h h1
      obtain ⟨e1,e2,e3,e4⟩:=At.inj ⟨Y⟩ k5
      subst e1
      have e4:=eq_of_heq e4
      subst e4
      rw[h3] at k6
      injection k6 with k6
      simp only[Pl.mk.injEq,true_and] at k6
      obtain ⟨rfl,rfl⟩:=k6
      exact ⟨A',σ',F2,_,_,_,λ_ _=>0,k1,k2,k3,k4,kr,pP,Ro.rep _ _ (bS _) (Ro.piece k7 g4 g5 g7 g8 g9)⟩
   ·cases h1
  ·cases hk
 | ptr r p snap=>
  cases p with
  | cons s p=>simp[ep] at hk
  | nil=>
   simp only[ep] at hk
   split at hk
   ·rename_i ap
    split at hk
    ·rename_i t' m' H' v' hg
     split at hk
     ·rename_i hc
      simp only[Bool.and_eq_true,List.isEmpty_iff,Bool.not_eq_true'] at hc
      obtain ⟨rfl,hl⟩:=hc
      obtain ⟨e,hk⟩:=aU hk;subst e
      have hr:r < σ.n:=by
       grind [ek]
      obtain ⟨pl,b,o,g1,g2,g3,g4⟩:=hs.2 ap
      have iK:=h.cj r hr
      rw[hg] at iK
      obtain ⟨b0,o0,L,F1,q1,q2,q3,q4,q5,q6⟩:=iK
      unfold place at g1
      rw[hg,q1] at g1
      simp only[bk,Option.bind_some,aD,Option.some.injEq] at g1
      subst g1
      simp only[Option.some.injEq,Prod.mk.injEq] at g2
      obtain ⟨rfl,rfl⟩:=g2
      obtain ⟨b1,w1,w2⟩:=h.whole r t' m' [] v' hg (wX hl)
      rw[q1] at w1
      simp only[Value.pointer.injEq,Option.some.injEq,Addr.mk.injEq,and_true] at w1
      obtain ⟨rfl,rfl⟩:=w1
      have qY:=h.put hr (s:=.dead) (v:=tmp a r) (Fd:=λ_ _=>0) (X':=λb i=>X b i+F r b i) trivial (λb i=>by omega) (λt m H v e=>by cases e)
      rw[iw] at qY
      refine ⟨A,_,_,_,v',[tv],F r,hk,λ_ _ h=>h,qY,rfl,(λw tv i R hR=>⟨R.H,by
       rw[nA] at hR
       split at hR
       ·cases hR
       ·exact hR⟩),(bp _ _ rfl).symm,?_⟩
      grind [af,hole,Md.own,Md.e]
     ·cases hk
    ·cases hk
   ·cases hk
 | _=>simp[ep] at hk
theorem uV {t:Ty} {m:Md} {v:t.den} {cs:List Value} {Fv:FP} (h:af P w A t m [] v cs Fv) :
  aV P A σ a w (aZ t cs) (laid t m v) Fv/\∀ t' m' H' v',laid t m v=.box t' m' H' v'->∃ b,aZ t cs=.pointer (some ⟨b,0,none⟩)/\cr w b (t'.sz,false):=by
 unfold laid
 split
 ·rename_i hm;subst hm
  exact ⟨⟨cs,rfl,af.ro _ (bS _) h⟩,λt' m' H' v' e=>by cases e⟩
 ·split
  ·rename_i e m' v' _
   simp only[af,hole,List.any_nil,Bool.false_eq_true,if_false,Md.own,if_true,Md.e] at h
   obtain ⟨b,rfl,Y,L,F1,h3,h4,h5,h6⟩:=h
   rw[bp _ _ rfl]
   refine ⟨⟨b,0,L,F1,rfl,h3,h4,λj hj=>by rw[Nat.zero_add];exact Y.frozen hj,h5,h6⟩,λt' m' H' v' e=>?_⟩
   grind
  ·exact ⟨⟨cs,rfl,h⟩,λt' m' H' v' e=>by cases e⟩
theorem Rel.KB (h:Rel P C A X σ a w F) {d:Nat} (hd:σ.n<=d) (s:Slot) (v:Value) {X':FP} (ht:∀ b i,X' b i<=X b i):Rel P C A X' (σ.put d s) (a.put (some d) v) w F:=by
 have fi:=h.size
 have ha:a.put (some d) v=a:=by simp[Act.put,Array.setIfInBounds,fi,Nat.not_lt.2 hd]
 rw[ha]
 have nB:∀ i,(σ.put d s).get i=σ.get i:=λi=>by
  grind [nA]
 have fe:nz σ a w (σ.put d s) a w:=by
  intro r p snap hb
  rw[pu,St.ok,pu]
  by_cases hr:d=r
  ·subst hr
   simp only[if_true]
   refine ⟨hb.trans (jE _),λap=>?_⟩
   have h0:=vq (h.eg d) hb ap
   exact ⟨(uS hb (jE _) ap).1,λhl=>by omega⟩
  ·simp only[if_neg hr]
   refine ⟨hb,λap=>⟨ap,λhl pl df=>⟨pl.H,pl.cs,?_,λ_=>rfl⟩⟩⟩
   simp_all [place]
 refine ⟨h.size,h.defers,λi hi=>?_,?_,λb i=>by have:=h.f5 b i;have:=ht b i;show X' b i+ao σ.n F b i<=1;omega,λb i hp=>h.gD b i (by have:=ht b i;have hp:1<=X' b i+ao σ.n F b i:=hp;omega),
  λb i hp=>h.dA b i (hp.imp (λhp=>by have:=ht b i;have hp:1<=X' b i+ao σ.n F b i:=hp;omega) id),λi=>?_,h.ext,λb i hp=>h.own b i (by have:=ht b i;have hp:1<=X' b i+ao σ.n F b i:=hp;omega),h.a0,h.J,?_,?_,?_,h.mB⟩
 ·rw[nB]
  exact aV.eL fe (λ_ _ h=>h) (λ_ _ _ _ h=>h) (λ_ _ h=>h) (λ_ _ _=>⟨λ_ h=>h,rfl⟩) (h.cj i hi)
 ·intro d' r p snap hm
  exact iv.eL fe (h.gh d' r p snap (AN hm).1)
 ·rw[pu]
  split
  ·rw[tK];exact h.eg d
  ·exact h.eg i
 ·intro j k hm;exact h.fH j k (oY hm).1
 ·intro r t m H v' hg hl
  rw[nB] at hg
  refine h.whole r t m H v' hg λk hm=>hl k (wS hm λe=>?_)
  grind [ek]
 ·intro j k hm R hR
  rw[nB] at hR
  exact h.e7 j k (oY hm).1 R hR
theorem Rel.aI (h:Rel P C A X σ a w F) (d:Option Tmp) {s:Slot} {v:Value} {Fd X':FP} (hs:aV P A σ a w v s Fd) (ht:∀ b i,X' b i+Fd b i<=X b i)
  (Jr:∀ t m H v',s=.box t m H v'->∃ b,v=.pointer (some ⟨b,0,none⟩)/\cr w b (t.sz,false)):∃ F',Rel P C A X' (σ.aI d s) (a.put d v) w F':=by
 cases d with
 | none=>exact ⟨F,h.less λb i=>by grind⟩
 | some d=>
  rcases Nat.lt_or_ge d σ.n with hd | hd
  ·exact ⟨_,h.put hd hs (λb i=>by grind) Jr⟩
  ·exact ⟨_,h.KB hd s v λb i=>by grind⟩
def tQ (P:Program) (C:Ctx) (σ:St) (a:Act) (w:World):Prop:=∃ A F,Rel P C A (λ_ _=>0) σ a w F
end
end OT
set_option linter.unusedVariables false
set_option linter.unusedSimpArgs false
namespace OT
open Go
def zc:Ty->Option (List Value)
 | .int k=>some [.int k 0]
 | .bool=>some [.bool false]
 | .str=>some [.string ⟨#[]⟩]
 | .unit=>some []
 | .pair a b=>match zc a,zc b with
  | some x,some y=>some (x++y)
  | _,_=>none
 | .arr n e=>match zc e with
  | some x=>some (List.replicate n x).flatten
  | none=>none
 | .aa _=>some [.slice none 0 0]
 | _=>none
def LN:Value->Value->Bool
 | .int k n,.int k' n'=>decide (k=k')&&decide (n=n')
 | .bool a,.bool b=>a == b
 | .string s,.string t=>decide (s.data.toList=t.data.toList)
 | .slice none 0 0,.slice none 0 0=>true
 | _,_=>false
def yu:List Value->List Value->Bool
 | [],[]=>true
 | a::x,b::y=>LN a b&&yu x y
 | _,_=>false
theorem LO {a b:Value} (h:LN a b=true):a=b:=by
 unfold LN at h
 split at h
 ·grind
 ·grind
 ·rename_i s t
  simp only[decide_eq_true_eq] at h
  congr 1
  cases s;simp_all
 all_goals grind
theorem Dj:∀ {x y:List Value},yu x y=true->x=y
 | [],[],_=>rfl
 | a::x,b::y,h=>by
  simp only[yu,Bool.and_eq_true] at h
  rw[LO h.1,Dj h.2]
 | [],_::_,h=>by simp[yu] at h
 | _::_,[],h=>by simp[yu] at h
def iX (P:Program) (t:Ty) (i:TypeId):Bool:=
 match P.info? i with
 | some inf=>Nat.beq inf.size t.sz&&Nat.ble inf.bytes 512&&(match inf.zero with
  | some z=>Nat.beq z.cells.size t.sz&&(match zc t with
   | some L=>yu z.cells.toList L
   | none=>true)
  | none=>false)
 | none=>false
def iL (P:Program):Ty->Sum TypeId (List Field)->Bool
 | .int _,.inl _=>true
 | .bool,.inl _=>true
 | .str,.inl _=>true
 | .unit,.inl i=>!P.stoodInHeld i
 | .unit,.inr _=>true
 | .pair a b,.inl i=>!P.stoodInHeld i&&(match P.underlying i with
  | some (.struct fs)=>(match fs.toList with
   | f::r=>f.name != "_" && iL P a (.inl f.type)&&iL P b (.inr r)
   | []=>false)
  | _=>false)
 | .pair a b,.inr (f::r)=>f.name != "_" && iL P a (.inl f.type)&&iL P b (.inr r)
 | .arr _ e,.inl i=>(match P.underlying i with
  | some (.array _ el)=>iL P e (.inl el)
  | _=>false)
 | _,_=>false
def dep:Ty->Nat
 | .arr _ e=>dep e+1
 | .pair a b=>max (dep a+1) (dep b)
 | _=>1
def LP (P:Program) (k:Ty) (i:TypeId):Bool:=isAgg k&&k.fv&&k.flat&&iL P k (.inl i)&&Nat.ble (dep k) 9000
def Jx (P:Program) (v:Ty) (i:TypeId):Bool:=match P.info? i with
 | some inf=>(match inf.zero with
  | some (.agg _)=>isAgg v
  | some _=>!isAgg v
  | none=>false)
 | none=>false
def aq (P:Program):Ty->Sum TypeId (List Field×Nat)->Bool
 | .int k,.inl i=>iX P (.int k) i&&(match P.underlying i with | some (.int k')=>decide (k=k') | _=>false)
 | .bool,.inl i=>iX P .bool i&&(match P.underlying i with | some .bool=>true | _=>false)
 | .str,.inl i=>iX P .str i&&(match P.underlying i with | some .string=>true | _=>false)
 | .unit,.inl i=>iX P .unit i&&(match P.underlying i with | some (.struct fs)=>fs.toList.isEmpty | _=>false)
 | .unit,.inr (fs,_)=>fs.isEmpty
 | .pair a b,.inl i=>iX P (.pair a b) i&&(match P.underlying i with
  | some (.struct fs)=>(match fs.toList with
   | f::r=>Nat.beq f.offset 0&&Nat.ble 1 a.sz&&aq P a (.inl f.type)&&aq P b (.inr (r,a.sz))
   | []=>false)
  | _=>false)
 | .pair a b,.inr (f::r,off)=>Nat.beq f.offset off&&Nat.ble 1 a.sz&&aq P a (.inl f.type)&&aq P b (.inr (r,off+a.sz))
 | .arr n e,.inl i=>iX P (.arr n e) i&&e.flat&&(match P.underlying i with | some (.array n' el)=>Nat.beq n n'&&Nat.ble 1 e.sz&&aq P e (.inl el) | _=>false)
 | .aa e,.inl i=>iX P (.aa e) i&&(match P.underlying i with | some (.slice el)=>Nat.ble 1 e.sz&&aq P e (.inl el) | _=>false)
 | .ptr e,.inl i=>iX P (.ptr e) i&&(match P.underlying i with | some (.pointer el)=>aq P e (.inl el) | _=>false)
 | .fn,.inl i=>iX P .fn i&&(match P.underlying i with | some (.func ..)=>true | _=>false)
 | .map k v,.inl i=>iX P (.map k v) i&&(match P.underlying i with | some (.map ki vi)=>aq P k (.inl ki)&&aq P v (.inl vi)&&LP P k ki&&Jx P v vi | _=>false)
 | _,_=>false
section
variable {P:Program} {w:World} {A:Cells}
theorem nO {t:Ty} {i:TypeId} (h:iX P t i=true):∃ inf z,P.info? i=some inf/\inf.size=t.sz/\inf.bytes<=512/\inf.zero=some z/\z.cells.size=t.sz/\∀ L,zc t=some L->z.cells.toList=L:=by
 grind [iX,Nat.beq_eq,Nat.ble_eq,Dj]
theorem dM {t:Ty} {i:TypeId} (h:iX P t i=true):∃ inf,P.info? i=some inf/\inf.size=t.sz/\inf.bytes<=512/\∀ L,zc t=some L->∃ z,inf.zero=some z/\z.cells.toList=L:=by
 grind [nO]
theorem eh {t:Ty} {i:TypeId} (h:aq P t (.inl i)=true):iX P t i=true:=by
 cases t <;> simp only[aq,Bool.and_eq_true] at h <;> first | exact h.1 | exact h.1.1 | cases h
theorem oZ {t:Ty} {i:TypeId} (h:aq P t (.inl i)=true):∃ d,P.underlying i=some d/\(isAgg t=true->(∃ fs,d=.struct fs)\/∃ n e,d=.array n e)/\(isAgg t=false->(∀ fs,d≠.struct fs)/\∀ n e,d≠.array n e):=by
 cases hd:P.underlying i with
 | none=>cases t <;> simp[aq,hd] at h
 | some d=>
  refine ⟨d,rfl,?_,?_⟩
  ·intro ha
   cases t <;> simp only[isAgg] at ha <;> first | cases ha | skip
   all_goals grind [aq]
  ·intro ha
   cases t <;> simp only[isAgg] at ha <;> first | cases ha | skip
   all_goals grind [aq]
theorem zg {t:Ty} {i:TypeId} (h:aq P t (.inl i)=true):(Go.isAgg i).run P w=.ok (isAgg t) w:=by
 obtain ⟨d,h1,Y,h3⟩:=oZ h
 unfold Go.isAgg
 simp only[Sem.run_bind,run_underlying h1,Result.andThen_ok]
 cases ht:isAgg t with
 | true=>
  rcases Y ht with ⟨fs,rfl⟩ | ⟨n,e,rfl⟩ <;> rfl
 | false=>
  simp_all
theorem run_sizeOf {t:Ty} {i:TypeId} (h:aq P t (.inl i)=true):(Go.sizeOf i).run P w=.ok t.sz w:=by
 obtain ⟨inf,h1,Y,_⟩:=dM (eh h)
 simp[Go.sizeOf,typeInfo,h1,Y]
theorem AV {t:Ty} (h:isAgg t=false):t.sz=1:=by cases t <;> simp_all [isAgg,Ty.sz]
theorem gV (b o n:Nat):(⟨b,o,none⟩:Addr).add n=⟨b,o+n,none⟩:=by grind [Addr.add]
theorem nP {t:Ty} {i:TypeId} (h:aq P t (.inl i)=true) {b o:Nat} {L:List Value} (hL:Has w b o L) (hl:L.length=t.sz) (gW:∀ u ∈ L,u.oneCell'=true):(loadVar i ⟨b,o,none⟩).run P w=.ok (aZ t L) w:=by
 unfold loadVar
 simp only[Sem.run_bind,zg h,Result.andThen_ok]
 cases ht:isAgg t with
 | true=>
  have:=run_loadCells_list (P:=P) w ⟨b,o,none⟩ L (λj v hj=>by rw[gV];exact lh (hL j v hj) (gW v (List.mem_of_getElem? hj)))
  rw[hl] at this
  simp only[if_true,Sem.run_bind,run_sizeOf h,Result.andThen_ok,this,Sem.run_pure,aZ,ht]
 | false=>
  have hs:=AV ht
  match L,hl with
  | [y],_=>
   have:=lh (hL 0 y rfl) (gW y (by simp))
   grind [run_load,aZ]
  | [],hl=>grind
  | _::_::_,hl=>grind
theorem o3:∀ (t:Ty) {L:List Value} {i:Sum TypeId (List Field×Nat)},zc t=some L->aq P t i=true->af P w A t (av t) [] t.zero L (λ_ _=>0)/\Ro P w A t t.zero L/\L.length=t.sz:=by
 intro t
 induction t with
 | int k=>intro L i h _;injection h with h;subst h;cases k <;> exact ⟨rfl,rfl,rfl⟩
 | bool=>intro L i h _;injection h with h;subst h;exact ⟨rfl,rfl,rfl⟩
 | str=>intro L i h _;injection h with h;subst h;exact ⟨rfl,rfl,rfl⟩
 | unit=>intro L i h _;injection h with h;subst h;exact ⟨rfl,rfl,rfl⟩
 | pair a b eG et=>
  intro L i h hl
  simp only[zc] at h
  split at h
  ·rename_i x y hx hy
   injection h with h;subst h
   have:∃ ia ib,aq P a ia=true/\aq P b ib=true:=by
    cases i with
    | inl i=>
     grind [aq]
    | inr fo=>
     obtain ⟨fs,off⟩:=fo
     cases fs <;> grind [aq]
   obtain ⟨ia,ib,h1,Y⟩:=this
   obtain ⟨ra,oa,la⟩:=eG hx h1
   obtain ⟨rb,ob,lb⟩:=et hy Y
   have e1:(x++y).take a.sz=x:=List.take_left' la
   have e2:(x++y).drop a.sz=y:=List.drop_left' la
   refine ⟨⟨rfl,λ_ _=>0,λ_ _=>0,λ_ _=>Nat.le_refl _,by rw[e1];exact ra,by rw[e2];exact rb⟩,⟨by rw[e1];exact oa,by rw[e2];exact ob⟩,by grind [Ty.sz]⟩
  ·cases h
 | arr n e ih=>
  intro L i h hl
  simp only[zc] at h
  split at h
  ·rename_i z hz
   injection h with h;subst h
   have:e.flat=true/\∃ ie,aq P e ie=true:=by
    grind [aq]
   obtain ⟨hf,ie,he⟩:=this
   obtain ⟨re,oe,le⟩:=ih hz he
   have hlen:∀ n,((List.replicate n z).flatten).length=n*e.sz:=λn=>by
    simp_all
   have km:Ro P w A (.arr n e) (Ty.arr n e).zero ((List.replicate n z).flatten):=by
    refine ⟨hf,by simp[Ty.zero],hlen n,λi x hx=>?_⟩
    have hi:i < n:=by grind [Ty.zero]
    have hx:x=e.zero:=by
     grind [Ty.zero]
    subst hx
    have:(((List.replicate n z).flatten).drop (i*e.sz)).take e.sz=z:=by
     have e1:n=i+(1+(n - i - 1)):=by omega
     rw[e1,<- List.replicate_append_replicate,<- List.replicate_append_replicate,List.flatten_append,List.flatten_append]
     grind
    grind
   exact ⟨⟨rfl,km⟩,km,hlen n⟩
  ·cases h
 | aa e ih=>
  intro L i h _
  injection h with h;subst h
  refine ⟨?_,⟨none,0,rfl,Nat.le_refl _,λ_=>rfl,λad di=>by cases di⟩,rfl⟩
  simp only[af,hole,List.any_nil,Bool.false_eq_true,if_false,av,lz,Md.own,if_true]
  exact ⟨none,0,rfl,Nat.le_refl _,by simp[maxLen],λ_=>rfl,λad di=>by cases di⟩
 | ptr e ih=>grind [zc]
 | fn=>grind [zc]
 | map k v=>grind [zc]
theorem oO {t:Ty} {i:TypeId} (h:aq P t (.inl i)=true) {L:List Value} (hz:zc t=some L):∃ z,(zeroValue i).run P w=.ok z w/\z.cells.toList=L:=by
 obtain ⟨inf,h1,Y,_,h3⟩:=dM (eh h)
 obtain ⟨z,h4,h5⟩:=h3 L hz
 simp_all [zeroValue,typeInfo]
end
end OT
