/- The proof's parts, merged: The pure interpreter of the model s code over owned trees  definitions alone, nothing is claimed here.. No conditions but those that each states. -/
import GoSem.Core.Code
import GoSem.Core.View
import Derived.Laws.IdiomCopy
import Derived.Laws.Cells
import Derived.Laws.AppendOwn
import Derived.Calls
import Derived.Lib.LaidTab
import Derived.Lib.ItoaNum
import Derived.Laws.Entries
import Derived.Laws.NewFold
import Derived.Laws.Sem
namespace OT
open Go
inductive Ty where
 | int (k:IntKind)
 | bool
 | str
 | unit
 | pair (a b:Ty)
 | arr (n:Nat) (e:Ty)
 | af (e:Ty)
 | ptr (e:Ty)
 | fn
 | map (k v:Ty)
 deriving DecidableEq
@[reducible] def pP:IntKind->Type
 | .u8=>UInt8
 | _=>Int
@[reducible] def Ty.den:Ty->Type
 | .int k=>pP k
 | .bool=>Bool
 | .str=>List UInt8
 | .unit=>Unit
 | .pair a b=>a.den×b.den
 | .arr _ e=>List e.den
 | .af e=>List e.den
 | .ptr e=>e.den
 | .fn=>Nat×Int
 | .map k v=>List (k.den×v.den)
def Ty.sz:Ty->Nat
 | .unit=>0
 | .pair a b=>a.sz+b.sz
 | .arr n e=>n*e.sz
 | _=>1
def Ty.flat:Ty->Bool
 | .pair a b=>a.flat&&b.flat
 | .arr _ e=>e.flat
 | .af _ | .ptr _ | .map _ _=>false
 | _=>true
def fy:(k:IntKind)->pP k->Int
 | .u8,n=>(n.toNat:Int)
 | .i8,n=>n
 | .i16,n=>n
 | .i32,n=>n
 | .i64,n=>n
 | .u16,n=>n
 | .u32,n=>n
 | .u64,n=>n
def rj:(k:IntKind)->Int->pP k
 | .u8,n=>UInt8.ofInt n
 | .i8,n=>IntKind.wrap .i8 n
 | .i16,n=>IntKind.wrap .i16 n
 | .i32,n=>IntKind.wrap .i32 n
 | .i64,n=>IntKind.wrap .i64 n
 | .u16,n=>IntKind.wrap .u16 n
 | .u32,n=>IntKind.wrap .u32 n
 | .u64,n=>IntKind.wrap .u64 n
def Gj:(k:IntKind)->Int->pP k
 | .u8,n=>UInt8.ofInt n
 | .i8,n=>n
 | .i16,n=>n
 | .i32,n=>n
 | .i64,n=>n
 | .u16,n=>n
 | .u32,n=>n
 | .u64,n=>n
def Ty.zero:(t:Ty)->t.den
 | .int k=>Gj k 0
 | .bool=>false
 | .str=>[]
 | .unit=>()
 | .pair a b=>(a.zero,b.zero)
 | .arr n e=>List.replicate n e.zero
 | .af _=>[]
 | .ptr e=>e.zero
 | .fn=>(0,0)
 | .map _ _=>[]
def Ty.kQ:Ty->Bool
 | .pair a b=>a.kQ&&b.kQ
 | .arr _ e=>e.kQ
 | .ptr _ | .fn | .map _ _=>false
 | _=>true
def Ty.eq:(t:Ty)->t.den->t.den->Bool
 | .int .u8,a,b=>a == b
 | .int .i8,a,b=>decide (a=b)
 | .int .i16,a,b=>decide (a=b)
 | .int .i32,a,b=>decide (a=b)
 | .int .i64,a,b=>decide (a=b)
 | .int .u16,a,b=>decide (a=b)
 | .int .u32,a,b=>decide (a=b)
 | .int .u64,a,b=>decide (a=b)
 | .bool,a,b=>a == b
 | .str,a,b=>decide (a=b)
 | .pair x y,a,b=>x.eq a.1 b.1&&y.eq a.2 b.2
 | .arr _ e,a,b=>(a.zip b).all λp=>e.eq p.1 p.2
 | _,_,_=>true
def Ty.eS:Ty->Bool
 | .int _ | .bool | .str | .unit=>true
 | .pair a b=>a.eS&&b.eS
 | .arr _ e=>e.eS
 | _=>false
def Ty.fT:Ty->Bool
 | .pair a b=>a.fT&&b.fT
 | .arr _ e | .af e | .ptr e=>e.fT
 | .map k v=>k.fT&&v.fT
 | .fn=>false
 | _=>true
inductive Md where
 | leaf
 | pair (a b:Md)
 | arr (e:Md)
 | af (own:Bool) (e:Md)
 | ptr (own:Bool) (e:Md)
 deriving DecidableEq
def kI (own:Bool):Ty->Md
 | .pair a b=>.pair (kI own a) (kI own b)
 | .arr _ e=>.arr (kI own e)
 | .af e=>.af own (kI own e)
 | .ptr e=>.ptr own (kI own e)
 | .map _ _=>.af own .leaf
 | _=>.leaf
abbrev ai:=kI false
abbrev aF:=kI true
def Md.l:Md->Md
 | .pair a _=>a
 | _=>.leaf
def Md.r:Md->Md
 | .pair _ b=>b
 | _=>.leaf
def Md.e:Md->Md
 | .arr e | .af _ e | .ptr _ e=>e
 | _=>.leaf
def Md.own:Md->Bool
 | .af o _ | .ptr o _=>o
 | _=>false
def Md.cS:Md->Bool
 | .leaf=>true
 | .pair a b=>a.cS&&b.cS
 | .arr e=>e.cS
 | .af o e=>!o&&e.cS
 | .ptr o e=>!o&&e.cS
def fits:Md->Md->Bool
 | .leaf,.leaf=>true
 | .pair a b,.pair c d=>fits a c&&fits b d
 | .arr a,.arr b=>fits a b
 | .af o a,.af o' b=>(o||!o')&&(o'||b.cS)&&fits a b
 | .ptr o a,.ptr o' b=>(o||!o')&&(o'||b.cS)&&fits a b
 | _,_=>false
inductive Step where
 | fst
 | snd
 | idx (i:Nat)
 | gm (i:Nat)
abbrev Path:=List Step
def bc:Path->Nat
 | []=>0
 | .idx _::p=>bc p+1
 | _::p=>bc p
structure uB where
 t:Ty
 m:Md
 v:t.den
inductive Slot where
 | dead
 | lh
 | val (t:Ty) (v:t.den)
 | cp (t:Ty) (v:t.den)
 | own (t:Ty) (m:Md) (H:List Path) (v:t.den)
 | box (t:Ty) (m:Md) (H:List Path) (v:t.den)
 | ref (r:Nat) (p:Path) (snap:List Nat)
 | sub (r:Nat) (p:Path) (snap:List Nat) (lo hi:Nat)
 | ptr (r:Nat) (p:Path) (snap:List Nat)
 | gN (xs:List uB)
structure St where
 n:Nat
 sl:List (Nat×Slot)
 vr:List (Nat×List Nat)
 ax:List (Nat×Nat×Bool)
 gh:List (Nat×Nat×Path×List Nat):=[]
def eG {α:Type}:List (Nat×α)->Nat->Option α
 | [],_=>none
 | (k,x)::l,i=>if Nat.beq k i then some x else eG l i
def St.get (σ:St) (i:Nat):Slot:=if Nat.blt i σ.n then (match eG σ.sl i with | some s=>s | none=>.dead) else .dead
def St.da (σ:St) (i:Nat):List Nat:=match eG σ.vr i with | some v=>v | none=>[0,0,0,0,0]
def hM:List Nat->List Nat:=λv=>v.map (·+1)
def je (d:Nat):List Nat->List Nat
 | [b,x,y,z,w]=>match d with
  | 0=>[b,x+1,y,z,w+1]
  | 1=>[b,x,y+1,z,w+1]
  | 2=>[b,x,y,z+1,w+1]
  | _=>[b+1,x,y,z,w+1]
 | v=>hM v
def li:List Nat->List Nat
 | [b,x,y,z,w]=>[b,x,y,z,w+1]
 | v=>hM v
def St.eb (σ:St) (i:Nat) (f:List Nat->List Nat):St:={ σ with vr:=(i,f (σ.da i))::σ.vr }
def nW:List (Nat×Nat×Bool)->Nat->List (Nat×Nat×Bool)
 | [],_=>[]
 | (k,b)::l,i=>if Nat.beq k i then nW l i else (k,b)::nW l i
def yo:List (Nat×Nat×Path×List Nat)->Nat->List (Nat×Nat×Path×List Nat)
 | [],_=>[]
 | (d,x)::l,i=>if Nat.beq d i then yo l i else (d,x)::yo l i
def nX:List (Nat×Nat×Bool)->Nat->List (Nat×Nat×Bool)
 | [],_=>[]
 | (k,n,b)::l,i=>if Nat.beq k i&&b then nX l i else (k,n,b)::nX l i
def pQ:List (Nat×Nat×Bool)->Nat->Nat->Bool->Bool
 | [],_,_,_=>false
 | (k,n,b)::l,i,j,c=>(Nat.beq k i&&Nat.beq n j&&(b == c))||pQ l i j c
def qh:List (Nat×Nat×Bool)->Nat->Bool
 | [],_=>false
 | (k,_,b)::l,i=>(Nat.beq k i&&!b)||qh l i
def uC:List (Nat×Nat×Bool)->Nat->Option Nat
 | [],_=>none
 | (k,n,b)::l,i=>if Nat.beq k i&&b then some n else uC l i
def St.put (σ:St) (i:Nat) (s:Slot):St:={ n:=σ.n,sl:=(i,s)::σ.sl,vr:=(i,hM (σ.da i))::σ.vr,ax:=nW σ.ax i,gh:=yo σ.gh i }
def St.head (σ:St) (r d:Nat):St:=match d with
 | 0=>{ σ with ax:=nX σ.ax r }
 | _=>σ
def St.wF (σ:St) (i:Nat) (s:Slot):St:={ σ with sl:=(i,s)::σ.sl }
def St.aB (σ:St) (d:Option Tmp) (s:Slot):St:=match d with
 | some i=>σ.put i s
 | none=>σ
def preB:List Nat->List Nat->Bool
 | [],_=>true
 | a::x,b::y=>Nat.beq a b&&preB x y
 | _::_,[]=>false
section
variable {R:Type}
def cy (t t':Ty) (v:t.den) (K:t'.den->Option R):Option R:=
 if h:t=t' then K (h ▸ v) else none
def kq:Path->Option Path
 | .fst::p=>some p
 | _=>none
def kt:Path->Option Path
 | .snd::p=>some p
 | _=>none
def ma (H:List Path) (i:Nat) (K:List Path->Option R):Option R:=
 match H with
 | []=>K []
 | [.idx j::q]=>if i=j then K [q] else none
 | _=>none
def eU:(p:Path)->(t:Ty)->Md->List Path->t.den->((t':Ty)->Md->List Path->t'.den->Option R)->Option R
 | [],t,m,H,v,K=>K t m H v
 | .fst::p,.pair a _,m,H,v,K=>if H.any (·.isEmpty) then none else eU p a m.l (H.filterMap kq) v.1 K
 | .snd::p,.pair _ b,m,H,v,K=>if H.any (·.isEmpty) then none else eU p b m.r (H.filterMap kt) v.2 K
 | .idx i::p,.af e,m,H,v,K=>ma H i λH'=>(v[i]?).bind λx=>eU p e m.e H' x K
 | .gm i::p,.arr _ e,m,H,v,K=>if H.isEmpty then (v[i]?).bind λx=>eU p e m.e [] x K else none
 | _,_,_,_,_,_=>none
def gC:(p:Path)->(t:Ty)->Md->List Path->t.den ->
    ((t':Ty)->Md->List Path->t'.den->(Md->List Path->t'.den->Option R)->Option R)->(Md->List Path->t.den->Option R)->Option R
 | [],t,m,H,v,f,K=>f t m H v K
 | .fst::p,.pair a _,m,H,v,f,K=>
  if H.any (·.isEmpty) then none else
  gC p a m.l (H.filterMap kq) v.1 f λm' H' x=>K (.pair m' m.r) (H'.map (.fst::·)++(H.filterMap kt).map (.snd::·)) (x,v.2)
 | .snd::p,.pair _ b,m,H,v,f,K=>
  if H.any (·.isEmpty) then none else
  gC p b m.r (H.filterMap kt) v.2 f λm' H' x=>K (.pair m.l m') ((H.filterMap kq).map (.fst::·)++H'.map (.snd::·)) (v.1,x)
 | .idx i::p,.af e,m,H,v,f,K=>
  if m.own then
   ma H i λH0=>(v[i]?).bind λx=>
    gC p e m.e H0 x f λm' H' y=>
     if m'=m.e then K (.af true m.e) (H'.map (.idx i::·)) (v.set i y)
     else if H'.isEmpty then K (.af true (ai e)) [] (v.set i y) else none
  else none
 | .gm i::p,.arr _ e,m,H,v,f,K=>
  if H.isEmpty then (v[i]?).bind λx=>
   gC p e m.e [] x f λ_ H' y=>if H'.isEmpty then K m [] (v.set i y) else none
  else none
 | _,_,_,_,_,_,_=>none
def pA:Path->Ty->Option Ty
 | [],t=>some t
 | .fst::p,.pair a _=>pA p a
 | .snd::p,.pair _ b=>pA p b
 | .idx _::p,.af e=>pA p e
 | .gm _::p,.arr _ e=>pA p e
 | _,_=>none
def lj (σ:St) (r:Nat) (K:(t:Ty)->Md->List Path->t.den->Option R):Option R:=
 match σ.get r with
 | .own t m H v | .box t m H v=>K t m H v
 | _=>none
def St.cP (σ:St) (r:Nat) (t:Ty) (m:Md) (H:List Path) (v:t.den):St:=
 match σ.get r with
 | .box ..=>σ.wF r (.box t m H v)
 | _=>σ.wF r (.own t m H v)
def St.ok (σ:St) (r:Nat) (snap:List Nat):Bool:=preB snap (σ.da r)
def fG (σ:St) (r:Nat) (p:Path) (K:(t:Ty)->Md->List Path->t.den->Option R):Option R:=
 lj σ r λt m H v=>eU p t m H v K
def kh (σ:St) (r:Nat) (p:Path) (t:Ty) (m:Md) (v:t.den) (K:St->Option R):Option R:=
 lj σ r λt0 m0 H0 v0=>
  gC p t0 m0 H0 v0 (λt' _ _ _ k=>cy t t' v λx=>k m [] x) λm' H' v'=>
   K (((σ.cP r t0 m' H' v').eb r (if t.flat then li else je (bc p))).head r (bc p))
def jp:Ty->List Path
 | .pair a b=>(jp a).map (.fst::·)++(jp b).map (.snd::·)
 | .af _ | .ptr _ | .map _ _=>[[]]
 | .arr _ e=>if e.flat then [] else [[]]
 | _=>[]
def nq (σ:St) (r:Nat) (p:Path) (K:St->Option R):Option R:=
 lj σ r λt0 m0 H0 v0=>
  gC p t0 m0 H0 v0 (λt' m' _ x k=>k m' (jp t') x) λm' H' v'=>
   K (((σ.cP r t0 m' H' v').eb r (je (bc p))).head r (bc p))
def mc (σ:St) (r:Nat) (p:Path) (K:St->Option R):Option R:=
 lj σ r λt0 m0 H0 v0=>
  gC p t0 m0 H0 v0 (λt' m H x k=>if H.isEmpty&&fits m (ai t') then k (ai t') [] x else none) λm' H' v'=>
   K (σ.cP r t0 m' H' v')
def kR (σ:St) (r:Nat) (p:Path) (m1:Md) (K:St->Option R):Option R:=
 lj σ r λt0 m0 H0 v0=>
  gC p t0 m0 H0 v0 (λ_ m H x k=>if H.isEmpty&&fits m m1 then k m1 [] x else none) λm' H' v'=>
   K (σ.cP r t0 m' H' v')
def kS (σ:St) (r:Nat) (p:Path):List Nat:=(σ.da r).take (1+bc p)
def jR (σ:St) (r:Nat) (p:Path) (t:Ty):List Nat:=match t with
 | .af _ | .map _ _=>(σ.da r).take (2+bc p)
 | _=>σ.da r
def iP:Value->Slot
 | .int .u8 n=>if ((UInt8.ofInt n).toNat:Int)=n then .val (.int .u8) (UInt8.ofInt n) else .dead
 | .int .i64 n=>.val (.int .i64) n
 | .int .u64 n=>.val (.int .u64) n
 | .int .u32 n=>.val (.int .u32) n
 | .int .i32 n=>.val (.int .i32) n
 | .bool b=>.val .bool b
 | .string s=>.val .str s.data.toList
 | .slice none 0 0=>.lh
 | _=>.dead
def a9 (σ:St):Operand->Slot
 | .tmp i=>match σ.get i with
  | .own t _ _ _=>.ref i [] (jR σ i [] t)
  | .box _ _ _ _=>.ptr i [] (kS σ i [])
  | s=>s
 | .const v=>iP v
 | .func f=>.val .fn (f,0)
 | .global _=>.dead
def dR (σ:St) (s:Slot) (mv:Bool) (t:Ty) (K:Md->t.den->St->Option R):Option R:=
 match s with
 | .val t' v=>cy t' t v λv=>K (ai t) v σ
 | .cp t' v=>cy (.ptr t') t v λv=>K (ai t) v σ
 | .lh=>match t with
  | .af e=>K (aF (.af e)) [] σ
  | _=>none
 | .ref r p snap=>
  if σ.ok r snap then
   fG σ r p λt' m H v=>
    if H.isEmpty then cy t' t v λv=>
     if m=ai t then K m v σ
     else if mv then nq σ r p λσ=>K m v σ
     else mc σ r p λσ=>K (ai t) v σ
    else none
  else none
 | .sub r p snap lo hi=>
  if σ.ok r snap then
   fG σ r p λt' m H v=>
    if H.isEmpty then cy t' t v λv=>match t,v with
     | .af e,v=>
      if m=ai (.af e) then K m ((v.take hi).drop lo) σ
      else if mv then (if lo=0 then nq σ r p λσ=>K m ((v.take hi).drop lo) σ else none)
      else mc σ r p λσ=>K (ai (.af e)) ((v.take hi).drop lo) σ
     | _,_=>none
    else none
  else none
 | .ptr r [] snap=>
  if σ.ok r snap then
   match σ.get r with
   | .box t' m H v=>if H.isEmpty&&!qh σ.ax r then cy (.ptr t') t v λv=>K (.ptr true m) v (σ.put r .dead) else none
   | _=>none
  else none
 | _=>none
def it (σ:St) (s:Slot) (t:Ty) (K:t.den->Option R):Option R:=
 match s with
 | .val t' v=>cy t' t v K
 | .cp t' v=>cy (.ptr t') t v K
 | .lh=>match t with
  | .af _=>K []
  | _=>none
 | .ref r p snap=>
  if σ.ok r snap then fG σ r p λt' _ H v=>if H.isEmpty then cy t' t v K else none
  else none
 | .sub r p snap lo hi=>
  if σ.ok r snap then
   fG σ r p λt' _ H v=>if H.isEmpty then cy t' t v λv=>match t,v with
    | .af _,v=>K ((v.take hi).drop lo)
    | _,_=>none
   else none
  else none
 | .ptr r p snap=>
  if σ.ok r snap then fG σ r p λt' _ H v=>if H.isEmpty then cy (.ptr t') t v K else none
  else none
 | _=>none
def kJ (s:Slot) (K:Int->Option R):Option R:=
 match s with
 | .val (.int k) n=>K (fy k n)
 | _=>none
def uD (s:Slot) (K:Bool->Option R):Option R:=
 match s with
 | .val .bool b=>K b
 | _=>none
def laid (t:Ty) (m:Md) (v:t.den):Slot:=
 if m=ai t then .val t v else
 match t,m,v with
 | .ptr e,.ptr true m',v=>.box e m' [] v
 | t,m,v=>.own t m [] v
end
end OT
namespace OT
open Go
noncomputable section
inductive PM where
 | ro
 | dm (m m':Md)
 | eV (m:Md)
 | gV (m:Md)
 | fk (m:Md)
 | fix (f:Nat)
 deriving DecidableEq
def bB:List Ty->Ty
 | []=>.unit
 | t::ts=>.pair t (bB ts)
def dh:List (PM×Ty)->List Ty
 | []=>[]
 | (.dm _ _,t)::ps=>t::dh ps
 | (.eV _,t)::ps=>t::dh ps
 | _::ps=>dh ps
structure kf where
 cap:Bool:=false
 ps:List (PM×Ty)
 rs:List (Ty×Md)
 F:(bB (ps.map (·.2))).den->Option (bB (rs.map (·.1)++dh ps)).den
 wG:(bB (ps.map (·.2))).den->List Path->Bool:=λ_ H=>H.isEmpty
structure Env where
 TI:Nat->Option Ty
 G:Nat->Option kf
 fz:List (Nat×Nat×Nat):=[]
 lv:List (Nat×List Nat):=[]
 lx:List (Nat×List Nat):=[]
 lf:List (Nat×List (Nat×Md)):=[]
 od:List (Nat×List Nat):=[]
 ar:List (Nat×List Nat):=[]
 bx:List (Nat×List Nat):=[]
 pd:List (Nat×List Nat):=[]
 er:List (Nat×List (Nat×Nat)):=[]
def BO:List (Nat×Nat×Nat)->Nat->Nat->Nat->Bool
 | [],_,_,_=>false
 | (a,b,c)::l,i,j,k=>(Nat.beq a i&&Nat.beq b j&&Nat.beq c k)||BO l i j k
def cU:Nat:=274877906944
section
variable {R:Type}
def fU (E:Env) (t:Nat) (K:Ty->Option R):Option R:=
 match E.TI t with
 | some t=>K t
 | none=>none
def eW:Nat->Path
 | 0=>[.fst]
 | n+1=>.snd::eW n
def ju:Nat->Ty->Option Ty
 | 0,.pair a _=>some a
 | n+1,.pair _ b=>ju n b
 | _,_=>none
def BP:Nat->(t:Ty)->t.den->((t':Ty)->t'.den->Option R)->Option R
 | 0,.pair a _,v,K=>K a v.1
 | n+1,.pair _ b,v,K=>BP n b v.2 K
 | _,_,_,_=>none
def yp (σ:St) (r:Nat):Option Ty:=
 match σ.get r with
 | .own t _ _ _ | .box t _ _ _=>some t
 | _=>none
def tN (σ:St) (r:Nat) (p:Path):Option Ty:=
 match yp σ r with
 | some t=>pA p t
 | none=>none
def qi (E:Env) (σ:St) (T:Nat) (a:Slot) (mv:Bool) (d:Option Tmp) (K:St->Option R):Option R:=
 fU E T λT=>
 match a with
 | .cp t v=>if t=T then K (σ.aB d (.val t v)) else none
 | .ptr r p snap=>
  if σ.ok r snap then
   fG σ r p λt m H v=>
    if t=T then
     if t.flat then (if H.isEmpty then K (σ.aB d (.val t v)) else none)
     else if m=ai t then (if H.isEmpty then (match mv with
      | true=>K (σ.aB d (.ref r p (jR σ r p t)))
      | false=>K (σ.aB d (.val t v))) else none)
     else match mv with
      | false=>K (σ.aB d (.ref r p (jR σ r p t)))
      | true=>if H.isEmpty then nq σ r p λσ=>K (σ.aB d (laid t m v)) else none
    else none
  else none
 | _=>none
def uE (E:Env) (σ:St) (T:Nat) (a:Operand) (mv fr:Bool) (d:Option Tmp) (K:St->Option R):Option R:=
 match fr with
 | false=>qi E σ T (a9 σ a) mv d K
 | true=>match a9 σ a with
  | .ptr r p snap=>if σ.ok r snap then mc σ r p λσ=>qi E σ T (a9 σ a) mv d K else none
  | _=>none
def yq (E:Env) (σ:St) (T:Nat) (a x:Slot) (mv:Bool) (K:St->Option R):Option R:=
 fU E T λT=>
 match a with
 | .ptr r p snap=>
  if σ.ok r snap then
   if tN σ r p=some T then dR σ x mv T λm v σ=>kh σ r p T m v K else none
  else none
 | _=>none
def qj (E:Env) (σ:St) (S:Nat) (x:Slot) (j:Nat) (d:Option Tmp) (K:St->Option R):Option R:=
 fU E S λS=>
 match x with
 | .cp t v=>if t=S then BP j t v λt' v'=>K (σ.aB d (.cp t' v')) else none
 | .ptr r p snap=>if σ.ok r snap then (if tN σ r p=some S then (if (ju j S).isSome then K (σ.aB d (.ptr r (p++eW j) snap)) else none) else none) else none
 | _=>none
def vR (E:Env) (σ:St) (S:Nat) (x:Slot) (j:Nat) (d:Option Tmp) (K:St->Option R):Option R:=
 fU E S λS=>
 match x with
 | .val t v=>if t=S then BP j t v λt' v'=>K (σ.aB d (.val t' v')) else none
 | .ref r p snap=>
  if σ.ok r snap then
   if tN σ r p=some S then
    fG σ r (p++eW j) λt m H v=>
     if t.flat||(m=ai t) then (if H.isEmpty then K (σ.aB d (.val t v)) else none)
     else K (σ.aB d (.ref r (p++eW j) (jR σ r (p++eW j) t)))
   else none
  else none
 | _=>none
def Dg (n:Int) (len:Nat) (K:Nat->Option R):Option R:=
 if 0<=n/\n < (len:Int) then K n.toNat else none
def qk (E:Env) (σ:St) (T:Nat) (x ix:Slot) (d:Option Tmp) (K:St->Option R):Option R:=
 fU E T λT=>kJ ix λn=>
 match x with
 | .val (.af e) v=>if T=.af e then (if 0<=n then (v[n.toNat]?).bind λy=>K (σ.aB d (.cp e y)) else none) else none
 | .cp (.arr m e) v=>if T=.arr m e then (if 0<=n then (v[n.toNat]?).bind λy=>K (σ.aB d (.cp e y)) else none) else none
 | .ref r p snap=>
  if σ.ok r snap then
   fG σ r p λt m H v=>
    if H.any (·.isEmpty) then none else
    if t=T then
     match t,v with
     | .af e,v=>
      if m.own then Dg n v.length λi=>K (σ.aB d (.ptr r (p++[.idx i]) (kS σ r (p++[.idx i]))))
      else if 0<=n then (v[n.toNat]?).bind λy=>K (σ.aB d (.cp e y)) else none
     | _,_=>none
    else none
  else none
 | .sub r p snap lo hi=>
  if σ.ok r snap then
   fG σ r p λt _ H _=>if H.any (·.isEmpty) then none else if t=T then Dg n (hi - lo) λi=>K (σ.aB d (.ptr r (p++[.idx (lo+i)]) (kS σ r (p++[.idx (lo+i)])))) else none
  else none
 | .ptr r p snap=>
  if σ.ok r snap then
   fG σ r p λt _ _ v=>
    if t=T then
     match t,v with
     | .arr _ _,v=>Dg n v.length λi=>K (σ.aB d (.ptr r (p++[.gm i]) snap))
     | _,_=>none
    else none
  else none
 | _=>none
def yr (E:Env) (σ:St) (T:Nat) (x ix:Slot) (d:Option Tmp) (K:St->Option R):Option R:=
 fU E T λT=>kJ ix λn=>
 match x with
 | .val .str s=>if T=.str then (if 0<=n then (s[n.toNat]?).bind λc=>K (σ.aB d (.val (.int .u8) c)) else none) else none
 | .val (.arr m e) v=>if T=.arr m e then (if 0<=n then (v[n.toNat]?).bind λy=>K (σ.aB d (.val e y)) else none) else none
 | _=>none
def jq (len:Nat) (lo hi:Option Slot) (K:Nat->Nat->Option R):Option R:=
 match lo,hi with
 | none,none=>K 0 len
 | some l,none=>kJ l λl=>if 0<=l/\l<=(len:Int) then K l.toNat len else none
 | none,some h=>kJ h λh=>if 0<=h/\h<=(len:Int) then K 0 h.toNat else none
 | some l,some h=>kJ l λl=>kJ h λh=>if 0<=l/\l<=h/\h<=(len:Int) then K l.toNat h.toNat else none
def yt (E:Env) (σ:St) (T:Nat) (x:Slot) (lo hi:Option Slot) (d:Option Tmp) (K:St->Option R):Option R:=
 fU E T λT=>
 match x with
 | .val .str s=>if T=.str then jq s.length lo hi λl h=>K (σ.aB d (.val .str ((s.take h).drop l))) else none
 | .val (.af e) v=>if T=.af e then jq v.length lo hi λl h=>K (σ.aB d (.val (.af e) ((v.take h).drop l))) else none
 | .ref r p snap=>
  if σ.ok r snap then
   fG σ r p λt m H v=>
    if H.any (·.isEmpty) then none else
    if t=T then
     match t,v with
     | .af e,v=>
      if m.own then jq v.length lo hi λl h=>K (σ.aB d (.sub r p snap l h))
      else jq v.length lo hi λl h=>K (σ.aB d (.val (.af e) ((v.take h).drop l)))
     | _,_=>none
    else none
  else none
 | .sub r p snap l0 h0=>
  if σ.ok r snap then
   fG σ r p λt _ H _=>if H.any (·.isEmpty) then none else if t=T then jq (h0 - l0) lo hi λl h=>K (σ.aB d (.sub r p snap (l0+l) (l0+h))) else none
  else none
 | _=>none
def ES (E:Env) (σ:St) (t:Nat) (x:Slot) (K:Nat->Option R):Option R:=
 fU E t λT=>
 match T with
 | .str=>match x with
  | .val .str s=>K s.length
  | _=>none
 | .af _=>match x with
  | .val (.af _) v=>K v.length
  | .lh=>K 0
  | .ref r p snap=>
   if σ.ok r snap then
    fG σ r p λt _ H v=>if H.any (·.isEmpty) then none else match t,v with
     | .af _,v=>K v.length
     | _,_=>none
   else none
  | .sub r _ snap lo hi=>if σ.ok r snap then K (hi - lo) else none
  | _=>none
 | _=>none
def o5 (σ:St) (x:Slot) (e:Ty) (mv:Bool) (K:Md->List e.den->St->Option R):Option R:=
 match x with
 | .val .str s=>cy (.af (.int .u8)) (.af e) s λs=>K .leaf s σ
 | x=>dR σ x mv (.af e) λm v σ=>K m.e v σ
def vS (E:Env) (σ:St) (T:Nat) (b:Slot) (x:Operand) (mv tf:Bool) (d:Option Tmp) (K:St->Option R):Option R:=
 fU E T λT=>
 match T with
 | .af e=>
  match tf&&(e.flat&&e.fT) with
  | true=>o5 σ (a9 σ x) e false λ_ y _=>dR σ b true (.af e) λm v σ=>
   if m.own then
    if v.length+y.length<=cU then K (σ.aB d (.own (.af e) (.af true (ai e)) [] (v++y))) else none
   else none
  | false=>
  dR σ b true (.af e) λm v σ=>
   if m.own then
    o5 σ (a9 σ x) e mv λme y σ=>
     if v.length+y.length<=cU then
      K (σ.aB d (.own (.af e) (.af true (if me=m.e then me else ai e)) [] (v++y)))
     else none
   else none
 | _=>none
def kj {α:Type} (v:List α) (lo n:Nat) (y:List α):List α:=v.take lo++y.take n++v.drop (lo+n)
def BQ (E:Env) (σ:St) (T:Nat) (b:Operand) (x:Slot) (d:Option Tmp) (K:St->Option R):Option R:=
 fU E T λT=>
 match T with
 | .af e=>
  if e.flat then
   o5 σ x e true λ_ y σ=>
    match a9 σ b with
    | .sub r p snap lo hi=>
     if σ.ok r snap then
      fG σ r p λt m H v=>
       if m.own&&H.isEmpty then cy t (.af e) v λv=>
        kh σ r p (.af e) m (kj v lo (min y.length (hi - lo)) y) λσ'=>
         K (({ σ' with vr:=(σ.eb r li).vr,ax:=σ.ax }).aB d (.val (.int .i64) ((min y.length (hi - lo):Nat):Int)))
       else none
     else none
    | .ref r p snap=>
     if σ.ok r snap then
      fG σ r p λt m H v=>
       if m.own&&H.isEmpty then cy t (.af e) v λv=>
        kh σ r p (.af e) m (kj v 0 (min y.length v.length) y) λσ'=>
         K (({ σ' with vr:=(σ.eb r li).vr,ax:=σ.ax }).aB d (.val (.int .i64) ((min y.length v.length:Nat):Int)))
       else none
     else none
    | _=>none
  else none
 | _=>none
def rB:Nat->(t:Ty)->Md->t.den->(t':Ty)->Md->t'.den->(Md->t.den->Option R)->Option R
 | 0,.pair a _,m,v,t',m',x,K=>cy t' a x λx=>K (.pair m' m.r) (x,v.2)
 | n+1,.pair _ b,m,v,t',m',x,K=>rB n b m.r v.2 t' m' x λMv y=>K (.pair m.l Mv) (v.1,y)
 | _,_,_,_,_,_,_,_=>none
def rC (E:Env) (σ:St) (t:Ty) (fz:Nat->Bool):List (Nat×Operand)->Nat->Md->t.den->(Md->t.den->St->Option R)->Option R
 | [],_,m,v,K=>K m v σ
 | (j,x)::ps,n,m,v,K=>
  match ju j t with
  | some t'=>dR σ (a9 σ x) (!fz n) t' λm' y σ'=>rB j t m v t' m' y λm v=>rC E σ' t fz ps (n+1) m v K
  | none=>none
def rD (σ:St) (e:Ty) (fz:Nat->Bool):List (Nat×Operand)->Nat->Md->List e.den->(Md->List e.den->St->Option R)->Option R
 | [],_,m,v,K=>K m v σ
 | (j,x)::ps,n,m,v,K=>
  if Nat.beq j n then
   dR σ (a9 σ x) (!fz n) e λm' y σ'=>rD σ' e fz ps (n+1) (if m'=m then m else ai e) (v++[y]) K
  else none
def yu (σ:St) (e:Ty) (fz:Nat->Bool):List (Nat×Operand)->Nat->List e.den->(List e.den->St->Option R)->Option R
 | [],_,v,K=>K v σ
 | (j,x)::ps,n,v,K=>
  dR σ (a9 σ x) (!fz n) e λ_ y σ'=>if j < v.length then yu σ' e fz ps (n+1) (v.set j y) K else none
def yw (op:BinOp) (k:IntKind) (a b:Int) (K:(t:Ty)->t.den->Option R):Option R:=
 match op with
 | .add=>K (.int k) (rj k (a+b))
 | .sub=>K (.int k) (rj k (a - b))
 | .mul=>K (.int k) (rj k (a*b))
 | .quo=>if b=0 then none else K (.int k) (rj k (a.tdiv b))
 | .rem=>if b=0 then none else K (.int k) (Gj k (a.tmod b))
 | .and=>K (.int k) (rj k ((BitVec.ofInt k.bits a &&& BitVec.ofInt k.bits b).toNat:Int))
 | .or=>K (.int k) (rj k ((BitVec.ofInt k.bits a ||| BitVec.ofInt k.bits b).toNat:Int))
 | .xor=>K (.int k) (rj k ((BitVec.ofInt k.bits a ^^^ BitVec.ofInt k.bits b).toNat:Int))
 | .shl=>if b < 0 then none else K (.int k) (rj k (a*2 ^ (min b.toNat k.bits)))
 | .shr=>if b < 0 then none else K (.int k) (Gj k (a.fdiv (2 ^ (min b.toNat k.bits))))
 | .eql=>K .bool (decide (a=b))
 | .neq=>K .bool (!decide (a=b))
 | .lss=>K .bool (decide (a < b))
 | .leq=>K .bool (decide (a<=b))
 | .gtr=>K .bool (decide (b < a))
 | .geq=>K .bool (decide (b<=a))
 | _=>none
def ET (op:BinOp) (a b:List UInt8) (K:(t:Ty)->t.den->Option R):Option R:=
 match op with
 | .add=>if a.length+b.length<=cU then K .str (a++b) else none
 | .eql=>K .bool (decide (a=b))
 | .neq=>K .bool (!decide (a=b))
 | _=>none
def both (a b:Option R):Option R:=open Classical in if a=b then a else none
def pB {α:Type} (v:List α) (a b:Option R):Option R:=match v with
 | []=>both a b
 | _::_=>b
def Ik {α:Type} (op:BinOp) (v:List α) (K:(t:Ty)->t.den->Option R):Option R:=match op with
 | .eql=>pB v (K .bool true) (K .bool false)
 | .neq=>pB v (K .bool false) (K .bool true)
 | _=>none
def yx (E:Env) (tid:Nat) (op:BinOp) (x y:Slot) (K:(t:Ty)->t.den->Option R):Option R:=
 match x,y with
 | .val (.int k) a,.val (.int k') b=>
  match op with
  | .shl | .shr=>yw op k (fy k a) (fy k' b) K
  | _=>if k=k' then yw op k (fy k a) (fy k' b) K else none
 | .val .str a,.val .str b=>ET op a b K
 | .val t a,.val t' b=>
  match op with
  | .eql=>if t.eS then fU E tid λT=>if T=t then cy t' t b λb=>K .bool (t.eq a b) else none else none
  | .neq=>if t.eS then fU E tid λT=>if T=t then cy t' t b λb=>K .bool (!t.eq a b) else none else none
  | _=>none
 | .val (.af e) v,.lh=>fU E tid λT=>if T=.af e then Ik op v K else none
 | _,_=>none
def ql (E:Env) (σ:St) (S T:Nat) (x:Slot) (d:Option Tmp) (K:St->Option R):Option R:=
 fU E S λS=>fU E T λT=>
 match T with
 | .int k=>match x with
  | .val (.int k') n=>if S=.int k' then K (σ.aB d (.val (.int k) (rj k (fy k' n)))) else none
  | _=>none
 | .str=>match S with
  | .str=>match x with
   | .val .str s=>K (σ.aB d (.val .str s))
   | _=>none
  | .af (.int .u8)=>it σ x (.af (.int .u8)) λv=>K (σ.aB d (.val .str v))
  | _=>none
 | .af (.int .u8)=>match x with
  | .val .str s=>if S=.str then (if s.length<=cU then K (σ.aB d (.own (.af (.int .u8)) (aF (.af (.int .u8))) [] s)) else none) else none
  | _=>none
 | _=>none
def yy (σ:St) (s:Slot) (t:Ty) (K:t.den->Option R):Option R:=
 match s with
 | .val t' v=>cy t' t v K
 | .cp t' v=>cy (.ptr t') t v K
 | .lh=>match t with
  | .af _=>K []
  | _=>none
 | .ref r p snap=>
  if σ.ok r snap then fG σ r p λt' m H v=>if H.isEmpty&&(t'.flat||decide (m=ai t')) then cy t' t v K else none
  else none
 | .sub r p snap lo hi=>
  if σ.ok r snap then
   fG σ r p λt' m H v=>if H.isEmpty&&decide (m=ai t') then cy t' t v λv=>match t,v with
    | .af _,v=>K ((v.take hi).drop lo)
    | _,_=>none
   else none
  else none
 | _=>none
def nY (σ:St) (ow:Bool) (pm:PM) (t:Ty) (s:Slot) (K:t.den->Option (Nat×Path)->Option R):Option R:=
 match pm with
 | .ro=>match ow with
  | true=>it σ s t λv=>K v none
  | false=>yy σ s t λv=>K v none
 | .fix f=>match s with
  | .val .fn v=>if Nat.beq v.1 f then cy .fn t v λv=>K v none else none
  | _=>none
 | .dm m _=>match s with
  | .ptr r p snap=>
   if σ.ok r snap then fG σ r p λt' m' H v=>if H.isEmpty&&decide (m'=m) then cy t' t v λv=>K v (some (r,p)) else none
   else none
  | _=>none
 | .gV m=>match s with
  | .ptr r p snap=>
   if σ.ok r snap then fG σ r p λt' m' H v=>if H.isEmpty&&decide (m'=m) then cy t' t v λv=>K v (some (r,p)) else none
   else none
  | _=>none
 | .eV m=>match s with
  | .ref r p snap=>
   if σ.ok r snap then fG σ r p λt' m' H v=>if H.isEmpty&&decide (m'=m) then cy t' t v λv=>K v (some (r,p)) else none
   else none
  | _=>none
 | .fk m=>match s with
  | .ref r p snap=>
   if σ.ok r snap then fG σ r p λt' m' _ v=>if m'=m then cy t' t v λv=>K v (some (r,p)) else none
   else none
  | _=>none
def eh:Slot->List Nat
 | .ref r _ _ | .sub r _ _ _ _ | .ptr r _ _=>[r]
 | _=>[]
def xY (σ:St) (ow:Bool):(ps:List (PM×Ty))->List Slot->((bB (ps.map (·.2))).den->List (Nat×Path)->Option R)->Option R
 | [],[],K=>K () []
 | (pm,t)::ps,s::ss,K=>nY σ ow pm t s λv w=>xY σ ow ps ss λvs ws=>K (v,vs) (match w with | some x=>x::ws | none=>ws)
 | _,_,_=>none
def gW (σ:St):List (PM×Ty)->List Operand->(St->Option R)->Option R
 | (.dm m _,_)::ps,x::xs,K=>match a9 σ x with
  | .ptr r p snap=>if σ.ok r snap then fG σ r p λ_ m' _ _=>if m'=m then gW σ ps xs K else kR σ r p m λσ=>gW σ ps xs K else none
  | _=>none
 | (.gV m,_)::ps,x::xs,K=>match a9 σ x with
  | .ptr r p snap=>if σ.ok r snap then fG σ r p λ_ m' _ _=>if m'=m then gW σ ps xs K else kR σ r p m λσ=>gW σ ps xs K else none
  | _=>none
 | (.eV m,_)::ps,x::xs,K=>match a9 σ x with
  | .ref r p snap=>if σ.ok r snap then fG σ r p λ_ m' _ _=>if m'=m then gW σ ps xs K else kR σ r p m λσ=>gW σ ps xs K else none
  | _=>none
 | (.fk m,_)::ps,x::xs,K=>match a9 σ x with
  | .ref r p snap=>if σ.ok r snap then fG σ r p λ_ m' _ _=>if m'=m then gW σ ps xs K else kR σ r p m λσ=>gW σ ps xs K else none
  | _=>none
 | _::ps,_::xs,K=>gW σ ps xs K
 | _,_,K=>K σ
def Il (x:Operand) (r:Nat) (t:Ty) (v:t.den) (σ:St):St:=match x with
 | .tmp i=>match Nat.beq i r||!Nat.blt i σ.n with
  | true=>σ
  | false=>(σ.put i .dead).put i (.cp t v)
 | _=>σ
def nZ (σ:St):List (PM×Ty)->List Operand->(St->Option R)->Option R
 | (.ro,t)::ps,x::xs,K=>
  if t.flat then nZ σ ps xs K else
  match a9 σ x with
  | .ref r p snap=>if σ.ok r snap then mc σ r p λσ=>nZ σ ps xs K else none
  | .sub r p snap _ _=>if σ.ok r snap then mc σ r p λσ=>nZ σ ps xs K else none
  | .ptr r p snap=>if σ.ok r snap then
    match p,σ.get r with
    | [],.box t m H v=>if H.isEmpty&&fits m (ai t) then nZ (Il x r t v ((σ.put r .dead).put r (.cp t v))) ps xs K else none
    | _,_=>none
   else none
  | _=>nZ σ ps xs K
 | _::ps,_::xs,K=>nZ σ ps xs K
 | _,_,K=>K σ
def apart:List Nat->List (Nat×Path)->Bool
 | _,[]=>true
 | all,(r,_)::ws=>Nat.ble (all.count r) 1&&apart all ws
def gX (σ:St):(ps:List (PM×Ty))->List (Nat×Path)->(bB (dh ps)).den->(St->Option R)->Option R
 | [],[],_,K=>K σ
 | (.ro,_)::ps,ws,v,K=>gX σ ps ws v K
 | (.fix _,_)::ps,ws,v,K=>gX σ ps ws v K
 | (.dm _ m,t)::ps,(r,p)::ws,v,K=>kh σ r p t m v.1 λσ=>gX σ ps ws v.2 K
 | (.gV m,t)::ps,(r,p)::ws,v,K=>match kh σ r p t m t.zero (λ_=>some ()) with
  | some _=>gX (σ.put r .dead) ps ws v K
  | none=>none
 | (.fk _,_)::ps,(r,p)::ws,v,K=>nq σ r p λσ=>gX σ ps ws v K
 | (.eV m,t)::ps,(r,p)::ws,v,K=>kh σ r p t m v.1 λσ'=>gX { σ' with vr:=(σ.eb r (je (bc p+1))).vr,ax:=σ.ax } ps ws v.2 K
 | _,_,_,_=>none
def di:(rs:List (Ty×Md))->{ts:List Ty}->(bB (rs.map (·.1)++ts)).den->List uB×(bB ts).den
 | [],_,v=>([],v)
 | (t,m)::rs,_,v=>(⟨t,m,v.1⟩::(di rs v.2).1,(di rs v.2).2)
def jS:List uB->Slot
 | []=>.dead
 | [x]=>laid x.t x.m x.v
 | xs=>.gN xs
def lk:List (Ty×Md)->Bool
 | []=>true
 | (t,m)::rs=>(t.flat||decide (m=aF t))&&t.fT&&lk rs
def ee:List (PM×Ty)->Bool
 | []=>true
 | (.dm m m',t)::ps=>(t.flat||decide (m=aF t))&&t.fT&&((t.flat||decide (m'=aF t))&&ee ps)
 | (.eV m,t)::ps=>(t.flat||decide (m=aF t))&&t.fT&&ee ps
 | (.gV m,t)::ps=>(t.flat||decide (m=aF t))&&t.fT&&ee ps
 | (.fk m,t)::ps=>(t.flat||decide (m=aF t))&&t.fT&&ee ps
 | _::ps=>ee ps
def rm:Ty->Bool
 | .int .u8 | .map _ _ | .fn=>false
 | .pair a b=>rm a&&rm b
 | .arr _ e | .af e | .ptr e=>rm e
 | _=>true
def s9:Ty->Bool
 | .pair a b=>s9 a&&s9 b
 | .af (.int .u8)=>true
 | t=>t.flat&&t.fT
def ik:List (PM×Ty)->Bool
 | []=>true
 | (.ro,t)::ps=>(t.flat&&t.fT||rm t)&&ik ps
 | (.fix _,_)::ps=>ik ps
 | (.dm _ _,t)::ps=>s9 t&&ik ps
 | _=>false
def uF:List (PM×Ty)->Bool
 | []=>true
 | (.gV _,_)::_ | (.fk _,_)::_=>false
 | _::ps=>uF ps
def BR:List (PM×Ty)->Bool
 | []=>false
 | (.fk _,_)::_=>true
 | _::ps=>BR ps
def EU (σ:St) (hv:Bool) (ho:List Path->Bool) (ws:List (Nat×Path)) (K:Option R):Option R:=
 match hv,ws with
 | true,(r,p)::_=>fG σ r p λ_ _ H _=>match ho H with
  | true=>K
  | false=>none
 | _,_=>K
def uG (g:kf) (ow:Bool) (σ:St) (xs:List Operand) (ex:List Slot) (d:Option Tmp) (K:St->Option R):Option R:=
 gW σ g.ps xs λσ=>
  xY σ ow g.ps (xs.map (a9 σ)++ex) λv ws=>
   if Nat.ble ws.length 1&&apart ((xs.map (a9 σ)++ex).flatMap eh) ws then
    EU σ (BR g.ps) (g.wG v) ws ((g.F v).bind λout=>
     gX σ g.ps ws (di g.rs out).2 λσ=>K (σ.aB d (jS (di g.rs out).1)))
   else none
def qm (g:kf) (σ:St) (xs:List Operand) (ex:List Slot) (d:Option Tmp) (K:St->Option R):Option R:=
 match lk g.rs&&(ee g.ps||ik g.ps) with
 | true=>uG g true σ xs ex d K
 | false=>nZ σ g.ps xs λσ=>uG g false σ xs ex d K
def vT (E:Env) (σ:St) (T:Nat) (x:Operand) (mv:Bool) (d:Option Tmp) (K:St->Option R):Option R:=
 match a9 σ x with
 | .dead=>K (σ.aB d .dead)
 | .lh=>fU E T λT=>match T with
  | .af e=>K (σ.aB d (.own (.af e) (aF (.af e)) [] []))
  | _=>none
 | .gN []=>K (σ.aB d (.gN []))
 | .gN _=>none
 | .ref r p snap=>
  if σ.ok r snap then
   match tN σ r p with
   | some t=>dR σ (.ref r p snap) mv t λm v σ=>K (σ.aB d (laid t m v))
   | none=>none
  else none
 | .sub r p snap lo hi=>
  if σ.ok r snap then
   match tN σ r p with
   | some t=>dR σ (.sub r p snap lo hi) mv t λm v σ=>K (σ.aB d (laid t m v))
   | none=>none
  else none
 | .ptr r p snap=>
  match p,σ.get r with
  | [],.box t m H v=>if σ.ok r snap&&mv&&!qh σ.ax r then (match d with | some i=>K ((σ.put r .dead).put i (.box t m H v)) | none=>none) else K (σ.aB d (.ptr r [] snap))
  | p,_=>K (σ.aB d (.ptr r p snap))
 | s=>K (σ.aB d s)
def BS (σ:St) (x:Operand) (d:Option Tmp) (K:St->Option R):Option R:=
 match a9 σ x,x with
 | .gN xs,.tmp i=>K ((σ.put i .dead).aB d (.gN xs))
 | .gN _,_=>none
 | s,_=>K (σ.aB d s)
def yz (σ:St) (x:Operand) (d:Option Tmp) (σ':St):St:=
 match x,d with
 | .tmp i,some d=>match σ.get i with
  | .own _ _ _ _=>match uC σ.ax i with
   | some n=>{ σ' with ax:=(d,n,true)::σ'.ax }
   | none=>σ'
  | _=>σ'
 | _,_=>σ'
def yA:Slot->Option (Nat×Int)
 | .val .fn f=>some f
 | _=>none
def fH {α:Type} (k:Ty) (m:List (k.den×α)) (x:k.den):Option α:=(m.find? λe=>k.eq x e.1).map (·.2)
def fI {α:Type} (k:Ty) (m:List (k.den×α)) (x:k.den) (y:α):List (k.den×α):=match m.findIdx? (λe=>k.eq x e.1) with
 | some i=>m.set i (x,y)
 | none=>m++[(x,y)]
def yB {α:Type} (o:Option α) (z:α):α:=match o with
 | some x=>x
 | none=>z
def vU (E:Env) (σ:St) (T:Nat) (x ix:Slot) (ok:Bool) (d:Option Tmp) (K:St->Option R):Option R:=
 fU E T λT=>
 match T with
 | .map k v=>
  if v.kQ then
   match x with
   | .ref r p snap=>
    if σ.ok r snap then
     fG σ r p λt _ H y=>
      if H.isEmpty then cy t (.map k v) y λy=>
       match ix with
       | .val t2 i=>cy t2 k i λi=>
        match ok with
        | true=>K (σ.aB d (.gN [⟨v,ai v,yB (fH k y i) v.zero⟩,⟨.bool,.leaf,(fH k y i).isSome⟩]))
        | false=>K (σ.aB d (.val v (yB (fH k y i) v.zero)))
       | _=>none
      else none
    else none
   | _=>none
  else none
 | _=>none
def vV (E:Env) (σ:St) (T:Nat) (x ix y:Slot) (K:St->Option R):Option R:=
 fU E T λT=>
 match T with
 | .map k v=>
  match x with
  | .ref r p snap=>
   if σ.ok r snap then
    fG σ r p λt m H z=>
     if m.own&&H.isEmpty then cy t (.map k v) z λz=>
      match ix,y with
      | .val t2 i,.val t3 w=>cy t2 k i λi=>cy t3 v w λw=>
       kh σ r p (.map k v) m (fI k z i w) λσ'=>K { σ' with vr:=(σ.eb r li).vr,ax:=σ.ax }
      | _,_=>none
     else none
   else none
  | _=>none
 | _=>none
def Dh:Option Ty->Bool
 | some (.map _ _)=>true
 | _=>false
def vW (E:Env) (σ:St) (T:Nat) (x:Slot) (K:Nat->Option R):Option R:=
 fU E T λT=>
 match T with
 | .map k v=>
  match x with
  | .ref r p snap=>
   if σ.ok r snap then
    fG σ r p λt _ H y=>if H.isEmpty then cy t (.map k v) y λy=>K (List.length y) else none
   else none
  | _=>none
 | _=>none
def gL (E:Env) (bM i:Nat) (o:Oper) (σ:St) (K:St->Option R):Option R:=
 let fz:=BO E.fz bM i
 let d:=o.dst
 match o.op with
 | .move x=>BS σ x d K
 | .assign x=>vT E σ o.type x (!fz 0) d K
 | .pick c a b=>uD (a9 σ c) λc=>match a9 σ (bif c then a else b) with
  | .val .bool x=>K (σ.aB d (.val .bool x))
  | _=>none
 | .alloc t=>fU E t λt=>if t.kQ then K (σ.aB d (.box t (aF t) [] t.zero)) else none
 | .box t x=>fU E t λt=>dR σ (a9 σ x) (!fz 0) t λm v σ'=>K (yz σ x d (σ'.aB d (.box t m [] v)))
 | .build t ps=>fU E t λt=>match t with
  | .arr n e=>if e.kQ then yu σ e fz ps.toList 0 (Ty.arr n e).zero λv σ=>K (σ.aB d (laid (.arr n e) (aF (.arr n e)) v)) else none
  | .pair t1 t2=>if (Ty.pair t1 t2).kQ then rC E σ (.pair t1 t2) fz ps.toList 0 (aF (.pair t1 t2)) (Ty.pair t1 t2).zero λm v σ=>K (σ.aB d (laid (.pair t1 t2) m v)) else none
  | _=>none
 | .buildSlice t n ps=>fU E t λt=>match t with
  | .af e=>if Nat.beq n ps.size&&e.kQ&&Nat.ble (n*e.sz) 16777216 then rD σ e fz ps.toList 0 (aF e) [] λm v σ=>K (σ.aB d (.own (.af e) (.af true m) [] v)) else none
  | _=>none
 | .load t a=>uE E σ t a (fz 7) (fz 8) d K
 | .store t a x=>match d with
  | none=>yq E σ t (a9 σ a) (a9 σ x) (!fz 1) K
  | some _=>none
 | .nilCheck x=>match a9 σ x with
  | .ptr r p snap=>if σ.ok r snap then K (σ.aB d (.ptr r p snap)) else none
  | .cp t v=>K (σ.aB d (.cp t v))
  | .val .fn f=>K (σ.aB d (.val .fn f))
  | _=>none
 | .binOp op t x y _=>yx E t op (a9 σ x) (a9 σ y) λt v=>K (σ.aB d (.val t v))
 | .unOp op _ x=>match op,a9 σ x with
  | .not,.val .bool b=>K (σ.aB d (.val .bool (!b)))
  | .neg,.val (.int k) n=>K (σ.aB d (.val (.int k) (rj k (0 - fy k n))))
  | _,_=>none
 | .convert s t x=>ql E σ s t (a9 σ x) d K
 | .fieldAddr t x j=>qj E σ t (a9 σ x) j d K
 | .field t x j=>vR E σ t (a9 σ x) j d K
 | .indexAddr t x ix=>qk E σ t (a9 σ x) (a9 σ ix) d K
 | .index t x ix=>yr E σ t (a9 σ x) (a9 σ ix) d K
 | .slice t x lo hi none=>yt E σ t (a9 σ x) (lo.map (a9 σ)) (hi.map (a9 σ)) d K
 | .makeSlice t n c=>fU E t λt=>match t with
  | .af e=>kJ (a9 σ n) λn=>kJ (a9 σ c) λc=>
   if e.kQ then (if 0<=n/\n<=c/\c<=(cU:Int) then K (σ.aB d (.own (.af e) (aF (.af e)) [] (List.replicate n.toNat e.zero))) else none) else none
  | _=>none
 | .extract x j=>match x with
  | .tmp i=>match σ.get i with
   | .gN xs=>match xs[j]? with
    | some x=>if x.t=.unit then none else K ((σ.put i (.gN (xs.set j ⟨.unit,.leaf,()⟩))).aB d (laid x.t x.m x.v))
    | none=>none
   | _=>none
  | _=>none
 | .makeFunc (.func f) first cs=>
  if first.size=0 then
   match cs.toList with
   | []=>K (σ.aB d (.val .fn (f,0)))
   | [.tmp i]=>match σ.get i with
    | .box (.int .i64) _ _ n=>K (((σ.put i .dead).put i (.cp (.int .i64) n)).aB d (.val .fn (f,n)))
    | _=>none
   | _=>none
  else none
 | .makeMap t none=>fU E t λt=>match t with
  | .map k v=>if k.flat&&v.flat then K (σ.aB d (.own (.map k v) (aF (.map k v)) [] [])) else none
  | _=>none
 | .lookup t x ix ok=>vU E σ t (a9 σ x) (a9 σ ix) ok d K
 | .mapUpdate t x ix y=>match d with
  | none=>vV E σ t (a9 σ x) (a9 σ ix) (a9 σ y) K
  | some _=>none
 | .call c=>match c.callee with
  | .builtin .len=>match c.args.toList,c.argTypes.toList with
   | [x],[t]=>match Dh (E.TI t) with
    | false=>ES E σ t (a9 σ x) λn=>K (σ.aB d (.val (.int .i64) (n:Int)))
    | true=>vW E σ t (a9 σ x) λn=>K (σ.aB d (.val (.int .i64) (n:Int)))
   | _,_=>none
  | .builtin .append=>match c.args.toList,c.argTypes.toList with
   | [b,x],t::_=>vS E σ t (a9 σ b) x (!fz 1) (fz 2) d K
   | _,_=>none
  | .builtin .copy=>match c.args.toList,c.argTypes.toList with
   | [b,x],t::_=>BQ E σ t b (a9 σ x) d K
   | _,_=>none
  | .value (.func f)=>match E.G f with
   | some g=>match g.cap with
    | false=>qm g σ c.args.toList [] d K
    | true=>none
   | none=>none
  | .value (.tmp i)=>match yA (σ.get i) with
   | some (f,n)=>match E.G f with
    | some g=>match g.cap with
     | true=>qm g σ c.args.toList [.cp (.int .i64) n] d K
     | false=>qm g σ c.args.toList [] d K
    | none=>none
   | none=>none
  | _=>none
 | _=>none
def eX (l:List (Nat×List Nat)) (i:Nat):List Nat:=match eG l i with | some x=>x | none=>[]
def rE (ops:List Oper) (σ:St) (g:Option (Nat×Bool)) (K:Bool->St->Option R):Option R:=
 match g with
 | none=>K true σ
 | some (j,want)=>match (ops[j]?).bind (·.dst) with
  | none=>none
  | some t=>match σ.get t with
   | .val .bool b=>match b with
    | true=>K (want == true) (σ.wF t (.val .bool true))
    | false=>K (want == false) (σ.wF t (.val .bool false))
   | .gN []=>K false σ
   | _=>none
def vX (E:Env) (bM:Nat) (ops:List Oper):List Oper->Nat->St->(St->Option R)->Option R
 | [],_,σ,K=>K σ
 | o::rest,i,σ,K=>rE ops σ o.guard λb σ=>
  match b with
  | true=>gL E bM i o σ λσ=>vX E bM ops rest (i+1) σ K
  | false=>vX E bM ops rest (i+1) (σ.aB o.dst (.gN [])) K
def yC (σ:St) (o:Oper):Bool:=match o.op with
 | .load _ x=>match a9 σ x with
  | .cp _ _=>true
  | _=>false
 | .convert _ _ x=>match a9 σ x with
  | .val (.int _) _=>true
  | .val .str _=>true
  | .val (.af (.int .u8)) _=>true
  | _=>false
 | _=>false
def yD (E:Env) (bM i:Nat):Bool:=(eX E.ar bM).any (Nat.beq i)
def sM:Op->Bool
 | .store .. | .mapUpdate .. | .call ..=>true
 | _=>false
def ll:Path->Path->Bool
 | [],[]=>true
 | .fst::p,.fst::q=>ll p q
 | .snd::p,.snd::q=>ll p q
 | .idx i::p,.idx j::q=>Nat.beq i j&&ll p q
 | .gm i::p,.gm j::q=>Nat.beq i j&&ll p q
 | _,_=>false
def Gk (σ:St) (r:Nat) (p:Path) (v:Int):Bool:=
 match fG σ r p λt _ _ x=>cy t (.int .i64) x λy=>some (decide ((y:Int)=v)) with
 | some b=>b
 | none=>false
def EV (σ:St) (o:Oper):Bool:=match o.op,o.dst with
 | .load _ (.tmp i),some d=>match σ.get i with
  | .ptr r p s=>match σ.get d with
   | .ref r' p' s'=>Nat.beq r r'&&(σ.ok r s&&σ.ok r s')&&ll p p'
   | .val (.int .i64) v=>σ.ok r s&&Gk σ r p v
   | _=>false
  | .box ..=>match σ.get d with
   | .ref r' p' s'=>Nat.beq i r'&&σ.ok i s'&&ll [] p'
   | _=>false
  | _=>false
 | _,_=>false
def uH (l:List (Nat×List (Nat×Nat))) (i:Nat):List (Nat×Nat):=match eG l i with | some x=>x | none=>[]
def BT (E:Env) (bM i:Nat):Bool:=(uH E.er bM).any λe=>Nat.beq i e.1
def BU (E:Env) (bM:Nat) (ops:List Oper) (is:List Nat) (σ:St):Bool:=(uH E.er bM).all λe=>is.any (Nat.beq e.1)||!(is.any (Nat.beq e.2)||Nat.ble ops.length e.2)||(match ops[e.1]? with
 | some o=>EV σ o
 | none=>false)
def uI (E:Env) (bM:Nat) (ops:List Oper) (i:Nat) (o:Oper) (is:List Nat) (σ:St):Bool:=!(sM o.op||BT E bM i)||BU E bM ops is σ
def AW (σ:St):List Nat->(St->Option R)->Option R
 | [],K=>K σ
 | i::is,K=>match σ.get i with
  | .box t m H v=>if H.isEmpty&&fits m (ai t) then AW ((σ.put i .dead).put i (.cp t v)) is K else none
  | _=>none
def vY (σ:St) (d:Nat):Bool:=Nat.blt d σ.n&&(match σ.get d with
 | .dead=>true
 | _=>false)&&!qh σ.ax d&&!σ.gh.any λe=>Nat.beq e.1 d
def BV (E:Env) (bM:Nat) (ops:List Oper) (is:List Nat) (σ:St):Bool:=(eX E.pd bM).all λj=>!is.any (Nat.beq j)||(match (ops[j]?).bind (·.dst) with
 | some d=>vY σ d
 | none=>false)
def Di (ops:List Oper) (σ:St):List Nat->(St->Option R)->Option R
 | [],K=>K σ
 | j::js,K=>match (ops[j]?).bind (·.dst) with
  | some d=>Di ops (σ.put d .dead) js K
  | none=>none
def rF (E:Env) (bM:Nat) (ops:List Oper):List Nat->St->(St->Option R)->Option R
 | [],σ,K=>K σ
 | i::is,σ,K=>
  match BV E bM ops (i::is) σ with
  | false=>none
  | true=>
  match ops[i]? with
  | none=>none
  | some o=>rE ops σ o.guard λb σ=>
   match b with
   | true=>match yD E bM i&&!yC σ o with
    | true=>none
    | false=>gL E bM i o σ λσ=>match uI E bM ops i o is σ with
     | true=>rF E bM ops is σ K
     | false=>none
   | false=>rF E bM ops is (σ.aB o.dst (.gN [])) K
def hO:Code->Nat
 | .region id _ _=>id
 | .seq a _=>hO a
 | .block _ b=>hO b
 | .loop b=>hO b
 | .scope b=>hO b
 | _=>0
def rG (live:List Nat) (fr:List (Nat×Md)) (r:Nat):Bool:=live.any (Nat.beq r)&&(match eG fr r with
 | none=>true
 | some _=>false)
def db (live:List Nat) (fr:List (Nat×Md)) (σ:St) (i:Nat):Slot:=
 match σ.get i with
 | .ptr r p snap=>if σ.ok r snap&&rG live fr r then .ptr r p (snap.map λ_=>0) else .dead
 | .ref r p snap=>if σ.ok r snap&&rG live fr r then .ref r p (snap.map λ_=>0) else .dead
 | .sub r p snap lo hi=>if σ.ok r snap&&rG live fr r then .sub r p (snap.map λ_=>0) lo hi else .dead
 | s=>s
def nc (live:List Nat) (σ:St):St:={ n:=σ.n,sl:=live.map λi=>(i,db live [] σ i),vr:=[],ax:=σ.ax }
def o6 (fr:List (Nat×Md)) (i:Nat) (s:Slot):Slot:=
 match eG fr i with
 | none=>s
 | some m1=>
  match s with
  | .own t m H v=>if H.isEmpty&&fits m m1 then (if m1=ai t then .val t v else .own t m1 [] v) else .dead
  | .box t m H v=>if H.isEmpty&&fits m m1 then .box t m1 [] v else .dead
  | s=>s
def dg (live:List Nat) (fr:List (Nat×Md)) (σ:St):St:={ n:=σ.n,sl:=live.map λi=>(i,o6 fr i (db live fr σ i)),vr:=[],ax:=σ.ax }
def BW (l:List (Nat×List (Nat×Md))) (i:Nat):List (Nat×Md):=match eG l i with | some x=>x | none=>[]
inductive Ex where
 | normal
 | exit (id:Nat)
def fd (rec:St->Option R) (kp:St->St) (K:Ex->St->Option R):Ex->St->Option R
 | .normal,σ=>rec (kp σ)
 | .exit j,σ=>K (.exit j) σ
def aJ (B:St->(Ex->St->Option R)->Option R) (K:Ex->St->Option R):Ex->St->Option R
 | .normal,σ=>B σ K
 | .exit j,σ=>K (.exit j) σ
def ag (id:Nat) (K:Ex->St->Option R):Ex->St->Option R
 | .normal,σ=>K .normal σ
 | .exit j,σ=>if Nat.beq j id then K .normal σ else K (.exit j) σ
def sN (F:St->(Ex->St->Option R)->Option R) (kp:St->St) (K:Ex->St->Option R):Nat->St->Option R
 | 0,_=>none
 | k+1,σ=>F σ (fd (sN F kp K k) kp K)
def jv (E:Env) (k:Nat) (fin:St->Option R):Code->St->(Ex->St->Option R)->Option R
 | .skip,σ,K=>K .normal σ
 | .region id ops d,σ,K=>match d with
  | false=>vX E id ops.toList ops.toList 0 σ λσ=>AW σ (eX E.bx id) λσ=>K .normal σ
  | true=>AW σ (eX E.bx id) λσ=>Di ops.toList σ (eX E.pd id) λσ=>rF E id ops.toList (eX E.od id) σ λσ=>K .normal σ
 | .seq a b,σ,K=>jv E k fin a σ (aJ (jv E k fin b) K)
 | .cond c a b,σ,K=>uD (a9 σ c) λc=>match c with
  | true=>jv E k fin a σ K
  | false=>jv E k fin b σ K
 | .block id b,σ,K=>jv E k fin b σ (ag id K)
 | .loop b,σ,K=>sN (jv E k fin b) (dg (eX E.lv (hO b)) (BW E.lf (hO b))) K k (dg (eX E.lv (hO b)) (BW E.lf (hO b)) σ)
 | .scope b,σ,K=>jv E k fin b σ K
 | .exit id,σ,K=>K (.exit id) (nc (eX E.lx id) σ)
 | .ret,σ,_=>fin σ
 | _,_,_=>none
end
def sub:List Nat->Code->Code
 | [],c=>c
 | i::p,.seq a b=>match i with
  | 0=>sub p a
  | _=>sub p b
 | i::p,.cond _ a b=>match i with
  | 0=>sub p a
  | _=>sub p b
 | _::p,.block _ b=>sub p b
 | _::p,.loop b=>sub p b
 | _::p,.scope b=>sub p b
 | _,c=>c
def au {V R:Type} (B:(V->Option R)->V->Option R):Nat->V->Option R
 | 0,_=>none
 | k+1,v=>B (au B k) v
theorem aN {V R:Type} (F:St->(Ex->St->Option R)->Option R) (kp:St->St) (K:Ex->St->Option R) (σ:V->St) (B:(V->Option R)->V->Option R)
  (h:∀ (rec:St->Option R) (v:V),F (σ v) (fd rec kp K)=B (λv'=>rec (σ v')) v):∀ (n:Nat) (v:V),sN F kp K n (σ v)=au B n v:=by
 intro n
 induction n with
 | zero=>intro v;rfl
 | succ n ih=>
  intro v
  show F (σ v) (fd (sN F kp K n) kp K)=B (au B n) v
  simp_all
end
end OT
namespace OT
open Go
noncomputable section
def cc:(ps:List (PM×Ty))->(bB (ps.map (·.2))).den->List Slot
 | [],_=>[]
 | (.ro,.ptr e)::ps,v=>.cp e v.1::cc ps v.2
 | (.fix f,.fn)::ps,v=>.val .fn (f,v.1.2)::cc ps v.2
 | (.fix _,_)::ps,v=>.dead::cc ps v.2
 | (.ro,t)::ps,v=>.val t v.1::cc ps v.2
 | (.dm m _,t)::ps,v=>.box t m [] v.1::cc ps v.2
 | (.eV m,t)::ps,v=>.own t m [] v.1::cc ps v.2
 | (.fk m,t)::ps,v=>.own t m [] v.1::cc ps v.2
 | (.gV m,t)::ps,v=>.box t m [] v.1::cc ps v.2
def n8:Nat->List Slot->List (Nat×Slot)
 | _,[]=>[]
 | i,s::ss=>(i,s)::n8 (i+1) ss
def jy:Nat->List (PM×Ty)->List (Nat×Nat×Bool)
 | _,[]=>[]
 | i,(.dm _ _,_)::ps=>(i,i,false)::jy (i+1) ps
 | i,(.eV _,_)::ps=>(i,i,true)::jy (i+1) ps
 | i,(.gV _,_)::ps=>(i,i,false)::jy (i+1) ps
 | i,_::ps=>jy (i+1) ps
def pR (ps:List (PM×Ty)) (v:(bB (ps.map (·.2))).den) (n:Nat):St:={ n:=n,sl:=n8 0 (cc ps v),vr:=[],ax:=jy 0 ps }
section
variable {R:Type}
def lm (σ:St):Nat->(ps:List (PM×Ty))->List Nat->((bB (dh ps)).den->Option R)->Option R
 | _,[],_,K=>K ()
 | j,(.ro,_)::ps,es,K=>lm σ (j+1) ps es K
 | j,(.fix _,_)::ps,es,K=>lm σ (j+1) ps es K
 | j,(.gV _,_)::ps,es,K=>lm σ (j+1) ps es K
 | j,(.fk _,_)::ps,es,K=>lm σ (j+1) ps es K
 | j,(.dm _ m,t)::ps,i::es,K=>match σ.get i with
  | .box t' m' H v=>if H.isEmpty&&(decide (m'=m)||fits m' m)&&pQ σ.ax i j false then cy t' t v λv=>lm σ (j+1) ps es λvs=>K (v,vs) else none
  | _=>none
 | j,(.eV m,t)::ps,i::es,K=>match σ.get i with
  | .own t' m' H v | .box t' m' H v=>if H.isEmpty&&(decide (m'=m)||fits m' m)&&pQ σ.ax i j true then cy t' t v λv=>lm σ (j+1) ps es λvs=>K (v,vs) else none
  | _=>none
 | _,_,_,_=>none
def uJ (σ:St):ResultVar->Slot
 | .tmp i=>a9 σ (.tmp i)
 | .cell a _=>match σ.get a with
  | .box _ _ _ _=>.ref a [] (σ.da a)
  | _=>.dead
def BX (σ:St) (ts:List Ty) (mv:Nat->Bool) (fin:St->((bB ts).den->Option R)->Option R) :
    (rs:List (Ty×Md))->List ResultVar->Nat->((bB (rs.map (·.1)++ts)).den->Option R)->Option R
 | [],[],_,K=>fin σ K
 | (t,m)::rs,x::xs,j,K=>dR σ (uJ σ x) (mv j) t λm' v σ'=>
  if m'=m\/fits m' m=true then BX σ' ts mv fin rs xs (j+1) λvs=>K (v,vs) else none
 | _,_,_,_=>none
end
def yE (ps:List (PM×Ty)) (rs:List (Ty×Md)) (es:List Nat) (pS:List ResultVar) (mv:Nat->Bool) (σ:St):Option (bB (rs.map (·.1)++dh ps)).den:=
 BX σ (dh ps) mv (λσ K=>lm σ 0 ps es K) rs pS 0 some
def Gl (fr:List Nat) (j:Nat):Bool:=!(fr.any (Nat.beq j))
def Im {R:Type} (fin:St->Option R):Ex->St->Option R
 | .normal,σ=>fin σ
 | .exit _,_=>none
def rH (fn:Func):Code:=match fn.body with
 | some c=>c
 | none=>.refuse ""
abbrev PQ:Type:=List (PM×Ty)
abbrev RQ:Type:=List (Ty×Md)
abbrev TL:Type:=List (Nat×Ty)
abbrev GL:Type:=List (Nat×kf)
abbrev KT (R:Type):Type:=Ex->St->Option R
abbrev RT (R:Type):Type:=St->Option R
def xZ (E:Env) (k:Nat) (fn:Func) (ps:List (PM×Ty)) (rs:List (Ty×Md)) (es fr:List Nat) (v:(bB (ps.map (·.2))).den):Option (bB (rs.map (·.1)++dh ps)).den:=
 jv E k (yE ps rs es fn.results.toList (Gl fr)) (rH fn) (pR ps v fn.ntmps) (Im (yE ps rs es fn.results.toList (Gl fr)))
def lift {R:Type} (f:Nat->Option R):Option R:=open Classical in if h:∃ out,∃ k,∀ k',k<=k'->f k'=some out then some h.choose else none
theorem ah {R:Type} {f:Nat->Option R} {out:R} {k:Nat} (h:∀ k',k<=k'->f k'=some out):lift f=some out:=by
 have hex:∃ out,∃ k,∀ k',k<=k'->f k'=some out:=⟨out,k,h⟩
 unfold lift
 rw[dif_pos hex]
 obtain ⟨k2,Y⟩:=hex.choose_spec
 have e1:=h (max k k2) (Nat.le_max_left _ _)
 grind
theorem Dj {R:Type} {f:Nat->Option R} {out:R} (h:lift f=some out):∃ k,f k=some out:=by
 unfold lift at h
 split at h
 ·rename_i hex
  obtain ⟨k,hk⟩:=hex.choose_spec
  injection h with h
  exact ⟨k,by grind⟩
 ·cases h
abbrev i64:Ty:=.int .i64
abbrev u8:Ty:=.int .u8
def ap (n:Int):Int:=IntKind.wrap .i64 n
end
end OT
set_option linter.unusedVariables false
set_option linter.unusedSimpArgs false
namespace OT
open Go
abbrev FP:=Nat->Nat->Nat
abbrev Cells:=Nat->Nat->Prop
def isAgg:Ty->Bool
 | .unit | .pair _ _ | .arr _ _=>true
 | _=>false
def aY (t:Ty) (cs:List Value):Value:=if isAgg t then .agg cs.toArray else cs.headD undef
def qn (jf:List (Value×Value)):Value:=.tuple (jf.map λkv=>Value.tuple #[kv.1,kv.2]).toArray
def entriesOf (es:Array MapEntry):List (Value×Value):=es.toList.map λe=>(e.key,e.val)
def BY (u:Value):Option Value:=if u.oneCell' then some u else none
def ce (w:World) (b i:Nat):Option Value:=match w.heap[b]? with
 | some (.map es _)=>if i=0 then some (qn (entriesOf es)) else none
 | _=>(w.cell? ⟨b,i,none⟩).bind BY
theorem qo {w w2:World} {b:Nat} (h:w2.heap[b]?=w.heap[b]?) (i:Nat):ce w2 b i=ce w b i:=by grind [ce,World.cell?]
theorem wH {u v:Value} (h:BY u=some v):v=u/\u.oneCell'=true:=by
 grind [BY]
theorem kT {w:World} {b i:Nat} {u:Value} (h:ce w b i=some u) (hu:u.oneCell'=true):w.cell? ⟨b,i,none⟩=some u:=by
 unfold ce at h
 split at h
 ·split at h
  ·injection h with h;subst h;cases hu
  ·cases h
 ·cases hc:w.cell? ⟨b,i,none⟩ with
  | none=>grind
  | some v=>
   rw[hc] at h
   have:=wH h
   rw[this.1]
theorem vZ {w:World} {b i:Nat} {u:Value} (h:w.cell? ⟨b,i,none⟩=some u) (hu:u.oneCell'=true):ce w b i=some u:=by
 grind [World.cell?,ce,BY]
theorem EW:∀ {a b:List (Value×Value)},qn a=qn b->a=b:=by
 have main:∀ (a b:List (Value×Value)),(a.map λkv=>Value.tuple #[kv.1,kv.2])=(b.map λkv=>Value.tuple #[kv.1,kv.2])->a=b:=by
  intro a
  induction a with
  | nil=>simp_all
  | cons x a ih=>
   intro b h
   cases b <;> grind
 grind [qn]
theorem Dk {w:World} {r:Nat} {jf:List (Value×Value)} (h:ce w r 0=some (qn jf)):∃ es clock,w.heap[r]?=some (.map es clock)/\entriesOf es=jf:=by
 unfold ce at h
 split at h
 ·grind [EW]
 ·cases hc:w.cell? ⟨r,0,none⟩ with
  | none=>grind
  | some v=>
   rw[hc] at h
   have:=wH h
   have Y:=this.2
   rw[<-this.1] at Y
   cases Y
theorem Dl {w:World} {r:Nat} {es:Array MapEntry} {clock:Nat} (h:w.heap[r]?=some (.map es clock)):ce w r 0=some (qn (entriesOf es)):=by
 grind [ce]
def Has (w:World) (b o:Nat) (L:List Value):Prop:=∀ j u,L[j]?=some u->ce w b (o+j)=some u
def v9:Ty->Bool
 | .int .u8=>true
 | _=>false
def cf (w:World) (b:Nat) (n:Nat×Bool):Prop:=∃ c e fr,w.heap[b]?=some (.cells c e fr)/\c.size=n.1/\(∀ i,i < n.1->¬ (fr.1<=i/\i < fr.2))/\(n.2=false->¬ (fr.1<=n.1/\n.1 < fr.2))
def bm (b o n:Nat):FP:=λb' i=>if b'=b/\o<=i/\i < o+n then 1 else 0
def al:Nat->(Nat->FP)->FP
 | 0,_=>λ_ _=>0
 | n+1,f=>λb i=>al n f b i+f n b i
def bD (f:Nat->FP) (j:Nat) (g:FP):Nat->FP:=λi=>if i=j then g else f i
theorem ln {n:Nat} {f g:Nat->FP} (h:∀ j,j < n->f j=g j):al n f=al n g:=by
 induction n with
 | zero=>rfl
 | succ n ih=>
  funext b i
  simp only[al]
  rw[ih (λj hj=>h j (by omega)),h n (by omega)]
theorem iR {n:Nat} (f:Nat->FP) {j:Nat} (hj:j < n) (g:FP) (b i:Nat):al n (bD f j g) b i+f j b i=al n f b i+g b i:=by
 induction n with
 | zero=>omega
 | succ n ih=>
  simp only[al]
  by_cases h:j=n
  ·subst h
   have:al j (bD f j g)=al j f:=ln λk hk=>by grind [bD]
   rw[this]
   simp[bD]
   omega
  ·have:=ih (by omega)
   have e:bD f j g n=f n:=by grind [bD]
   rw[e];omega
theorem yF {n:Nat} (f:Nat->FP) {j:Nat} (hj:n<=j) (g:FP):al n (bD f j g)=al n f:=
 ln λk hk=>by grind [bD]
theorem aW {n:Nat} (f:Nat->FP) {j:Nat} (hj:j < n) (b i:Nat):f j b i<=al n f b i:=by
 induction n <;> grind [al]
theorem iS {n:Nat} (f:Nat->FP) {j k:Nat} (hj:j < n) (hk:k < n) (bG:j≠k) (b i:Nat):f j b i+f k b i<=al n f b i:=by
 have h1:=iR f hj (λ_ _=>0) b i
 have Y:=aW (bD f j λ_ _=>0) hk b i
 have e:bD f j (λ_ _=>0) k=f k:=by grind [bD]
 rw[e] at Y
 grind
theorem d9 (n:Nat) (b i:Nat):al n (λ_ _ _=>0) b i=0:=by
 induction n <;> grind [al]
theorem mf (n m:Nat) (f:Nat->FP) (b i:Nat):al (n+m) f b i=al n f b i+al m (λj=>f (n+j)) b i:=by
 induction m <;> grind [al]
theorem v_ {n:Nat} {f g:Nat->FP} (b i:Nat) (h:∀ j,j < n->f j b i<=g j b i):al n f b i<=al n g b i:=by
 induction n <;> grind [al]
theorem Dm (n:Nat) (f:Nat->FP) (k m:Nat) (h:k+m<=n) (b i:Nat):al m (λj=>f (k+j)) b i<=al n f b i:=by
 have e:n=k+(m+(n - k - m)):=by omega
 grind [mf]
theorem yG {n:Nat} {f:Nat->FP} {b i:Nat} (h:1<=al n f b i):∃ j,j < n/\1<=f j b i:=by
 induction n <;> grind [al]
section
variable (P:Program) (w:World) (A:Cells)
def Ro:(t:Ty)->t.den->List Value->Prop
 | .int k,v,cs=>cs=[.int k (fy k v)]
 | .bool,v,cs=>cs=[.bool v]
 | .str,v,cs=>cs=[.string ⟨List.toArray v⟩]
 | .unit,_,cs=>cs=[]
 | .pair a b,v,cs=>Ro a v.1 (cs.take a.sz)/\Ro b v.2 (cs.drop a.sz)
 | .arr n e,v,cs=>e.flat=true/\List.length v=n/\cs.length=n*e.sz/\∀ (i:Nat) (x:e.den),v[i]?=some x->Ro e x ((cs.drop (i*e.sz)).take e.sz)
 | .af e,v,cs=>∃ a cap,cs=[.slice a (List.length v) cap]/\List.length v<=cap/\(a=none->List.length v=0)/\∀ ad,a=some ad->(0 < cap->ad.spot=none) /\
   ∀ (i:Nat) (x:e.den),v[i]?=some x->∃ L:List Value,L.length=e.sz/\(∀ j u,L[j]?=some u->ce w ad.block (ad.off+i*e.sz+j)=some u/\A ad.block (ad.off+i*e.sz+j))/\Ro e x L
 | .ptr e,v,cs=>∃ ad,cs=[.pointer (some ad)]/\ad.spot=none /\
   ∃ L:List Value,L.length=e.sz/\(∀ j u,L[j]?=some u->ce w ad.block (ad.off+j)=some u/\A ad.block (ad.off+j))/\Ro e v L
 | .fn,v,cs=>∃ pC,cs=[.func (.func v.1) #[] pC]/\∃ fn,P.funcs[v.1]?=some fn /\
   ((fn.nfree=0/\pC=#[])\/(fn.nfree=1/\∃ ad:Addr,pC=#[.pointer (some ad)]/\ad.spot=none/\ce w ad.block ad.off=some (.int .i64 v.2)/\A ad.block ad.off))
 | .map k v,x,cs=>k.flat=true/\v.flat=true/\∃ (r:Nat) (jf:List (Value×Value)),cs=[.map (some r)]/\ce w r 0=some (qn jf)/\A r 0/\jf.length=List.length x /\
   ∀ (i:Nat) (y:k.den×v.den),x[i]?=some y->∃ (kc vc:List Value),jf[i]?=some (aY k kc,aY v vc)/\Ro k y.1 kc/\Ro v y.2 vc
def hole (H:List Path):Bool:=H.any (·.isEmpty)
def dx (i:Nat):Path->Option Path
 | .idx j::p=>if i=j then some p else none
 | _=>none
def ae:(t:Ty)->Md->List Path->t.den->List Value->FP->Prop
 | .pair a b,m,H,v,cs,F=>hole H=false/\∃ F1 F2:FP,(∀ x i,F1 x i+F2 x i<=F x i) /\
   ae a m.l (H.filterMap kq) v.1 (cs.take a.sz) F1/\ae b m.r (H.filterMap kt) v.2 (cs.drop a.sz) F2
 | .af e,m,H,v,cs,F=>
   if hole H then ∃ x:Value,cs=[x]/\x.oneCell'=true
   else if m.own then ∃ a cap,cs=[.slice a (List.length v) cap]/\List.length v<=cap/\cap<=maxLen/\(a=none->cap=0)/\∀ ad,a=some ad->ad.off=0/\ad.spot=none /\
    cf w ad.block (cap*e.sz,v9 e)/\∃ Fi:Nat->FP,(∀ x i,bm ad.block 0 (cap*e.sz) x i+al (List.length v) Fi x i<=F x i) /\
    ∀ (i:Nat) (x:e.den),v[i]?=some x->∃ L:List Value,L.length=e.sz/\Has w ad.block (i*e.sz) L/\ae e m.e (H.filterMap (dx i)) x L (Fi i)
   else H=[]/\m.e.cS=true/\Ro P w A (.af e) v cs
 | .ptr e,m,H,v,cs,F=>
   if hole H then ∃ x:Value,cs=[x]/\x.oneCell'=true
   else if m.own then ∃ b,cs=[.pointer (some ⟨b,0,none⟩)]/\cf w b (e.sz,false)/\∃ (L:List Value) (F1:FP),L.length=e.sz/\Has w b 0 L /\
    (∀ x i,bm b 0 e.sz x i+F1 x i<=F x i)/\ae e m.e [] v L F1
   else H=[]/\m.e.cS=true/\Ro P w A (.ptr e) v cs
 | .int k,_,_,v,cs,_=>Ro P w A (.int k) v cs
 | .bool,_,_,v,cs,_=>Ro P w A .bool v cs
 | .str,_,_,v,cs,_=>Ro P w A .str v cs
 | .unit,_,_,v,cs,_=>Ro P w A .unit v cs
 | .arr n e,_,H,v,cs,_=>H=[]/\Ro P w A (.arr n e) v cs
 | .fn,_,_,v,cs,_=>Ro P w A .fn v cs
 | .map k v,m,H,x,cs,F=>
   if hole H then ∃ x:Value,cs=[x]/\x.oneCell'=true
   else if m.own then k.flat=true/\v.flat=true/\∃ (r:Nat) (jf:List (Value×Value)),cs=[.map (some r)]/\ce w r 0=some (qn jf)/\1<=F r 0/\jf.length=List.length x /\
    ∀ (i:Nat) (y:k.den×v.den),x[i]?=some y->∃ (kc vc:List Value),jf[i]?=some (aY k kc,aY v vc)/\Ro P w A k y.1 kc/\Ro P w A v y.2 vc
   else H=[]/\m.e.cS=true/\Ro P w A (.map k v) x cs
end
theorem Ro.length {P:Program} {w:World} {A:Cells}:∀ (t:Ty) {v:t.den} {cs:List Value},Ro P w A t v cs->cs.length=t.sz:=by
 intro t
 induction t <;> grind [Ty.sz,Ro]
theorem ae.length {P:Program} {w:World} {A:Cells}:∀ (t:Ty) {m:Md} {H:List Path} {v:t.den} {cs:List Value} {F:FP},ae P w A t m H v cs F->cs.length=t.sz:=by
 intro t
 induction t <;> grind [Ty.sz,ae,Ro.length]
structure OC (w w':World) (S:Nat->Nat->Prop):Prop where
 cell:∀ b i,S b i->∀ u,ce w b i=some u->ce w' b i=some u
 l_:∀ b n,cf w b n->cf w' b n
theorem Ro.mono {P:Program} {w w':World} {A A':Cells} (hc:∀ b i,A b i->∀ u,ce w b i=some u->ce w' b i=some u) (hA:∀ b i,A b i->A' b i) :
  ∀ (t:Ty) {v:t.den} {cs:List Value},Ro P w A t v cs->Ro P w' A' t v cs:=by
 intro t
 induction t with
 | pair a b d_ dT=>intro v cs h;exact ⟨d_ h.1,dT h.2⟩
 | arr n e ih=>intro v cs h;exact ⟨h.1,h.2.1,h.2.2.1,λi x hx=>ih (h.2.2.2 i x hx)⟩
 | af e ih=>
  rintro v cs ⟨a,cap,h1,Y,h3,h4⟩
  refine ⟨a,cap,h1,Y,h3,λad cR=>⟨(h4 ad cR).1,λi x hx=>?_⟩⟩
  grind
 | ptr e ih=>
  rintro v cs ⟨ad,h1,Y,L,hl,hL,hr⟩
  exact ⟨ad,h1,Y,L,hl,λj u hu=>⟨hc _ _ (hL j u hu).2 u (hL j u hu).1,hA _ _ (hL j u hu).2⟩,ih hr⟩
 | fn=>
  rintro v cs ⟨pC,h1,fn,Y,h3⟩
  refine ⟨pC,h1,fn,Y,?_⟩
  grind
 | map k v In Ip=>
  rintro x cs ⟨h1,Y,r,jf,h3,h4,h5,h6,h7⟩
  refine ⟨h1,Y,r,jf,h3,hc _ _ h5 _ h4,hA _ _ h5,h6,λi y hy=>?_⟩
  grind
 | _=>intro v cs h;exact h
theorem ae.mono {P:Program} {w w':World} {A A':Cells} (hA:∀ b i,A b i->A' b i) (hc:∀ b i,A b i->∀ u,ce w b i=some u->ce w' b i=some u) (hb:∀ b n,cf w b n->cf w' b n) :
  ∀ (t:Ty) {m:Md} {H:List Path} {v:t.den} {cs:List Value} {F F':FP},ae P w A t m H v cs F->(∀ b i,F b i<=F' b i)->(∀ b i,1<=F b i->∀ u,ce w b i=some u->ce w' b i=some u)->ae P w' A' t m H v cs F':=by
 intro t
 induction t with
 | pair a b d_ dT=>
  intro m H v cs F F' h hF n_
  obtain ⟨h0,F1,F2,hs,h1,Y⟩:=h
  exact ⟨h0,F1,F2,λx i=>Nat.le_trans (hs x i) (hF x i),d_ h1 (λ_ _=>Nat.le_refl _) (λb i hp=>n_ b i (by grind)),
   dT Y (λ_ _=>Nat.le_refl _) (λb i hp=>n_ b i (by grind))⟩
 | af e ih=>
  intro m H v cs F F' h hF n_
  simp only[ae] at h ⊢
  split at h
  ·grind
  ·rename_i hh;rw[if_neg hh]
   split at h
   ·rename_i hm;rw[if_pos hm]
    obtain ⟨a,cap,h1,Y,h3,h4,h5⟩:=h
    refine ⟨a,cap,h1,Y,h3,h4,λad cR=>?_⟩
    obtain ⟨g1,g2,g3,Fi,g4,g5⟩:=h5 ad cR
    refine ⟨g1,g2,hb _ _ g3,Fi,λx i=>Nat.le_trans (g4 x i) (hF x i),λi x hx=>?_⟩
    obtain ⟨L,hl,hL,hr⟩:=g5 i x hx
    have hi:i < List.length v:=(List.getElem?_eq_some_iff.1 hx).1
    refine ⟨L,hl,λj u hu=>n_ _ _ ?_ u (hL j u hu),ih hr (λ_ _=>Nat.le_refl _) (λb k hp=>n_ b k ?_)⟩
    ·have:=g4 ad.block (i*e.sz+j)
     have hj:j < e.sz:=hl ▸ (List.getElem?_eq_some_iff.1 hu).1
     have:i*e.sz+j < cap*e.sz:=by
      have h1:(i+1)*e.sz<=cap*e.sz:=Nat.mul_le_mul_right _ (by omega)
      grind
     grind [bm]
    grind [aW]
   grind [Ro.mono]
 | ptr e ih=>
  intro m H v cs F F' h hF n_
  simp only[ae] at h ⊢
  split at h
  ·grind
  ·rename_i hh;rw[if_neg hh]
   split at h
   ·rename_i hm;rw[if_pos hm]
    obtain ⟨b,h1,Y,L,F1,h3,h4,h5,h6⟩:=h
    refine ⟨b,h1,hb _ _ Y,L,F1,h3,λj u hu=>n_ _ _ ?_ u (h4 j u hu),λx i=>Nat.le_trans (h5 x i) (hF x i),ih h6 (λ_ _=>Nat.le_refl _) (λb' k hp=>n_ b' k ?_)⟩
    all_goals grind [bm]
   grind [Ro.mono]
 | arr n e ih=>intro m H v cs F F' h hF n_;exact ⟨h.1,Ro.mono hc hA _ h.2⟩
 | map k v In Ip=>
  grind [ae,Ro.mono]
 | _=>intro m H v cs F F' h hF n_;exact Ro.mono hc hA _ h
theorem ae.le {P:Program} {w:World} {A:Cells} {t:Ty} {m:Md} {H:List Path} {v:t.den} {cs:List Value} {F F':FP} (h:ae P w A t m H v cs F) (hF:∀ b i,F b i<=F' b i):ae P w A t m H v cs F':=
 ae.mono (λ_ _ h=>h) (λ_ _ _ _ h=>h) (λ_ _ h=>h) t h hF (λ_ _ _ _ h=>h)
theorem ae.lq {P:Program} {w:World} {A A':Cells} (hA:∀ b i,A b i->A' b i) :
  ∀ (t:Ty) {m:Md} {v:t.den} {cs:List Value} {F:FP},ae P w A t m [] v cs F->(∀ b i,1<=F b i->A' b i)->Ro P w A' t v cs:=by
 intro t
 induction t with
 | pair a b d_ dT=>
  intro m v cs F h hF
  obtain ⟨h0,F1,F2,hs,h1,Y⟩:=h
  exact ⟨d_ h1 (λb i hp=>hF b i (by grind)),dT Y (λb i hp=>hF b i (by grind))⟩
 | af e ih=>
  intro m v cs F h hF
  simp only[ae,hole,List.any_nil,Bool.false_eq_true,if_false] at h
  split at h
  ·obtain ⟨a,cap,h1,Y,h3,h4,h5⟩:=h
   refine ⟨a,cap,h1,Y,λhn=>by grind,λad cR=>?_⟩
   obtain ⟨g1,g2,g3,Fi,g4,g5⟩:=h5 ad cR
   refine ⟨λ_=>g2,λi x hx=>?_⟩
   obtain ⟨L,hl,hL,hr⟩:=g5 i x hx
   have hi:i < List.length v:=(List.getElem?_eq_some_iff.1 hx).1
   refine ⟨L,hl,λj u hu=>?_,ih hr λb k hp=>hF b k ?_⟩
   ·rw[g1,Nat.zero_add]
    refine ⟨hL j u hu,hF _ _ ?_⟩
    have:=g4 ad.block (i*e.sz+j)
    have hj:j < e.sz:=hl ▸ (List.getElem?_eq_some_iff.1 hu).1
    have:i*e.sz+j < cap*e.sz:=by
     have h1:(i+1)*e.sz<=cap*e.sz:=Nat.mul_le_mul_right _ (by omega)
     grind
    grind [bm]
   grind [aW]
  grind [Ro.mono]
 | ptr e ih=>
  intro m v cs F h hF
  simp only[ae,hole,List.any_nil,Bool.false_eq_true,if_false] at h
  split at h
  ·obtain ⟨b,h1,Y,L,F1,h3,h4,h5,h6⟩:=h
   refine ⟨_,h1,rfl,L,h3,λj u hu=>⟨h4 j u hu,hF _ _ ?_⟩,ih h6 λb' k hp=>hF _ _ ?_⟩
   all_goals grind [bm]
  grind [Ro.mono]
 | arr n e ih=>intro m v cs F h hF;exact Ro.mono (λ_ _ _ _ h=>h) hA _ h.2
 | map k v In Ip=>
  intro m x cs F h hF
  simp only[ae,hole,List.any_nil,Bool.false_eq_true,if_false] at h
  split at h
  ·obtain ⟨h1,Y,r,jf,h3,h4,h5,h6,h7⟩:=h
   refine ⟨h1,Y,r,jf,h3,h4,hF _ _ h5,h6,λi y hy=>?_⟩
   grind [Ro.mono]
  grind [Ro.mono]
 | _=>intro m v cs F h hF;exact Ro.mono (λ_ _ _ _ h=>h) hA _ h
end OT
set_option linter.unusedVariables false
set_option linter.unusedSimpArgs false
namespace OT
open Go
theorem AY {m:Md} (h:m.cS=true):m.l.cS=true:=by cases m <;> simp_all [Md.cS,Md.l]
theorem AZ {m:Md} (h:m.cS=true):m.r.cS=true:=by cases m <;> simp_all [Md.cS,Md.r]
theorem wa {m:Md} (h:m.cS=true):m.e.cS=true:=by cases m <;> simp_all [Md.cS,Md.e]
theorem kU {m:Md} (h:m.cS=true):m.own=false:=by cases m <;> simp_all [Md.cS,Md.own]
theorem bI (t:Ty):(ai t).cS=true:=by
 induction t <;> simp_all [ai,kI,Md.cS]
theorem Iq {m m1:Md} (h:fits m m1=true):fits m.l m1.l=true:=by cases m <;> cases m1 <;> simp_all [fits,Md.l]
theorem Ir {m m1:Md} (h:fits m m1=true):fits m.r m1.r=true:=by cases m <;> cases m1 <;> simp_all [fits,Md.r]
theorem Dn {m m1:Md} (h:fits m m1=true):fits m.e m1.e=true:=by cases m <;> cases m1 <;> simp_all [fits,Md.e]
theorem tO {m m1:Md} (h:fits m m1=true):m1.own=true->m.own=true:=by
 intro h1;cases m <;> cases m1 <;> simp_all [fits,Md.own]
theorem wb {m m1:Md} (h:fits m m1=true) (h1:m1.own=false):m1.e.cS=true\/∃ e,m1=.arr e:=by
 cases m <;> cases m1 <;> simp_all [fits,Md.own,Md.e,Md.cS]
theorem qp:∀ {m m1:Md},fits m m1=true->m.cS=true->m1.cS=true:=by
 intro m
 induction m with
 | leaf=>grind [fits]
 | pair a b d_ dT=>
  intro m1 h hn
  cases m1 <;> grind [fits,Md.cS]
 | arr e ih=>
  intro m1 h hn
  cases m1 <;> grind [fits,Md.cS]
 | af o e ih=>
  intro m1 h hn
  cases m1 <;> grind [fits,Md.cS]
 | ptr o e ih=>
  intro m1 h hn
  cases m1 <;> grind [fits,Md.cS]
section
variable {P:Program} {w:World} {A:Cells}
theorem Ro.rep:∀ (t:Ty) {m:Md} {v:t.den} {cs:List Value} (F:FP),m.cS=true->Ro P w A t v cs->ae P w A t m [] v cs F:=by
 intro t
 induction t with
 | pair a b d_ dT=>
  intro m v cs F hm h
  exact ⟨rfl,λ_ _=>0,λ_ _=>0,λ_ _=>Nat.zero_le _,d_ _ (AY hm) h.1,dT _ (AZ hm) h.2⟩
 | af e ih=>grind [ae,hole,kU,wa]
 | ptr e ih=>grind [ae,hole,kU,wa]
 | arr n e ih=>intro m v cs F hm h;exact ⟨rfl,h⟩
 | map k v=>grind [ae,hole,kU,wa]
 | _=>intro m v cs F hm h;exact h
theorem ae.ro:∀ (t:Ty) {m:Md} {v:t.den} {cs:List Value} {F:FP},m.cS=true->ae P w A t m [] v cs F->Ro P w A t v cs:=by
 intro t
 induction t with
 | pair a b d_ dT=>
  intro m v cs F hm h
  obtain ⟨_,F1,F2,_,h1,Y⟩:=h
  exact ⟨d_ (AY hm) h1,dT (AZ hm) Y⟩
 | af e ih=>grind [ae,hole,kU]
 | ptr e ih=>grind [ae,hole,kU]
 | arr n e ih=>intro m v cs F hm h;exact h.2
 | map k v=>grind [ae,hole,kU]
 | _=>intro m v cs F hm h;exact h
theorem Ro.flat:∀ (t:Ty) {m:Md} {v:t.den} {cs:List Value} (F:FP),t.flat=true->Ro P w A t v cs->ae P w A t m [] v cs F:=by
 intro t
 induction t with
 | pair a b d_ dT=>
  intro m v cs F hm h
  simp only[Ty.flat,Bool.and_eq_true] at hm
  exact ⟨rfl,λ_ _=>0,λ_ _=>0,λ_ _=>Nat.zero_le _,d_ _ hm.1 h.1,dT _ hm.2 h.2⟩
 | af e ih=>grind [Ty.flat]
 | ptr e ih=>grind [Ty.flat]
 | arr n e ih=>intro m v cs F hm h;exact ⟨rfl,h⟩
 | map k v=>grind [Ty.flat]
 | _=>intro m v cs F hm h;exact h
theorem ae.flat:∀ (t:Ty) {m:Md} {H:List Path} {v:t.den} {cs:List Value} {F:FP},t.flat=true->ae P w A t m H v cs F->Ro P w A t v cs:=by
 intro t
 induction t with
 | pair a b d_ dT=>
  intro m H v cs F hm h
  simp only[Ty.flat,Bool.and_eq_true] at hm
  obtain ⟨_,F1,F2,_,h1,Y⟩:=h
  exact ⟨d_ hm.1 h1,dT hm.2 Y⟩
 | af e ih=>grind [Ty.flat]
 | ptr e ih=>grind [Ty.flat]
 | arr n e ih=>intro m H v cs F hm h;exact h.2
 | map k v=>grind [Ty.flat]
 | _=>intro m H v cs F hm h;exact h
theorem ae.fits:∀ (t:Ty) {m m1:Md} {v:t.den} {cs:List Value} {F:FP},fits m m1=true->ae P w A t m [] v cs F->(∀ b i,F b i<=1) ->
  ∃ F1:FP,(∀ b i,F1 b i<=F b i)/\∀ A':Cells,(∀ b i,A b i->A' b i)->(∀ b i,1<=F b i->F1 b i=0->A' b i)->ae P w A' t m1 [] v cs F1:=by
 intro t
 induction t with
 | pair a b d_ dT=>
  intro m m1 v cs F hf h hF
  obtain ⟨_,Fa,Fb,hs,h1,Y⟩:=h
  obtain ⟨G1,Mw,k1⟩:=d_ (Iq hf) h1 (λb i=>by grind)
  obtain ⟨G2,Mx,k2⟩:=dT (Ir hf) Y (λb i=>by grind)
  refine ⟨λb i=>G1 b i+G2 b i,λb i=>by grind,λA' hA gn=>⟨rfl,G1,G2,λ_ _=>Nat.le_refl _,k1 A' hA λb i hp hz=>?_,k2 A' hA λb i hp hz=>?_⟩⟩
  ·have:=hs b i;have:=hF b i;have:=Mx b i
   exact gn b i (by omega) (by grind)
  ·have:=hs b i;have:=hF b i;have:=Mw b i
   exact gn b i (by omega) (by grind)
 | af e ih=>
  intro m m1 v cs F hf h hF
  by_cases s_:m1.own=true
  ·have hm:=tO hf s_
   simp only[ae,hole,List.any_nil,Bool.false_eq_true,if_false,hm,if_true] at h
   obtain ⟨a,cap,h1,Y,h3,h4,h5⟩:=h
   cases a with
   | none=>
    refine ⟨λ_ _=>0,λ_ _=>Nat.zero_le _,λA' hA gn=>?_⟩
    grind [ae,hole]
   | some ad=>
    obtain ⟨g1,g2,g3,Fi,g4,g5⟩:=h5 ad rfl
    have each:∀ i,∃ Gi:FP,(∀ b k,Gi b k<=Fi i b k)/\∀ A':Cells,(∀ b i,A b i->A' b i)->(∀ b k,1<=Fi i b k->Gi b k=0->A' b k) ->
      ∀ x,v[i]?=some x->∃ L:List Value,L.length=e.sz/\Has w ad.block (i*e.sz) L/\ae P w A' e m1.e (([]:List Path).filterMap (dx i)) x L Gi:=by
     intro i
     cases hx:(v:List e.den)[i]? with
     | none=>exact ⟨λ_ _=>0,λ_ _=>Nat.zero_le _,λA' _ _ x Do=>by cases Do⟩
     | some x=>
      obtain ⟨L,hl,hL,hr⟩:=g5 i x hx
      have hi:i < List.length v:=(List.getElem?_eq_some_iff.1 hx).1
      obtain ⟨G,hG,k⟩:=ih (Dn hf) hr (λb k=>by have:=aW Fi hi b k;grind)
      exact ⟨G,hG,λA' hA gn x' Do=>by injection Do with Do;subst Do;exact ⟨L,hl,hL,k A' hA gn⟩⟩
    have ⟨Gi,Is⟩:=Classical.axiomOfChoice each
    refine ⟨λb k=>bm ad.block 0 (cap*e.sz) b k+al (List.length v) Gi b k,λb k=>?_,λA' hA gn=>?_⟩
    ·have:=g4 b k;have:=v_ b k (f:=Gi) (g:=Fi) (n:=List.length v) λj _=>(Is j).1 b k
     grind
    ·simp only[ae,hole,List.any_nil,Bool.false_eq_true,if_false,s_,if_true]
     refine ⟨some ad,cap,h1,Y,h3,h4,λaS BZ=>?_⟩
     injection BZ with BZ;subst BZ
     refine ⟨g1,g2,g3,Gi,λ_ _=>Nat.le_refl _,λi x hx=>(Is i).2 A' hA (λb k hp hz=>?_) x hx⟩
     have hi:i < List.length v:=(List.getElem?_eq_some_iff.1 hx).1
     have h1:=g4 b k;have Y:=hF b k;have h3:=aW Fi hi b k
     refine gn b k (by omega) ?_
     show bm ad.block 0 (cap*e.sz) b k+al (List.length v) Gi b k=0
     have:al (List.length v) Gi b k=0:=by
      rcases Nat.eq_zero_or_pos (al (List.length v) Gi b k) with h0 | h0
      ·exact h0
      ·obtain ⟨j,hj,KQ⟩:=yG h0
       have:=(Is j).1 b k
       by_cases eY:j=i
       all_goals grind [iS]
     omega
  ·have yH:m1.own=false:=by simpa using s_
   have il:m1.e.cS=true:=by
    rcases wb hf yH with h | ⟨e',rfl⟩
    ·exact h
    ·cases m <;> simp[OT.fits] at hf
     simp only[ae,hole,List.any_nil,Bool.false_eq_true,if_false,Md.own] at h
     exact qp hf h.2.1
   refine ⟨λ_ _=>0,λ_ _=>Nat.zero_le _,λA' hA gn=>?_⟩
   grind [ae.lq,ae]
 | ptr e ih=>
  intro m m1 v cs F hf h hF
  by_cases s_:m1.own=true
  ·have hm:=tO hf s_
   simp only[ae,hole,List.any_nil,Bool.false_eq_true,if_false,hm,if_true] at h
   obtain ⟨b,h1,Y,L,F1,h3,h4,h5,h6⟩:=h
   obtain ⟨G,hG,k⟩:=ih (Dn hf) h6 (λb' i=>by grind)
   refine ⟨λb' k=>bm b 0 e.sz b' k+G b' k,λb' k=>by grind,λA' hA gn=>?_⟩
   simp only[ae,hole,List.any_nil,Bool.false_eq_true,if_false,s_,if_true]
   refine ⟨b,h1,Y,L,G,h3,h4,λ_ _=>Nat.le_refl _,k A' hA λb' i hp hz=>gn b' i ?_ ?_⟩
   all_goals grind
  ·have yH:m1.own=false:=by simpa using s_
   have il:m1.e.cS=true:=by
    rcases wb hf yH with h | ⟨e',rfl⟩
    ·exact h
    ·cases m <;> simp[OT.fits] at hf
     simp only[ae,hole,List.any_nil,Bool.false_eq_true,if_false,Md.own] at h
     exact qp hf h.2.1
   refine ⟨λ_ _=>0,λ_ _=>Nat.zero_le _,λA' hA gn=>?_⟩
   grind [ae.lq,ae]
 | arr n e ih=>intro m m1 v cs F hf h hF;exact ⟨λ_ _=>0,λ_ _=>Nat.zero_le _,λA' hA gn=>⟨rfl,Ro.mono (λ_ _ _ _ h=>h) hA _ h.2⟩⟩
 | map k v In Ip=>
  intro m m1 x cs F hf h hF
  by_cases s_:m1.own=true
  ·have hm:=tO hf s_
   simp only[ae,hole,List.any_nil,Bool.false_eq_true,if_false,hm,if_true] at h
   obtain ⟨h1,Y,r,jf,h3,h4,h5,h6,h7⟩:=h
   refine ⟨F,λ_ _=>Nat.le_refl _,λA' hA gn=>?_⟩
   grind [ae,hole,Ro.mono]
  ·have yH:m1.own=false:=by simpa using s_
   have il:m1.e.cS=true:=by
    rcases wb hf yH with h | ⟨e',rfl⟩
    ·exact h
    ·cases m <;> simp[OT.fits] at hf
     simp only[ae,hole,List.any_nil,Bool.false_eq_true,if_false,Md.own] at h
     exact qp hf h.2.1
   refine ⟨λ_ _=>0,λ_ _=>Nat.zero_le _,λA' hA gn=>?_⟩
   grind [ae.lq,ae]
 | _=>intro m m1 v cs F hf h hF;exact ⟨λ_ _=>0,λ_ _=>Nat.zero_le _,λA' hA gn=>Ro.mono (λ_ _ _ _ h=>h) hA _ h⟩
end
end OT
set_option linter.unusedVariables false
set_option linter.unusedSimpArgs false
namespace OT
open Go
def rd (w:World) (b o n:Nat):List Value:=(List.range n).map λj=>(ce w b (o+j)).getD undef
theorem mL (w:World) (b o n:Nat):(rd w b o n).length=n:=by simp[rd]
theorem bq {w:World} {b o:Nat} {L:List Value} {n:Nat} (h:Has w b o L) (hn:L.length=n):rd w b o n=L:=by
 subst hn
 apply List.ext_getElem?
 intro j
 unfold rd
 rw[List.getElem?_map]
 by_cases hj:j < L.length
 ·rw[List.getElem?_range hj]
  have:=h j L[j] (List.getElem?_eq_getElem hj)
  grind
 grind
structure Pl where
 t:Ty
 H:List Path
 cs:List Value
 ad:Option (Nat×Nat)
def bR (ad:Option (Nat×Nat)) (k:Nat):Option (Nat×Nat):=ad.map λx=>(x.1,x.2+k)
def ay (w:World):Path->Ty->List Path->List Value->Option (Nat×Nat)->Option Pl
 | [],t,H,cs,ad=>some ⟨t,H,cs,ad⟩
 | .fst::p,.pair a _,H,cs,ad=>if hole H then none else ay w p a (H.filterMap kq) (cs.take a.sz) ad
 | .snd::p,.pair a b,H,cs,ad=>if hole H then none else ay w p b (H.filterMap kt) (cs.drop a.sz) (bR ad a.sz)
 | .idx i::p,.af e,H,cs,_=>if hole H then none else match cs with
  | [.slice (some a) n _]=>if i < n then ay w p e (H.filterMap (dx i)) (rd w a.block (a.off+i*e.sz) e.sz) (some (a.block,a.off+i*e.sz)) else none
  | _=>none
 | .gm i::p,.arr n e,H,cs,ad=>if H.isEmpty then (if i < n then ay w p e [] ((cs.drop (i*e.sz)).take e.sz) (bR ad (i*e.sz)) else none) else none
 | _,_,_,_,_=>none
def lr:Ty->Bool
 | .af _ | .map _ _=>true
 | _=>false
def gS (d:Nat) (full:Prop) (w:World) (t:Ty) (H:List Path) (cs:List Value) (ad:Option (Nat×Nat)) (w2:World) (H2:List Path) (a_:List Value):Prop:=
 ∀ q pl,bc q<=d->ay w q t H cs ad=some pl->∃ H' aC,ay w2 q t H2 a_ ad=some ⟨pl.t,H',aC,pl.ad⟩/\((bc q < d/\lr pl.t=true)\/full->aC=pl.cs)
theorem rI {R:Type} {H:List Path} {i:Nat} {K:List Path->Option R} {r:R} (h:ma H i K=some r) :
  K (H.filterMap (dx i))=some r/\(∀ j,j≠i->H.filterMap (dx j)=[])/\hole H=false:=by
 unfold ma at h
 split at h
 ·exact ⟨h,λ_ _=>rfl,rfl⟩
 ·rename_i j q
  split at h
  ·rename_i iB;subst iB
   refine ⟨by simpa [dx] using h,λj hj=>by simp[dx,hj],rfl⟩
  ·cases h
 ·cases h
theorem qq {R S:Type} {H:List Path} {i:Nat} {K:List Path->Option R} {r:R} (h:ma H i K=some r) (K2:List Path->Option S) :
  ma H i K2=K2 (H.filterMap (dx i)):=by
 unfold ma at h ⊢
 grind [dx]
theorem jg (H:List Path):(H.map (.fst::·)).filterMap kq=H:=by
 induction H <;> simp_all [kq]
theorem jh (H:List Path):(H.map (.snd::·)).filterMap kt=H:=by
 induction H <;> simp_all [kt]
theorem jz (H:List Path):(H.map (.snd::·)).filterMap kq=[]:=by
 simp_all [kq]
theorem jA (H:List Path):(H.map (.fst::·)).filterMap kt=[]:=by
 simp_all [kt]
theorem rn (i:Nat) (H:List Path):(H.map (.idx i::·)).filterMap (dx i)=H:=by
 induction H <;> simp_all [dx]
theorem oc {i j:Nat} (h:j≠i) (H:List Path):(H.map (.idx i::·)).filterMap (dx j)=[]:=by
 simp_all [dx]
theorem gD (s:Step) (H:List Path):hole (H.map (s::·))=false:=by
 grind [hole]
theorem hY (H1 H2:List Path):hole (H1++H2)=(hole H1||hole H2):=by simp[hole]
theorem J9 {w:World}:∀ (q:Path) (t:Ty) {H H2:List Path} {cs:List Value} {ad:Option (Nat×Nat)} {pl wI:Pl},ay w q t H cs ad=some pl->ay w q t H2 cs ad=some wI->wI.t=pl.t/\wI.cs=pl.cs/\wI.ad=pl.ad:=by
 intro q
 induction q with
 | nil=>grind [ay]
 | cons s q ih=>
  intro t H H2 cs ad pl wI h Y
  cases t with
  | pair a b=>
   cases s <;> grind [ay]
  | af e=>
   cases s with
   | idx i=>
    simp only[ay] at h Y
    grind
   | _=>simp[ay] at h
  | arr n e=>
   cases s <;> grind [ay]
  | _=>grind [ay]
section
variable {P:Program}
theorem kV {w w2:World} {A:Cells} (hA:∀ b i,A b i->∀ u,ce w b i=some u->ce w2 b i=some u) :
  ∀ (q:Path) (t:Ty) {m:Md} {H:List Path} {v:t.den} {cs:List Value} {F:FP} {ad:Option (Nat×Nat)} {pl:Pl},ae P w A t m H v cs F->(∀ b i,1<=F b i->∀ u,ce w b i=some u->ce w2 b i=some u) ->
  ay w q t H cs ad=some pl->ay w2 q t H cs ad=some pl:=by
 intro q
 induction q with
 | nil=>intro t m H v cs F ad pl _ _ h;exact h
 | cons s q ih=>
  intro t m H v cs F ad pl hr hF h
  cases t with
  | pair a b=>
   obtain ⟨h0,F1,F2,hs,h1,Y⟩:=hr
   cases s <;> grind [ay]
  | af e=>
   cases s with
   | fst=>simp[ay] at h
   | snd=>simp[ay] at h
   | gm i=>simp[ay] at h
   | idx i=>
    simp only[ae] at hr
    simp only[ay] at h ⊢
    split at h
    ·cases h
    ·rename_i hh
     rw[if_neg hh]
     rw[if_neg hh] at hr
     split at hr
     ·obtain ⟨a,cap,rfl,Y,h3,h4,h5⟩:=hr
      cases a with
      | none=>cases h
      | some bJ=>
       obtain ⟨g1,g2,g3,Fi,g4,g5⟩:=h5 bJ rfl
       simp only at h ⊢
       split at h
       ·rename_i hi
        rw[if_pos hi]
        obtain ⟨L,hl,hL,cC⟩:=g5 i _ (List.getElem?_eq_getElem hi)
        have aH:(i+1)*e.sz<=cap*e.sz:=Nat.mul_le_mul_right _ (by omega)
        rw[Nat.add_mul] at aH
        have OD:Has w2 bJ.block (i*e.sz) L:=λj u hu=>by
         have hj:j < e.sz:=hl ▸ (List.getElem?_eq_some_iff.1 hu).1
         refine hF _ _ ?_ u (hL j u hu)
         grind [bm]
        rw[g1,Nat.zero_add,bq hL hl] at h
        grind [bq,aW]
       ·cases h
     ·obtain ⟨rfl,il,a,cap,rfl,Y,h3,h4⟩:=hr
      cases a with
      | none=>cases h
      | some bJ=>
       simp only at h ⊢
       split at h
       ·rename_i hi
        rw[if_pos hi]
        obtain ⟨L,hl,hL,cC⟩:=(h4 bJ rfl).2 i _ (List.getElem?_eq_getElem hi)
        rw[bq (λj u hu=>(hL j u hu).1) hl] at h
        rw[bq (λj u hu=>hA _ _ (hL j u hu).2 u (hL j u hu).1) hl]
        exact ih e (Ro.rep e (λ_ _=>0) il cC) (λb k hp=>by simp at hp) h
       ·cases h
  | arr n e=>
   cases s with
   | fst=>simp[ay] at h
   | snd=>simp[ay] at h
   | idx i=>simp[ay] at h
   | gm i=>
    obtain ⟨rfl,hf,hl,hlen,hr⟩:=hr
    simp only[ay,List.isEmpty_nil,if_true] at h ⊢
    split at h
    ·rename_i hi
     rw[if_pos hi]
     exact ih e (Ro.flat e (m:=.leaf) (λ_ _=>0) hf (hr i _ (List.getElem?_eq_getElem (by grind)))) (λb k hp=>by simp at hp) h
    ·cases h
  | _=>grind [ay]
theorem Dp {w:World} {A:Cells} {S:Nat->Nat->Prop} (hA:∀ b i,A b i->S b i) :
  ∀ (q:Path) (t:Ty) {m:Md} {H:List Path} {v:t.den} {cs:List Value} {F:FP} {ad:Option (Nat×Nat)} {pl:Pl},ae P w A t m H v cs F->(∀ b i,1<=F b i->S b i) ->
  (∀ b o,ad=some (b,o)->∀ j,j < t.sz->S b (o+j))->ay w q t H cs ad=some pl->∀ b o,pl.ad=some (b,o)->∀ j,j < pl.t.sz->S b (o+j):=by
 intro q
 induction q with
 | nil=>grind [ay]
 | cons s q ih=>
  intro t m H v cs F ad pl hr hF cR h
  cases t with
  | pair a b=>
   obtain ⟨h0,F1,F2,hs,h1,Y⟩:=hr
   cases s with
   | fst=>grind [ay,Ty.sz]
   | snd=>
    simp only[ay,h0,if_false] at h
    refine ih b Y (λb i hp=>hF b i (by grind)) (λb' o e j hj=>?_) h
    cases ad with
    | none=>cases e
    | some y=>
     simp only[bR,Option.map_some,Option.some.injEq,Prod.mk.injEq] at e
     obtain ⟨rfl,rfl⟩:=e
     grind [Ty.sz]
   | idx i=>simp[ay] at h
   | gm i=>simp[ay] at h
  | af e=>
   cases s with
   | fst=>simp[ay] at h
   | snd=>simp[ay] at h
   | gm i=>simp[ay] at h
   | idx i=>
    simp only[ae] at hr
    simp only[ay] at h
    split at h
    ·cases h
    ·rename_i hh
     rw[if_neg hh] at hr
     split at hr
     ·obtain ⟨a,cap,rfl,Y,h3,h4,h5⟩:=hr
      cases a with
      | none=>cases h
      | some bJ=>
       obtain ⟨g1,g2,g3,Fi,g4,g5⟩:=h5 bJ rfl
       simp only at h
       split at h
       ·rename_i hi
        obtain ⟨L,hl,hL,cC⟩:=g5 i _ (List.getElem?_eq_getElem hi)
        have aH:(i+1)*e.sz<=cap*e.sz:=Nat.mul_le_mul_right _ (by omega)
        rw[Nat.add_mul] at aH
        rw[g1,Nat.zero_add,bq hL hl] at h
        grind [aW,bm]
       ·cases h
     ·obtain ⟨rfl,il,a,cap,rfl,Y,h3,h4⟩:=hr
      cases a with
      | none=>cases h
      | some bJ=>
       simp only at h
       split at h
       ·rename_i hi
        obtain ⟨L,hl,hL,cC⟩:=(h4 bJ rfl).2 i _ (List.getElem?_eq_getElem hi)
        rw[bq (λj u hu=>(hL j u hu).1) hl] at h
        refine ih e (Ro.rep e (λ_ _=>0) il cC) (λb k hp=>by simp at hp) (λb' o e' j hj=>?_) h
        simp only[Option.some.injEq,Prod.mk.injEq] at e'
        obtain ⟨rfl,rfl⟩:=e'
        exact hA _ _ (hL j _ (List.getElem?_eq_getElem (by omega))).2
       ·cases h
  | arr n e=>
   cases s with
   | fst=>simp[ay] at h
   | snd=>simp[ay] at h
   | idx i=>simp[ay] at h
   | gm i=>
    obtain ⟨rfl,hf,hl,hlen,hr⟩:=hr
    simp only[ay,List.isEmpty_nil,if_true] at h
    split at h
    ·rename_i hi
     refine ih e (Ro.flat e (m:=.leaf) (λ_ _=>0) hf (hr i _ (List.getElem?_eq_getElem (by grind)))) (λb k hp=>by simp at hp) (λb' o e' j hj=>?_) h
     cases ad with
     | none=>cases e'
     | some y=>
      simp only[bR,Option.map_some,Option.some.injEq,Prod.mk.injEq] at e'
      obtain ⟨rfl,rfl⟩:=e'
      have aH:(i+1)*e.sz<=n*e.sz:=Nat.mul_le_mul_right _ hi
      rw[Nat.add_mul] at aH
      have:=cR y.1 y.2 rfl (i*e.sz+j) (by grind [Ty.sz])
      rwa [Nat.add_assoc]
    ·cases h
  | _=>grind [ay]
theorem A4 {w:World} {A:Cells} :
  ∀ (q:Path) (t:Ty) {m:Md} {H:List Path} {v:t.den} {cs:List Value} {F:FP} {ad:Option (Nat×Nat)} {pl:Pl},ae P w A t m H v cs F ->
  (∀ b o,ad=some (b,o)->Has w b o cs)->ay w q t H cs ad=some pl->(∀ b o,pl.ad=some (b,o)->Has w b o pl.cs)/\∃ (m':Md) (v':pl.t.den) (F':FP),ae P w A pl.t m' pl.H v' pl.cs F':=by
 intro q
 induction q with
 | nil=>grind [ay]
 | cons s q ih=>
  intro t m H v cs F ad pl hr cR h
  cases t with
  | pair a b=>
   obtain ⟨h0,F1,F2,hs,h1,Y⟩:=hr
   cases s with
   | fst=>
    simp only[ay,h0,if_false] at h
    exact ih a h1 (λb' o e j u hu=>cR b' o e j u (by grind)) h
   | snd=>
    simp only[ay,h0,if_false] at h
    refine ih b Y (λb' o e j u hu=>?_) h
    cases ad with
    | none=>cases e
    | some y=>
     simp only[bR,Option.map_some,Option.some.injEq,Prod.mk.injEq] at e
     obtain ⟨rfl,rfl⟩:=e
     rw[List.getElem?_drop] at hu
     have:=cR y.1 y.2 rfl (a.sz+j) u hu
     rwa [Nat.add_assoc]
   | idx i=>simp[ay] at h
   | gm i=>simp[ay] at h
  | af e=>
   cases s with
   | fst=>simp[ay] at h
   | snd=>simp[ay] at h
   | gm i=>simp[ay] at h
   | idx i=>
    simp only[ae] at hr
    simp only[ay] at h
    split at h
    ·cases h
    ·rename_i hh
     rw[if_neg hh] at hr
     split at hr
     ·obtain ⟨a,cap,rfl,Y,h3,h4,h5⟩:=hr
      cases a with
      | none=>cases h
      | some bJ=>
       obtain ⟨g1,g2,g3,Fi,g4,g5⟩:=h5 bJ rfl
       simp only at h
       split at h
       ·rename_i hi
        obtain ⟨L,hl,hL,cC⟩:=g5 i _ (List.getElem?_eq_getElem hi)
        grind [bq]
       ·cases h
     ·obtain ⟨rfl,il,a,cap,rfl,Y,h3,h4⟩:=hr
      cases a with
      | none=>cases h
      | some bJ=>
       simp only at h
       split at h
       ·rename_i hi
        obtain ⟨L,hl,hL,cC⟩:=(h4 bJ rfl).2 i _ (List.getElem?_eq_getElem hi)
        rw[bq (λj u hu=>(hL j u hu).1) hl] at h
        refine ih e (Ro.rep e (λ_ _=>0) il cC) (λb' o e'=>?_) h
        simp only[Option.some.injEq,Prod.mk.injEq] at e'
        obtain ⟨rfl,rfl⟩:=e'
        exact λj u hu=>(hL j u hu).1
       ·cases h
  | arr n e=>
   cases s with
   | fst=>simp[ay] at h
   | snd=>simp[ay] at h
   | idx i=>simp[ay] at h
   | gm i=>
    obtain ⟨rfl,hf,hl,hlen,hr⟩:=hr
    simp only[ay,List.isEmpty_nil,if_true] at h
    split at h
    ·rename_i hi
     refine ih e (Ro.flat e (m:=.leaf) (λ_ _=>0) hf (hr i _ (List.getElem?_eq_getElem (by grind)))) (λb' o e' j u hu=>?_) h
     cases ad with
     | none=>cases e'
     | some y=>
      simp only[bR,Option.map_some,Option.some.injEq,Prod.mk.injEq] at e'
      obtain ⟨rfl,rfl⟩:=e'
      rw[List.getElem?_take] at hu
      split at hu
      ·rw[List.getElem?_drop] at hu
       have:=cR y.1 y.2 rfl (i*e.sz+j) u hu
       rwa [Nat.add_assoc]
      ·cases hu
    ·cases h
  | _=>grind [ay]
theorem o7 {w w2:World} {A A2:Cells} :
  ∀ (q:Path) (t:Ty) {m m2:Md} {H H2:List Path} {v v2:t.den} {cs a_:List Value} {F F2:FP} {ad:Option (Nat×Nat)} {pl:Pl},
  ae P w2 A2 t m2 H2 v2 a_ F2->(bc q=0\/t.flat=true) ->
  ay w q t H cs ad=some pl->∃ H' aC,ay w2 q t H2 a_ ad=some ⟨pl.t,H',aC,pl.ad⟩/\(t.flat=true->lr pl.t=false):=by
 intro q
 induction q with
 | nil=>
  intro t m m2 H H2 v v2 cs a_ F F2 ad pl hr hq h
  simp only[ay,Option.some.injEq] at h
  subst h
  exact ⟨_,_,rfl,λhf=>by cases t <;> simp_all [Ty.flat,lr]⟩
 | cons s q ih=>
  intro t m m2 H H2 v v2 cs a_ F F2 ad pl hr hq h
  cases t with
  | pair a b=>
   obtain ⟨h0,F1,F2,hs,h1,Y⟩:=hr
   simp only[Ty.flat,Bool.and_eq_true] at hq ⊢
   cases s with
   | fst=>
    simp only[ay,h0,if_false] at h ⊢
    split at h
    ·cases h
    ·obtain ⟨H',aC,h3,h4⟩:=ih a (v:=v.1) (m:=.leaf) (F:=F) h1 (hq.imp (λh=>by simpa [bc] using h) (·.1)) h
     grind
   | snd=>
    simp only[ay,h0,if_false] at h ⊢
    split at h
    ·cases h
    ·obtain ⟨H',aC,h3,h4⟩:=ih b (v:=v.2) (m:=.leaf) (F:=F) Y (hq.imp (λh=>by simpa [bc] using h) (·.2)) h
     grind
   | idx i=>simp[ay] at h
   | gm i=>simp[ay] at h
  | af e=>
   cases s <;> grind [ay,bc,Ty.flat]
  | arr n e=>
   cases s with
   | fst=>simp[ay] at h
   | snd=>simp[ay] at h
   | idx i=>simp[ay] at h
   | gm i=>
    obtain ⟨rfl,hf,hl,hlen,hr⟩:=hr
    simp only[ay,List.isEmpty_nil,if_true] at h ⊢
    split at h
    ·split at h
     ·rename_i hi
      rw[if_pos hi]
      obtain ⟨H',aC,h3,h4⟩:=ih e (v:=e.zero) (m:=.leaf) (F:=F) (Ro.flat e (m:=.leaf) (λ_ _=>0) hf (hr i _ (List.getElem?_eq_getElem (by grind)))) (.inr hf) h
      grind
     ·cases h
    ·cases h
  | _=>grind [ay]
theorem gS.zero {w w2:World} {A A2:Cells} {t:Ty} {m2:Md} {H H2:List Path} {v2:t.den} {cs a_:List Value} {F2:FP} (ad:Option (Nat×Nat)) (h:ae P w2 A2 t m2 H2 v2 a_ F2):gS 0 False w t H cs ad w2 H2 a_:=by
 intro q pl hq hp
 obtain ⟨H',aC,h1,_⟩:=o7 (A:=A) (m:=m2) (v:=v2) (F:=F2) q t h (.inl (by omega)) hp
 grind
theorem gS.flat {w w2:World} {A A2:Cells} {t:Ty} {m2:Md} {H H2:List Path} {v2:t.den} {cs a_:List Value} {F2:FP} (ad:Option (Nat×Nat)) (h:ae P w2 A2 t m2 H2 v2 a_ F2) (hf:t.flat=true) (d:Nat):gS d False w t H cs ad w2 H2 a_:=by
 intro q pl hq hp
 obtain ⟨H',aC,h1,Y⟩:=o7 (A:=A) (m:=m2) (v:=v2) (F:=F2) q t h (.inr hf) hp
 grind
theorem gS.same {w w2:World} {A:Cells} {t:Ty} {m:Md} {H:List Path} {v:t.den} {cs:List Value} {F:FP} (ad:Option (Nat×Nat)) (h:ae P w A t m H v cs F)
  (hA:∀ b i,A b i->∀ u,ce w b i=some u->ce w2 b i=some u) (hF:∀ b i,1<=F b i->∀ u,ce w b i=some u->ce w2 b i=some u) (d:Nat) (full:Prop):gS d full w t H cs ad w2 H cs:=by
 intro q pl hq hp
 exact ⟨pl.H,pl.cs,kV hA q t h hF hp,λ_=>rfl⟩
end
end OT
set_option linter.unusedVariables false
set_option linter.unusedSimpArgs false
namespace OT
open Go
def of (cs:List Value) (off:Nat) (n:Nat) (c2:List Value):List Value:=cs.take off++c2++cs.drop (off+n)
def dn (loc:Option Nat) (cs:List Value) (n:Nat) (c2:List Value):List Value:=match loc with
 | some off=>of cs off n c2
 | none=>cs
theorem jT {cs c2:List Value} {off n:Nat} (h:off+n<=cs.length) (Y:c2.length=n):(of cs off n c2).length=cs.length:=by
 simp[of];omega
theorem og {cs:List Value} {off n:Nat} (h:off+n<=cs.length):of cs off n ((cs.drop off).take n)=cs:=by
 unfold of
 rw[List.append_assoc]
 have:(cs.drop off).take n++cs.drop (off+n)=cs.drop off:=by
  rw[<-List.drop_drop];exact List.take_append_drop n (cs.drop off)
 rw[this];exact List.take_append_drop off cs
theorem pT {cs c2:List Value} {off n:Nat} (h:off+n<=cs.length) (Y:c2.length=n) (j:Nat):(of cs off n c2)[j]?=if off<=j/\j < off+n then c2[j - off]? else cs[j]?:=by
 unfold of
 rw[List.getElem?_append,List.getElem?_append]
 simp only[List.length_append,List.length_take]
 have h1:min off cs.length=off:=by omega
 rw[h1,Y]
 split
 ·split
  ·rw[if_neg (by omega),List.getElem?_take,if_pos (by omega)]
  ·rw[if_pos (by omega)]
 ·rw[if_neg (by omega),List.getElem?_drop]
  congr 1;omega
theorem HE {cs c2:List Value} {k n' off n:Nat} (h:off+n<=n') (h':k+n'<=cs.length) (Y:c2.length=n) :
  of cs k n' (of ((cs.drop k).take n') off n c2)=of cs (k+off) n c2:=by
 have hl:((cs.drop k).take n').length=n':=by simp;omega
 apply List.ext_getElem?
 intro j
 rw[pT h' (by rw[jT (by omega) Y,hl]),pT (by omega) Y,pT (by omega) Y]
 by_cases h3:k<=j/\j < k+n'
 ·rw[if_pos h3]
  by_cases h4:off<=j - k/\j - k < off+n
  ·rw[if_pos h4,if_pos (by omega)];congr 1;omega
  ·rw[if_neg h4,if_neg (by omega),List.getElem?_take,if_pos (by omega),List.getElem?_drop];congr 1;omega
 ·rw[if_neg h3,if_neg (by omega)]
theorem A5 {w2:World} {b o:Nat} {cs c2:List Value} {off n:Nat} (h:off+n<=cs.length) (Y:c2.length=n)
  (hc:Has w2 b (o+off) c2) (hk:∀ j u,cs[j]?=some u->¬ (off<=j/\j < off+n)->ce w2 b (o+j)=some u):Has w2 b o (of cs off n c2):=by
 intro j u hu
 rw[pT h Y] at hu
 split at hu
 ·have:=hc _ u hu
  rw[show o+off+(j - off)=o+j by omega] at this
  exact this
 ·exact hk j u hu (by assumption)
section
variable {P:Program} {R:Type}
theorem It {w:World} {A:Cells} {r:R}:∀ (p:Path) (t:Ty) {m:Md} {H:List Path} {v:t.den} {cs:List Value} {F:FP} {ad:Option (Nat×Nat)} {K:(t':Ty)->Md->List Path->t'.den->Option R},
  eU p t m H v K=some r->ae P w A t m H v cs F->(∀ b o,ad=some (b,o)->Has w b o cs) ->
  ∃ (t':Ty) (m':Md) (H':List Path) (v':t'.den) (aC:List Value) (aS:Option (Nat×Nat)) (F':FP),K t' m' H' v'=some r/\(∀ {S:Type} (K0:(t:Ty)->Md->List Path->t.den->Option S),eU p t m H v K0=K0 t' m' H' v')/\ay w p t H cs ad=some ⟨t',H',aC,aS⟩/\ae P w A t' m' H' v' aC F' /\
   (∀ b i,F' b i<=F b i)/\(∀ b o,aS=some (b,o)->Has w b o aC)/\(ad.isSome=true->aS.isSome=true):=by
 intro p
 induction p with
 | nil=>intro t m H v cs F ad K h hr cR;exact ⟨t,m,H,v,cs,ad,F,h,λ_=>rfl,rfl,hr,λ_ _=>Nat.le_refl _,cR,λh=>h⟩
 | cons s p ih=>
  intro t m H v cs F ad K h hr cR
  cases t with
  | pair a b=>
   obtain ⟨h0,F1,F2,hs,h1,Y⟩:=hr
   have hle:=ae.length a h1
   have yI:=ae.length b Y
   simp only[List.length_take,List.length_drop] at hle yI
   cases s with
   | fst=>
    have ta:H.any (·.isEmpty)=false:=h0
    simp only[eU,ta] at h
    obtain ⟨t',m',H',v',aC,aS,F',k1,kn,k2,k3,k4,k5,k6⟩:=ih a h h1 (ad:=ad) (λb o hb j u hu=>by
     rw[List.getElem?_take] at hu;split at hu;exact cR b o hb j u hu;cases hu)
    exact ⟨t',m',H',v',aC,aS,F',k1,λK0=>by simp only[eU,ta];exact kn K0,by simp only[ay,h0];exact k2,k3,λb i=>by have:=hs b i;have:=k4 b i;omega,k5,k6⟩
   | snd=>
    have ta:H.any (·.isEmpty)=false:=h0
    simp only[eU,ta] at h
    obtain ⟨t',m',H',v',aC,aS,F',k1,kn,k2,k3,k4,k5,k6⟩:=ih b h Y (ad:=bR ad a.sz) (λb' o hb j u hu=>by
     cases ad with
     | none=>cases hb
     | some x=>
      simp only[bR,Option.map_some,Option.some.injEq,Prod.mk.injEq] at hb
      obtain ⟨rfl,rfl⟩:=hb
      rw[List.getElem?_drop] at hu
      have:=cR x.1 x.2 rfl _ u hu
      rwa [Nat.add_assoc])
    exact ⟨t',m',H',v',aC,aS,F',k1,λK0=>by simp only[eU,ta];exact kn K0,by simp only[ay,h0];exact k2,k3,λb i=>by have:=hs b i;have:=k4 b i;omega,k5,λh=>k6 (by cases ad <;> simp_all [bR])⟩
   | idx i=>simp[eU] at h
   | gm i=>simp[eU] at h
  | af e=>
   cases s with
   | fst=>simp[eU] at h
   | snd=>simp[eU] at h
   | gm i=>simp[eU] at h
   | idx i=>
    simp only[eU] at h
    obtain ⟨h1,Y,h3⟩:=rI h
    cases hx:(v:List e.den)[i]? with
    | none=>rw[hx] at h1;cases h1
    | some x=>
     rw[hx] at h1
     simp only[Option.bind_some] at h1
     have hi:i < List.length v:=(List.getElem?_eq_some_iff.1 hx).1
     simp only[ae,h3,Bool.false_eq_true,if_false] at hr
     split at hr
     ·obtain ⟨a,cap,rfl,g2,g3,g4,g5⟩:=hr
      cases a with
      | none=>have:=g4 rfl;omega
      | some bJ=>
       obtain ⟨q1,q2,q3,Fi,q4,q5⟩:=g5 bJ rfl
       obtain ⟨L,hl,hL,cC⟩:=q5 i x hx
       obtain ⟨t',m',H',v',aC,aS,F',k1,kn,k2,k3,k4,k5,k6⟩:=ih e h1 cC (ad:=some (bJ.block,i*e.sz)) (λb o hb=>by
        simp only[Option.some.injEq,Prod.mk.injEq] at hb;obtain ⟨rfl,rfl⟩:=hb;exact hL)
       refine ⟨t',m',H',v',aC,aS,F',k1,λK0=>by simp only[eU];rw[qq h,hx];exact kn K0,?_,k3,λb k=>?_,k5,λ_=>k6 rfl⟩
       ·simp only[ay,h3,Bool.false_eq_true,if_false,hi,if_true,q1,Nat.zero_add,bq hL hl];exact k2
       ·have:=k4 b k;have:=q4 b k;have:=aW Fi hi b k;omega
     ·obtain ⟨rfl,il,a,cap,rfl,g2,g3,g4⟩:=hr
      cases a with
      | none=>have:=g3 rfl;omega
      | some bJ=>
       obtain ⟨L,hl,hL,cC⟩:=(g4 bJ rfl).2 i x hx
       have A6:Has w bJ.block (bJ.off+i*e.sz) L:=λj u hu=>(hL j u hu).1
       obtain ⟨t',m',H',v',aC,aS,F',k1,kn,k2,k3,k4,k5,k6⟩:=ih e h1 (Ro.rep e (λ_ _=>0) il cC) (ad:=some (bJ.block,bJ.off+i*e.sz)) (λb o hb=>by
        simp only[Option.some.injEq,Prod.mk.injEq] at hb;obtain ⟨rfl,rfl⟩:=hb;exact A6)
       refine ⟨t',m',H',v',aC,aS,F',k1,λK0=>by simp only[eU];rw[qq h,hx];exact kn K0,?_,k3,λb k=>?_,k5,λ_=>k6 rfl⟩
       ·simp only[ay,h3,Bool.false_eq_true,if_false,hi,if_true,bq A6 hl];exact k2
       ·have:=k4 b k;omega
  | arr n e=>
   cases s with
   | fst=>simp[eU] at h
   | snd=>simp[eU] at h
   | idx i=>simp[eU] at h
   | gm i=>
    obtain ⟨rfl,hf,hl,hlen,hr⟩:=hr
    simp only[eU,List.isEmpty_nil,if_true] at h
    cases hx:(v:List e.den)[i]? with
    | none=>rw[hx] at h;cases h
    | some x=>
     rw[hx] at h
     simp only[Option.bind_some] at h
     have hi:i < n:=hl ▸ (List.getElem?_eq_some_iff.1 hx).1
     obtain ⟨t',m',H',v',aC,aS,F',k1,kn,k2,k3,k4,k5,k6⟩:=ih e h (Ro.flat e (λ_ _=>0) hf (hr i x hx)) (ad:=bR ad (i*e.sz)) (λb' o hb j u hu=>by
      cases ad with
      | none=>cases hb
      | some y=>
       simp only[bR,Option.map_some,Option.some.injEq,Prod.mk.injEq] at hb
       obtain ⟨rfl,rfl⟩:=hb
       rw[List.getElem?_take] at hu
       split at hu
       ·rw[List.getElem?_drop] at hu
        have:=cR y.1 y.2 rfl _ u hu
        rwa [Nat.add_assoc]
       ·cases hu)
     exact ⟨t',m',H',v',aC,aS,F',k1,λK0=>by simp only[eU,List.isEmpty_nil,if_true,hx,Option.bind_some];exact kn K0,by simp only[ay,List.isEmpty_nil,if_true,hi];exact k2,k3,λb k=>by have:=k4 b k;omega,k5,λh=>k6 (by cases ad <;> simp_all [bR])⟩
  | _=>cases s <;> simp[eU] at h
structure J_ (P:Program) (w:World) (A:Cells) {R:Type} (r:R) (p:Path) (t:Ty) (m:Md) (H:List Path) (v:t.den) (cs:List Value) (F:FP) (ad:Option (Nat×Nat))
  (f:(t':Ty)->Md->List Path->t'.den->(Md->List Path->t'.den->Option R)->Option R) (K:Md->List Path->t.den->Option R)
  (t':Ty) (m':Md) (H':List Path) (v':t'.den) (aC:List Value) (aS:Option (Nat×Nat)) (F' G:FP) (kk:Md->List Path->t'.den->Option R) (loc:Option Nat):Prop where
 run:f t' m' H' v' kk=some r
 Dq:∀ {S:Type} (K0:(t':Ty)->Md->List Path->t'.den->Option S),eU p t m H v K0=K0 t' m' H' v'
 place:ay w p t H cs ad=some ⟨t',H',aC,aS⟩
 rep:ae P w A t' m' H' v' aC F'
 sum:∀ b i,F' b i+G b i<=F b i
 has:∀ b o,aS=some (b,o)->Has w b o aC
 ji:∀ off,loc=some off->off+t'.sz<=t.sz/\aC=(cs.drop off).take t'.sz/\aS=bR ad off
 B4:1<=bc p->loc=none
 out:loc=none->∃ b o,aS=some (b,o)/\∀ j,j < t'.sz->1<=G b (o+j)/\w.frozen? ⟨b,o+j,none⟩=false
 back:∀ m2 H2 (v2:t'.den),kk m2 H2 v2=some r->∀ (w2:World) (A2:Cells) (a_:List Value) (F2:FP),
  (∀ b n,cf w b n->cf w2 b n)->(∀ b i,A b i->A2 b i)->(∀ b i,A b i->∀ u,ce w b i=some u->ce w2 b i=some u) ->
  (∀ b i,1<=G b i->(∀ o,aS=some (b,o)->¬ (o<=i/\i < o+t'.sz))->∀ u,ce w b i=some u->ce w2 b i=some u) ->
  (∀ b o,aS=some (b,o)->Has w2 b o a_)->ae P w2 A2 t' m2 H2 v2 a_ F2->(∀ b i,F2 b i+G b i<=1) ->
  ∃ m3 H3 v3 F3,K m3 H3 v3=some r/\(∀ b i,F3 b i<=F2 b i+G b i) /\
   (∀ A3:Cells,(∀ b i,A2 b i->A3 b i)->(∀ b i,1<=F2 b i+G b i->F3 b i=0->A3 b i)->ae P w2 A3 t m3 H3 v3 (dn loc cs t'.sz a_) F3) /\
   (∀ d full,gS d full w t' H' aC aS w2 H2 a_->gS (d+bc p) full w t H cs ad w2 H3 (dn loc cs t'.sz a_))
theorem cf.frozen {w:World} {b:Nat} {n:Nat×Bool} (h:cf w b n) {i:Nat} (hi:i < n.1):w.frozen? ⟨b,i,none⟩=false:=by
 obtain ⟨c,e,fr,h1,Y,h3,_⟩:=h
 obtain ⟨lo,jj⟩:=fr
 have:=h3 i hi
 simp only[World.frozen?,h1]
 simp only[Bool.and_eq_false_iff,decide_eq_false_iff_not]
 simp only at this
 omega
theorem Iu {w:World} {A:Cells} {r:R}:∀ (p:Path) (t:Ty) {m:Md} {H:List Path} {v:t.den} {cs:List Value} {F:FP} {ad:Option (Nat×Nat)}
  {f:(t':Ty)->Md->List Path->t'.den->(Md->List Path->t'.den->Option R)->Option R} {K:Md->List Path->t.den->Option R},
  gC p t m H v f K=some r->ae P w A t m H v cs F->(∀ b i,F b i<=1)->(∀ b o,ad=some (b,o)->Has w b o cs)->(∀ b o,ad=some (b,o)->∀ j,j < t.sz->F b (o+j)=0) ->
  ∃ t' m' H' v' aC aS F' G kk loc,J_ P w A r p t m H v cs F ad f K t' m' H' v' aC aS F' G kk loc:=by
 intro p
 induction p with
 | nil=>
  intro t m H v cs F ad f K h hr hF cR tP
  have hlen:=ae.length t hr
  refine ⟨t,m,H,v,cs,ad,F,λ_ _=>0,K,some 0,h,λ_=>rfl,rfl,hr,λ_ _=>by simp,cR,?_,(λh=>by simp[bc] at h),(λh=>by cases h),?_⟩
  ·intro off ho
   injection ho with ho;subst ho
   refine ⟨by omega,?_,?_⟩
   ·rw[List.drop_zero,<- hlen,List.take_length]
   ·cases ad <;> simp[bR]
  ·intro m2 H2 v2 hk w2 A2 a_ F2 hb hA iC hG qs mM hs
   have mN:=ae.length t mM
   have LT:dn (some 0) cs t.sz a_=a_:=by
    simp[dn,of,List.drop_eq_nil_of_le (show cs.length<=t.sz by omega)]
   rw[LT]
   refine ⟨m2,H2,v2,F2,hk,λ_ _=>by simp,λA3 gE _=>ae.mono gE (λ_ _ _ _ h=>h) (λ_ _ h=>h) t mM (λ_ _=>Nat.le_refl _) (λ_ _ _ _ h=>h),λd full hd=>hd⟩
 | cons s p ih=>
  intro t m H v cs F ad f K h hr hF cR tP
  cases t with
  | pair a b=>
   obtain ⟨h0,F1,F2,hs,h1,Y⟩:=hr
   have hle:=ae.length a h1
   have yI:=ae.length b Y
   simp only[List.length_take,List.length_drop] at hle yI
   have ta:H.any (·.isEmpty)=false:=h0
   have Ka:∀ b o,ad=some (b,o)->Has w b o (cs.take a.sz):=λb o hb j u hu=>by
    rw[List.getElem?_take] at hu;split at hu;exact cR b o hb j u hu;cases hu
   have Kb:∀ b' o,bR ad a.sz=some (b',o)->Has w b' o (cs.drop a.sz):=λb' o hb j u hu=>by
    cases ad with
    | none=>cases hb
    | some x=>
     simp only[bR,Option.map_some,Option.some.injEq,Prod.mk.injEq] at hb
     obtain ⟨rfl,rfl⟩:=hb
     rw[List.getElem?_drop] at hu
     have:=cR x.1 x.2 rfl _ u hu
     rwa [Nat.add_assoc]
   cases s with
   | fst=>
    simp only[gC,ta] at h
    obtain ⟨t',m',H',v',aC,aS,F',G,kk,loc,M⟩:=ih a h h1 (λb i=>by have:=hs b i;have:=hF b i;omega) Ka (λb' o hb j hj=>by
     have:=tP b' o hb j (by simp only[Ty.sz];omega);have:=hs b' (o+j);omega)
    refine ⟨t',m',H',v',aC,aS,F',λb i=>G b i+F2 b i,kk,loc,M.run,λK0=>by simp only[eU,ta];exact M.Dq K0,by simp only[ay,h0];exact M.place,M.rep,λb i=>by have:=hs b i;have:=M.sum b i;omega,M.has,?_,(λh=>M.B4 (by simpa [bc] using h)),?_,?_⟩
    ·intro off ho
     obtain ⟨q1,q2,q3⟩:=M.ji off ho
     refine ⟨by simp only[Ty.sz];omega,?_,q3⟩
     rw[q2,List.drop_take,List.take_take]
     congr 1;omega
    ·intro ho
     obtain ⟨b',o,q1,q2⟩:=M.out ho
     exact ⟨b',o,q1,λj hj=>⟨by have:=(q2 j hj).1;omega,(q2 j hj).2⟩⟩
    ·intro m2 H2 v2 hk w2 A2 a_ wJ hb hA iC hG qs mM fV
     obtain ⟨m3,H3,v3,F3,k1,k2,k3,k4⟩:=M.back m2 H2 v2 hk w2 A2 a_ wJ hb hA iC (λb' i hp hn=>hG b' i (by omega) hn) qs mM (λb' i=>by have:=fV b' i;omega)
     have mN:=ae.length t' mM
     have fl:dn loc cs t'.sz a_=dn loc (cs.take a.sz) t'.sz a_++cs.drop a.sz:=by
      cases loc with
      | none=>simp[dn]
      | some off=>
       have:=(M.ji off rfl).1
       simp only[dn,of]
       rw[List.take_take,show min off a.sz=off by omega,List.append_assoc,List.append_assoc,List.append_assoc]
       congr 2
       rw[List.drop_take]
       have e:cs.drop a.sz=(cs.drop (off+t'.sz)).drop (a.sz - (off+t'.sz)):=by rw[List.drop_drop];congr 1;omega
       rw[e,List.take_append_drop]
     have rp:(dn loc (cs.take a.sz) t'.sz a_).length=a.sz:=by
      cases loc with
      | none=>simp[dn];omega
      | some off=>have:=(M.ji off rfl).1;simp only[dn];rw[jT (by simp;omega) mN];simp;omega
     have nr:∀ d full,gS d full w t' H' aC aS w2 H2 a_->full->dn loc cs t'.sz a_=cs:=λd full hd ls=>by
      obtain ⟨H5,c5,e1,e2⟩:=hd [] ⟨t',H',aC,aS⟩ (Nat.zero_le _) rfl
      simp only[ay,Option.some.injEq,Pl.mk.injEq] at e1
      have e3:a_=aC:=e1.2.2.1.trans (e2 (.inr ls))
      cases loc with
      | none=>rfl
      | some off=>
       have:=M.ji off rfl
       rw[e3,this.2.1,List.drop_take,List.take_take,show min t'.sz (a.sz - off)=t'.sz by omega]
       exact og (by omega)
     have gO:(dn loc cs t'.sz a_).take a.sz=dn loc (cs.take a.sz) t'.sz a_:=by rw[fl];exact List.take_left' rp
     have uK:(dn loc cs t'.sz a_).drop a.sz=cs.drop a.sz:=by rw[fl];exact List.drop_left' rp
     have wK:∀ b' i,1<=F2 b' i->∀ u,ce w b' i=some u->ce w2 b' i=some u:=λb' i hp u hu=>by
      refine hG b' i (by omega) (λo dq oh=>?_) u hu
      have My:=hs b' i;have Mz:=hF b' i
      cases loc with
      | none=>
       obtain ⟨b0,o0,q1,q2⟩:=M.out rfl
       rw[q1] at dq
       simp only[Option.some.injEq,Prod.mk.injEq] at dq
       obtain ⟨rfl,rfl⟩:=dq
       have:=(q2 (i - o0) (by omega)).1
       rw[show o0+(i - o0)=i by omega] at this
       have:=M.sum b0 i
       omega
      | some off=>
       obtain ⟨q1,q2,q3⟩:=M.ji off rfl
       cases ad with
       | none=>rw[q3] at dq;cases dq
       | some x=>
        rw[q3] at dq
        simp only[bR,Option.map_some,Option.some.injEq,Prod.mk.injEq] at dq
        obtain ⟨rfl,rfl⟩:=dq
        have:=tP x.1 x.2 rfl (i - x.2) (by simp only[Ty.sz];omega)
        rw[show x.2+(i - x.2)=i by omega] at this
        omega
     refine ⟨_,_,_,λb' i=>F3 b' i+F2 b' i,k1,λb' i=>by have:=k2 b' i;show F3 b' i+F2 b' i<=_;omega,λA3 gE gn=>?_,λd full hd=>?_⟩
     ·refine ⟨by rw[hY,gD,gD];rfl,F3,F2,λ_ _=>Nat.le_refl _,?_,?_⟩
      ·rw[gO,List.filterMap_append,jg,jz,List.append_nil]
       refine k3 A3 gE λb' i hp hz=>gn b' i (by omega) ?_
       have:=fV b' i
       show F3 b' i+F2 b' i=0;omega
      ·rw[uK,List.filterMap_append,jA,jh,List.nil_append]
       exact ae.mono (λb' i ha=>gE b' i (hA b' i ha)) iC hb b Y (λ_ _=>Nat.le_refl _) wK
     ·intro q pl hq hp
      cases q with
      | nil=>
       simp only[ay,Option.some.injEq] at hp;subst hp
       refine ⟨_,_,rfl,λh=>?_⟩
       rcases h with ⟨_,hs⟩ | ls
       ·simp[lr] at hs
       ·exact nr d full hd ls
      | cons s q=>
       cases s with
       | fst=>
        simp only[ay,h0,Bool.false_eq_true,if_false] at hp
        obtain ⟨H4,Gm,e1,e2⟩:=k4 d full hd q pl (by simpa [bc] using hq) hp
        refine ⟨H4,Gm,?_,λiD=>e2 (by simpa [bc] using iD)⟩
        simp only[ay,hY,gD,Bool.or_self,Bool.false_eq_true,if_false]
        rw[gO,List.filterMap_append,jg,jz,List.append_nil]
        exact e1
       | snd=>
        simp only[ay,h0,Bool.false_eq_true,if_false] at hp
        refine ⟨pl.H,pl.cs,?_,λ_=>rfl⟩
        simp only[ay,hY,gD,Bool.or_self,Bool.false_eq_true,if_false]
        rw[uK,List.filterMap_append,jA,jh,List.nil_append]
        exact kV iC q b Y wK hp
       | idx i=>simp[ay] at hp
       | gm i=>simp[ay] at hp
   | snd=>
    simp only[gC,ta] at h
    obtain ⟨t',m',H',v',aC,aS,F',G,kk,loc,M⟩:=ih b h Y (λb i=>by have:=hs b i;have:=hF b i;omega) Kb (λb' o hb j hj=>by
     cases ad with
     | none=>cases hb
     | some x=>
      simp only[bR,Option.map_some,Option.some.injEq,Prod.mk.injEq] at hb
      obtain ⟨rfl,rfl⟩:=hb
      have:=tP x.1 x.2 rfl (a.sz+j) (by simp only[Ty.sz];omega);have:=hs x.1 (x.2+(a.sz+j))
      rw[Nat.add_assoc];omega)
    refine ⟨t',m',H',v',aC,aS,F',λb i=>G b i+F1 b i,kk,loc.map (a.sz+·),M.run,λK0=>by simp only[eU,ta];exact M.Dq K0,by simp only[ay,h0];exact M.place,M.rep,λb i=>by have:=hs b i;have:=M.sum b i;omega,M.has,?_,(λh=>by rw[M.B4 (by simpa [bc] using h)];rfl),?_,?_⟩
    ·intro Iv ho
     obtain ⟨off,Iw,rfl⟩:=Option.map_eq_some_iff.1 ho
     obtain ⟨q1,q2,q3⟩:=M.ji off Iw
     refine ⟨by simp only[Ty.sz];omega,by rw[q2,List.drop_drop],?_⟩
     rw[q3];cases ad <;> simp[bR,Nat.add_assoc]
    ·intro ho
     obtain ⟨b',o,q1,q2⟩:=M.out (by simpa using ho)
     exact ⟨b',o,q1,λj hj=>⟨by have:=(q2 j hj).1;omega,(q2 j hj).2⟩⟩
    ·intro m2 H2 v2 hk w2 A2 a_ wJ hb hA iC hG qs mM fV
     obtain ⟨m3,H3,v3,F3,k1,k2,k3,k4⟩:=M.back m2 H2 v2 hk w2 A2 a_ wJ hb hA iC (λb' i hp hn=>hG b' i (by omega) hn) qs mM (λb' i=>by have:=fV b' i;omega)
     have mN:=ae.length t' mM
     have fl:dn (loc.map (a.sz+·)) cs t'.sz a_=cs.take a.sz++dn loc (cs.drop a.sz) t'.sz a_:=by
      cases loc with
      | none=>simp[dn]
      | some off=>
       have:=(M.ji off rfl).1
       simp only[dn,of,Option.map_some]
       rw[List.take_add,List.drop_drop,List.append_assoc,List.append_assoc,List.append_assoc,Nat.add_assoc]
     have rp:(cs.take a.sz).length=a.sz:=by simp;omega
     have nr:∀ d full,gS d full w t' H' aC aS w2 H2 a_->full->dn (loc.map (a.sz+·)) cs t'.sz a_=cs:=λd full hd ls=>by
      obtain ⟨H5,c5,e1,e2⟩:=hd [] ⟨t',H',aC,aS⟩ (Nat.zero_le _) rfl
      simp only[ay,Option.some.injEq,Pl.mk.injEq] at e1
      have e3:a_=aC:=e1.2.2.1.trans (e2 (.inr ls))
      cases loc with
      | none=>rfl
      | some off=>
       have:=M.ji off rfl
       rw[e3,this.2.1,List.drop_drop]
       exact og (show a.sz+off+t'.sz<=cs.length by omega)
     have gO:(dn (loc.map (a.sz+·)) cs t'.sz a_).take a.sz=cs.take a.sz:=by rw[fl];exact List.take_left' rp
     have uK:(dn (loc.map (a.sz+·)) cs t'.sz a_).drop a.sz=dn loc (cs.drop a.sz) t'.sz a_:=by rw[fl];exact List.drop_left' rp
     have wK:∀ b' i,1<=F1 b' i->∀ u,ce w b' i=some u->ce w2 b' i=some u:=λb' i hp u hu=>by
      refine hG b' i (by omega) (λo dq oh=>?_) u hu
      have My:=hs b' i;have Mz:=hF b' i
      cases loc with
      | none=>
       obtain ⟨b0,o0,q1,q2⟩:=M.out rfl
       rw[q1] at dq
       simp only[Option.some.injEq,Prod.mk.injEq] at dq
       obtain ⟨rfl,rfl⟩:=dq
       have:=(q2 (i - o0) (by omega)).1
       rw[show o0+(i - o0)=i by omega] at this
       have:=M.sum b0 i
       omega
      | some off=>
       obtain ⟨q1,q2,q3⟩:=M.ji off rfl
       cases ad with
       | none=>rw[q3] at dq;cases dq
       | some x=>
        rw[q3] at dq
        simp only[bR,Option.map_some,Option.some.injEq,Prod.mk.injEq] at dq
        obtain ⟨rfl,rfl⟩:=dq
        have:=tP x.1 x.2 rfl (i - x.2) (by simp only[Ty.sz];omega)
        rw[show x.2+(i - x.2)=i by omega] at this
        omega
     refine ⟨_,_,_,λb' i=>F3 b' i+F1 b' i,k1,λb' i=>by have:=k2 b' i;show F3 b' i+F1 b' i<=_;omega,λA3 gE gn=>?_,λd full hd=>?_⟩
     ·refine ⟨by rw[hY,gD,gD];rfl,F1,F3,λb' i=>by show F1 b' i+F3 b' i<=F3 b' i+F1 b' i;omega,?_,?_⟩
      ·rw[gO,List.filterMap_append,jg,jz,List.append_nil]
       exact ae.mono (λb' i ha=>gE b' i (hA b' i ha)) iC hb a h1 (λ_ _=>Nat.le_refl _) wK
      ·rw[uK,List.filterMap_append,jA,jh,List.nil_append]
       refine k3 A3 gE λb' i hp hz=>gn b' i (by omega) ?_
       have:=fV b' i
       show F3 b' i+F1 b' i=0;omega
     ·intro q pl hq hp
      cases q with
      | nil=>
       simp only[ay,Option.some.injEq] at hp;subst hp
       refine ⟨_,_,rfl,λh=>?_⟩
       rcases h with ⟨_,hs⟩ | ls
       ·simp[lr] at hs
       ·exact nr d full hd ls
      | cons s q=>
       cases s with
       | snd=>
        simp only[ay,h0,Bool.false_eq_true,if_false] at hp
        obtain ⟨H4,Gm,e1,e2⟩:=k4 d full hd q pl (by simpa [bc] using hq) hp
        refine ⟨H4,Gm,?_,λiD=>e2 (by simpa [bc] using iD)⟩
        simp only[ay,hY,gD,Bool.or_self,Bool.false_eq_true,if_false]
        rw[uK,List.filterMap_append,jA,jh,List.nil_append]
        exact e1
       | fst=>
        simp only[ay,h0,Bool.false_eq_true,if_false] at hp
        refine ⟨pl.H,pl.cs,?_,λ_=>rfl⟩
        simp only[ay,hY,gD,Bool.or_self,Bool.false_eq_true,if_false]
        rw[gO,List.filterMap_append,jg,jz,List.append_nil]
        exact kV iC q a h1 wK hp
       | idx i=>simp[ay] at hp
       | gm i=>simp[ay] at hp
   | idx i=>simp[gC] at h
   | gm i=>simp[gC] at h
  | af e=>
   cases s with
   | fst=>simp[gC] at h
   | snd=>simp[gC] at h
   | gm i=>simp[gC] at h
   | idx i=>
    simp only[gC] at h
    split at h
    ·rename_i cm
     obtain ⟨h1,Y,h3⟩:=rI h
     cases hx:(v:List e.den)[i]? with
     | none=>rw[hx] at h1;cases h1
     | some x=>
      rw[hx] at h1
      simp only[Option.bind_some] at h1
      have hi:i < List.length v:=(List.getElem?_eq_some_iff.1 hx).1
      simp only[ae,h3,Bool.false_eq_true,if_false,cm,if_true] at hr
      obtain ⟨a,cap,rfl,g2,g3,g4,g5⟩:=hr
      cases a with
      | none=>have:=g4 rfl;omega
      | some bJ=>
       obtain ⟨q1,q2,q3,Fi,q4,q5⟩:=g5 bJ rfl
       obtain ⟨L,hl,hL,cC⟩:=q5 i x hx
       have aH:∀ k,k < List.length v->∀ j,j < e.sz->k*e.sz+j < cap*e.sz:=λk hk j hj=>by
        have aH:(k+1)*e.sz<=cap*e.sz:=Nat.mul_le_mul_right _ (by omega)
        rw[Nat.add_mul] at aH;omega
       have yJ:∀ k,k < cap*e.sz->bm bJ.block 0 (cap*e.sz) bJ.block k=1:=λk hk=>by simp[bm,hk]
       obtain ⟨t',m',H',v',aC,aS,F',G,kk,loc,M⟩:=ih e h1 cC (λb k=>by have:=q4 b k;have:=hF b k;have:=aW Fi hi b k;omega)
        (ad:=some (bJ.block,i*e.sz)) (λb o hb=>by simp only[Option.some.injEq,Prod.mk.injEq] at hb;obtain ⟨rfl,rfl⟩:=hb;exact hL)
        (λb o hb j hj=>by
         simp only[Option.some.injEq,Prod.mk.injEq] at hb;obtain ⟨rfl,rfl⟩:=hb
         have:=q4 bJ.block (i*e.sz+j);have:=hF bJ.block (i*e.sz+j);have:=aW Fi hi bJ.block (i*e.sz+j)
         have:=yJ _ (aH i hi j hj);omega)
       have qt:∀ b k,al (List.length v) (bD Fi i G) b k+Fi i b k=al (List.length v) Fi b k+G b k:=iR Fi hi G
       have pD:∀ b k,G b k<=al (List.length v) (bD Fi i G) b k:=λb k=>by
        have:=aW (bD Fi i G) hi b k;simpa [bD] using this
       refine ⟨t',m',H',v',aC,aS,F',λb k=>bm bJ.block 0 (cap*e.sz) b k+al (List.length v) (bD Fi i G) b k,kk,none,M.run,λK0=>by simp only[eU];rw[qq h,hx];exact M.Dq K0,?_,M.rep,λb k=>by have:=qt b k;have:=M.sum b k;have:=q4 b k;omega,M.has,(λoff ho=>by cases ho),(λ_=>rfl),?_,?_⟩
       ·simp only[ay,h3,Bool.false_eq_true,if_false,hi,if_true,q1,Nat.zero_add,bq hL hl];exact M.place
       ·intro _
        cases loc with
        | none=>
         obtain ⟨b',o,e1,e2⟩:=M.out rfl
         exact ⟨b',o,e1,λj hj=>⟨by have:=(e2 j hj).1;have:=pD b' (o+j);omega,(e2 j hj).2⟩⟩
        | some off=>
         obtain ⟨e1,e2,e3⟩:=M.ji off rfl
         refine ⟨bJ.block,i*e.sz+off,e3,λj hj=>?_⟩
         have ol:=aH i hi (off+j) (by omega)
         rw[<-Nat.add_assoc] at ol
         exact ⟨by have:=yJ _ ol;omega,q3.frozen ol⟩
       ·intro m2 H2 v2 hk w2 A2 a_ wJ hb hA iC hG qs mM fV
        obtain ⟨m3,H3,v3,F3,k1,k2,k3,k4⟩:=M.back m2 H2 v2 hk w2 A2 a_ wJ hb hA iC (λb' i hp hn=>hG b' i (by have:=pD b' i;omega) hn) qs mM
         (λb' i=>by have:=fV b' i;have:=pD b' i;omega)
        have mN:=ae.length t' mM
        have apart:∀ b' k,(∀ o,aS=some (b',o)->o<=k/\k < o+t'.sz->1<=Fi i b' k\/(b'=bJ.block/\i*e.sz<=k/\k < i*e.sz+e.sz)):=λb' k o dq oh=>by
         cases loc with
         | none=>
          obtain ⟨b0,o0,e1,e2⟩:=M.out rfl
          rw[e1] at dq
          simp only[Option.some.injEq,Prod.mk.injEq] at dq
          obtain ⟨rfl,rfl⟩:=dq
          have:=(e2 (k - o0) (by omega)).1
          rw[show o0+(k - o0)=k by omega] at this
          have:=M.sum b0 k
          left;omega
         | some off=>
          obtain ⟨e1,e2,e3⟩:=M.ji off rfl
          rw[e3] at dq
          simp only[bR,Option.map_some,Option.some.injEq,Prod.mk.injEq] at dq
          obtain ⟨rfl,rfl⟩:=dq
          exact .inr ⟨rfl,by omega,by omega⟩
        have wK:∀ j,j < List.length v->j≠i->∀ b' k,1<=Fi j b' k->∀ u,ce w b' k=some u->ce w2 b' k=some u:=λj hj eY b' k hp u hu=>by
         have h1:=aW (bD Fi i G) hj b' k
         have e1:bD Fi i G j=Fi j:=by simp[bD,eY]
         rw[e1] at h1
         refine hG b' k (by omega) (λo dq oh=>?_) u hu
         have Y:=q4 b' k;have h3:=hF b' k;have h4:=iS Fi hj hi eY b' k
         rcases apart b' k o dq oh with h | ⟨rfl,MA,Gn⟩
         ·omega
         ·have:=yJ (i*e.sz+(k - i*e.sz)) (aH i hi _ (by omega))
          rw[show i*e.sz+(k - i*e.sz)=k by omega] at this
          omega
        have cell:∀ j,j < List.length v->j≠i->∀ k,k < e.sz->∀ u,ce w bJ.block (j*e.sz+k)=some u->ce w2 bJ.block (j*e.sz+k)=some u:=λj hj eY k hk u hu=>by
         have nm:=yJ _ (aH j hj k hk)
         refine hG _ _ (by omega) (λo dq oh=>?_) u hu
         have Y:=q4 bJ.block (j*e.sz+k);have h3:=hF bJ.block (j*e.sz+k)
         rcases apart _ _ o dq oh with h | ⟨_,MA,Gn⟩
         ·have:=aW Fi hi bJ.block (j*e.sz+k);omega
         ·have bG:j < i\/i < j:=by omega
          rcases bG with qu | qu
          ·have:(j+1)*e.sz<=i*e.sz:=Nat.mul_le_mul_right _ qu
           rw[Nat.add_mul] at this;omega
          ·have:(i+1)*e.sz<=j*e.sz:=Nat.mul_le_mul_right _ qu
           rw[Nat.add_mul] at this;omega
        have Ix:Has w2 bJ.block (i*e.sz) (dn loc L t'.sz a_):=by
         have nc:∀ j u,L[j]?=some u->(∀ off,loc=some off->¬ (off<=j/\j < off+t'.sz))->ce w2 bJ.block (i*e.sz+j)=some u:=λj u hu hn=>by
          have hj:j < e.sz:=hl ▸ (List.getElem?_eq_some_iff.1 hu).1
          have nm:=yJ _ (aH i hi j hj)
          refine hG _ _ (by omega) (λo dq oh=>?_) u (hL j u hu)
          cases loc with
          | none=>
           obtain ⟨b0,o0,e1,e2⟩:=M.out rfl
           rw[e1] at dq
           simp only[Option.some.injEq,Prod.mk.injEq] at dq
           obtain ⟨rfl,rfl⟩:=dq
           have:=(e2 (i*e.sz+j - o0) (by omega)).1
           rw[show o0+(i*e.sz+j - o0)=i*e.sz+j by omega] at this
           have Y:=q4 bJ.block (i*e.sz+j);have h3:=hF bJ.block (i*e.sz+j);have:=pD bJ.block (i*e.sz+j);have:=qt bJ.block (i*e.sz+j);have:=M.sum bJ.block (i*e.sz+j)
           have:=aW Fi hi bJ.block (i*e.sz+j)
           omega
          | some off=>
           obtain ⟨e1,e2,e3⟩:=M.ji off rfl
           rw[e3] at dq
           simp only[bR,Option.map_some,Option.some.injEq,Prod.mk.injEq] at dq
           obtain ⟨_,rfl⟩:=dq
           exact hn off rfl (by omega)
         cases loc with
         | none=>exact λj u hu=>nc j u hu (λoff ho=>by cases ho)
         | some off=>
          obtain ⟨e1,e2,e3⟩:=M.ji off rfl
          exact A5 (by omega) mN (qs _ _ e3) (λj u hu hn=>nc j u hu (λIv ho=>by injection ho with ho;subst ho;exact hn))
        have A7:(dn loc L t'.sz a_).length=e.sz:=by
         cases loc with
         | none=>exact hl
         | some off=>have:=(M.ji off rfl).1;simp only[dn];rw[jT (by omega) mN,hl]
        have tQ:∀ (j:Nat) (y:e.den),(List.set v i v3)[j]?=some y->(j=i/\y=v3)\/(j≠i/\(v:List e.den)[j]?=some y):=λj y hy=>by
         rw[List.getElem?_set] at hy
         split at hy
         ·rename_i iB
          subst iB
          injection hy with hy
          exact .inl ⟨rfl,hy.symm⟩
         ·rename_i iB;exact .inr ⟨λh=>iB h.symm,hy⟩
        have others:∀ A3:Cells,(∀ b i,A2 b i->A3 b i)->∀ (j:Nat) (y:e.den),j≠i->(v:List e.den)[j]?=some y->∃ L:List Value,L.length=e.sz/\Has w2 bJ.block (j*e.sz) L/\Has w bJ.block (j*e.sz) L/\ae P w A e m.e [] y L (Fi j)/\ae P w2 A3 e m.e [] y L (Fi j):=λA3 gE j y eY hy=>by
         have hj:j < List.length v:=(List.getElem?_eq_some_iff.1 hy).1
         obtain ⟨Lj,uL,Gp,Dr⟩:=q5 j y hy
         rw[Y j eY] at Dr
         exact ⟨Lj,uL,λk u hu=>cell j hj eY k (uL ▸ (List.getElem?_eq_some_iff.1 hu).1) u (Gp k u hu),Gp,Dr,ae.mono (λb' i ha=>gE b' i (hA b' i ha)) iC hb e Dr (λ_ _=>Nat.le_refl _) (wK j hj eY)⟩
        have Iy:∀ H4:List Path,hole H4=false->H4.filterMap (dx i)=H3->(∀ j,j≠i->H4.filterMap (dx j)=[])->∀ d full,gS d full w t' H' aC aS w2 H2 a_->gS (d+bc (.idx i::p)) full w (.af e) H [.slice (some bJ) (List.length v) cap] ad w2 H4 [.slice (some bJ) (List.length v) cap]:=by
         intro H4 KR MB MC d full hd q pl hq hp
         cases q with
         | nil=>
          simp only[ay,Option.some.injEq] at hp;subst hp
          exact ⟨_,_,rfl,λ_=>rfl⟩
         | cons s q=>
          cases s with
          | fst=>simp[ay] at hp
          | snd=>simp[ay] at hp
          | gm j=>simp[ay] at hp
          | idx j=>
           simp only[ay,h3,Bool.false_eq_true,if_false] at hp
           split at hp
           ·rename_i hj
            by_cases eY:j=i
            ·subst eY
             rw[q1,Nat.zero_add,bq hL hl] at hp
             obtain ⟨H5,Iz,e1,e2⟩:=k4 d full hd q pl (by simp only[bc] at hq;omega) hp
             refine ⟨H5,Iz,?_,λiD=>e2 (iD.imp (λh=>⟨by have:=h.1;simp only[bc] at this;omega,h.2⟩) id)⟩
             simp only[ay,KR,Bool.false_eq_true,if_false,hj,if_true,q1,Nat.zero_add,bq Ix A7,MB]
             exact e1
            ·obtain ⟨Lj,uL,yK,Gp,Dr,_⟩:=others A2 (λ_ _ h=>h) j _ eY (List.getElem?_eq_getElem hj)
             rw[q1,Nat.zero_add,bq Gp uL,Y j eY] at hp
             refine ⟨pl.H,pl.cs,?_,λ_=>rfl⟩
             simp only[ay,KR,Bool.false_eq_true,if_false,hj,if_true,q1,Nat.zero_add,bq yK uL,MC j eY]
             exact kV iC q e Dr (wK j hj eY) hp
           ·cases hp
        simp only[dn]
        by_cases rq:m3=m.e
        ·rw[if_pos rq] at k1
         subst rq
         refine ⟨_,_,_,λb' k=>bm bJ.block 0 (cap*e.sz) b' k+al (List.length v) (bD Fi i F3) b' k,k1,λb' k=>?_,λA3 gE gn=>?_,Iy _ (gD _ _) (rn _ _) (λj hj=>oc hj _)⟩
         ·have:=iR Fi hi F3 b' k;have:=qt b' k;have:=k2 b' k
          show bm bJ.block 0 (cap*e.sz) b' k+al (List.length v) (bD Fi i F3) b' k<=_
          omega
         ·simp only[ae,gD,Bool.false_eq_true,if_false,Md.own,if_true]
          refine ⟨some bJ,cap,by simp,by simpa using g2,g3,(λhn=>by cases hn),λtc tR=>?_⟩
          injection tR with tR;subst tR
          refine ⟨q1,q2,hb _ _ q3,bD Fi i F3,λb' k=>by simp,λj y hy=>?_⟩
          rcases tQ j y hy with ⟨rfl,rfl⟩ | ⟨eY,td⟩
          ·refine ⟨_,A7,Ix,?_⟩
           rw[rn]
           simp only[Md.e,bD,if_true]
           refine k3 A3 gE λb' k hp hz=>gn b' k ?_ ?_
           ·have:=pD b' k;omega
           ·have h5:=fV b' k;have h6:=iR Fi hi F3 b' k;have h7:=qt b' k;have:=pD b' k
            have h8:=q4 b' k;have h9:=M.sum b' k
            have:=k2 b' k
            show bm bJ.block 0 (cap*e.sz) b' k+al (List.length v) (bD Fi j F3) b' k=0
            omega
          ·obtain ⟨Lj,uL,yK,_,_,EX⟩:=others A3 gE j y eY td
           refine ⟨Lj,uL,yK,?_⟩
           rw[oc eY]
           simp only[bD,if_neg eY]
           exact EX
        ·rw[if_neg rq] at k1
         split at k1
         ·rename_i wL
          have wL:H3=[]:=List.isEmpty_iff.1 wL
          refine ⟨_,_,_,λb' k=>bm bJ.block 0 (cap*e.sz) b' k,k1,λb' k=>by show bm bJ.block 0 (cap*e.sz) b' k<=_;omega,λA3 gE gn=>?_,Iy _ rfl (by rw[wL];rfl) (λj hj=>rfl)⟩
          simp only[ae,hole,List.any_nil,Bool.false_eq_true,if_false,Md.own,if_true]
          refine ⟨some bJ,cap,by simp,by simpa using g2,g3,(λhn=>by cases hn),λtc tR=>?_⟩
          injection tR with tR;subst tR
          refine ⟨q1,q2,hb _ _ q3,λ_ _ _=>0,λb' k=>by rw[d9];simp,λj y hy=>?_⟩
          have fz:∀ b' k,1<=wJ b' k+(bm bJ.block 0 (cap*e.sz) b' k+al (List.length v) (bD Fi i G) b' k)->bm bJ.block 0 (cap*e.sz) b' k=0->A3 b' k:=gn
          rcases tQ j y hy with ⟨rfl,rfl⟩ | ⟨eY,td⟩
          ·refine ⟨_,A7,Ix,?_⟩
           have Ds:=k3 A3 gE λb' k hp hz=>fz b' k (by have:=pD b' k;omega) (by
            have h5:=fV b' k;have:=pD b' k;omega)
           rw[wL] at Ds
           refine Ro.rep e _ (bI e) (ae.lq (λ_ _ h=>h) e Ds λb' k hp=>fz b' k ?_ ?_)
           ·have:=k2 b' k;have:=pD b' k;omega
           ·have h5:=fV b' k;have:=pD b' k;have:=k2 b' k;omega
          ·obtain ⟨Lj,uL,yK,_,_,EX⟩:=others A3 gE j y eY td
           have hj:j < List.length v:=(List.getElem?_eq_some_iff.1 td).1
           refine ⟨Lj,uL,yK,Ro.rep e _ (bI e) (ae.lq (λ_ _ h=>h) e EX λb' k hp=>?_)⟩
           have h1:=aW (bD Fi i G) hj b' k
           have e1:bD Fi i G j=Fi j:=by simp[bD,eY]
           rw[e1] at h1
           have h5:=fV b' k
           exact fz b' k (by omega) (by omega)
         ·cases k1
    ·cases h
  | arr n e=>
   cases s with
   | fst=>simp[gC] at h
   | snd=>simp[gC] at h
   | idx i=>simp[gC] at h
   | gm i=>
    obtain ⟨rfl,hf,hl,hlen,hr⟩:=hr
    simp only[gC,List.isEmpty_nil,if_true] at h
    cases hx:(v:List e.den)[i]? with
    | none=>rw[hx] at h;cases h
    | some x=>
     rw[hx] at h
     simp only[Option.bind_some] at h
     have hi:i < n:=hl ▸ (List.getElem?_eq_some_iff.1 hx).1
     have dy:∀ j,j < n->j*e.sz+e.sz<=cs.length:=λj hj=>by
      have:(j+1)*e.sz<=n*e.sz:=Nat.mul_le_mul_right _ hj
      rw[Nat.add_mul] at this;omega
     have gP:∀ j,j < n->((cs.drop (j*e.sz)).take e.sz).length=e.sz:=λj hj=>by have:=dy j hj;simp;omega
     obtain ⟨t',m',H',v',aC,aS,F',G,kk,loc,M⟩:=ih e h (Ro.flat e (λ_ _=>0) hf (hr i x hx)) (λ_ _=>Nat.zero_le _) (ad:=bR ad (i*e.sz)) (λb' o hb j u hu=>by
      cases ad with
      | none=>cases hb
      | some y=>
       simp only[bR,Option.map_some,Option.some.injEq,Prod.mk.injEq] at hb
       obtain ⟨rfl,rfl⟩:=hb
       rw[List.getElem?_take] at hu
       split at hu
       ·rw[List.getElem?_drop] at hu
        have:=cR y.1 y.2 rfl _ u hu
        rwa [Nat.add_assoc]
       ·cases hu) (λ_ _ _ _ _=>rfl)
     have A8:∀ b k,G b k=0:=λb k=>by have:=M.sum b k;omega
     have tg:∀ b k,F' b k=0:=λb k=>by have:=M.sum b k;omega
     have B5:∀ h:loc=none,t'.sz=0:=λh=>by
      obtain ⟨b',o,e1,e2⟩:=M.out h
      rcases Nat.eq_zero_or_pos t'.sz with h0 | h0
      ·exact h0
      ·have:=(e2 0 h0).1;rw[A8] at this;omega
     refine ⟨t',m',H',v',aC,aS,F',F,kk,loc.map (i*e.sz+·),M.run,λK0=>by simp only[eU,List.isEmpty_nil,if_true,hx,Option.bind_some];exact M.Dq K0,by simp only[ay,List.isEmpty_nil,if_true,hi];exact M.place,M.rep,λb k=>by rw[tg];omega,M.has,?_,(λh=>by rw[M.B4 (by simpa [bc] using h)];rfl),?_,?_⟩
     ·intro Iv ho
      obtain ⟨off,Iw,rfl⟩:=Option.map_eq_some_iff.1 ho
      obtain ⟨q1,q2,q3⟩:=M.ji off Iw
      have:=dy i hi
      refine ⟨by simp only[Ty.sz];omega,?_,by rw[q3];cases ad <;> simp[bR,Nat.add_assoc]⟩
      rw[q2,List.drop_take,List.take_take,List.drop_drop]
      congr 1;omega
     ·intro ho
      obtain ⟨b',o,q1,q2⟩:=M.out (by simpa using ho)
      have:=B5 (by simpa using ho)
      exact ⟨b',o,q1,λj hj=>by omega⟩
     ·intro m2 H2 v2 hk w2 A2 a_ wJ hb hA iC hG qs mM fV
      obtain ⟨m3,H3,v3,F3,k1,k2,k3,k4⟩:=M.back m2 H2 v2 hk w2 A2 a_ wJ hb hA iC (λb' i hp hn=>by rw[A8] at hp;omega) qs mM (λb' i=>by have:=fV b' i;rw[A8];omega)
      have mN:=ae.length t' mM
      split at k1
      ·rename_i wL
       have wL:H3=[]:=List.isEmpty_iff.1 wL
       have fl:dn (loc.map (i*e.sz+·)) cs t'.sz a_=of cs (i*e.sz) e.sz (dn loc ((cs.drop (i*e.sz)).take e.sz) t'.sz a_):=by
        cases loc with
        | none=>simp only[dn,Option.map_none];exact (og (dy i hi)).symm
        | some off=>
         have:=(M.ji off rfl).1
         exact (HE this (dy i hi) mN).symm
       have rp:(dn loc ((cs.drop (i*e.sz)).take e.sz) t'.sz a_).length=e.sz:=by
        cases loc with
        | none=>exact gP i hi
        | some off=>have:=(M.ji off rfl).1;simp only[dn];rw[jT (by rw[gP i hi];omega) mN,gP i hi]
       have B6:∀ j,j < n->((dn (loc.map (i*e.sz+·)) cs t'.sz a_).drop (j*e.sz)).take e.sz=if j=i then dn loc ((cs.drop (i*e.sz)).take e.sz) t'.sz a_ else (cs.drop (j*e.sz)).take e.sz:=λj hj=>by
        rw[fl]
        apply List.ext_getElem?
        intro k
        rw[List.getElem?_take]
        split
        ·rename_i hk
         rw[List.getElem?_drop,pT (dy i hi) rp]
         by_cases eY:j=i
         ·subst eY
          rw[if_pos (by omega),if_pos rfl];congr 1;omega
         ·rw[if_neg eY,List.getElem?_take,if_pos hk,List.getElem?_drop,if_neg]
          have bG:j < i\/i < j:=by omega
          rcases bG with qu | qu
          ·have:(j+1)*e.sz<=i*e.sz:=Nat.mul_le_mul_right _ qu
           rw[Nat.add_mul] at this;omega
          ·have:(i+1)*e.sz<=j*e.sz:=Nat.mul_le_mul_right _ qu
           rw[Nat.add_mul] at this;omega
        ·rename_i hk
         by_cases eY:j=i
         ·rw[if_pos eY,List.getElem?_eq_none (by omega)]
         ·rw[if_neg eY,List.getElem?_eq_none (by rw[gP j hj];omega)]
       have nr:∀ d full,gS d full w t' H' aC aS w2 H2 a_->full->dn (loc.map (i*e.sz+·)) cs t'.sz a_=cs:=λd full hd ls=>by
        obtain ⟨H5,c5,e1,e2⟩:=hd [] ⟨t',H',aC,aS⟩ (Nat.zero_le _) rfl
        simp only[ay,Option.some.injEq,Pl.mk.injEq] at e1
        have e3:a_=aC:=e1.2.2.1.trans (e2 (.inr ls))
        cases loc with
        | none=>rfl
        | some off=>
         have:=M.ji off rfl
         have:=dy i hi
         rw[e3,(M.ji off rfl).2.1,List.drop_take,List.take_take,show min t'.sz (e.sz - off)=t'.sz by omega,List.drop_drop]
         exact og (show i*e.sz+off+t'.sz<=cs.length by omega)
       have Kc:(dn (loc.map (i*e.sz+·)) cs t'.sz a_).length=n*e.sz:=by rw[fl,jT (dy i hi) rp,hlen]
       refine ⟨_,_,_,λb' k=>F3 b' k+F b' k,k1,λb' k=>by have:=k2 b' k;have:=A8 b' k;show F3 b' k+F b' k<=_;omega,λA3 gE gn=>?_,λd full hd=>?_⟩
       ·refine ⟨rfl,hf,by simpa using hl,Kc,λj y hy=>?_⟩
        have hj:j < n:=by have:=(List.getElem?_eq_some_iff.1 hy).1;rw[List.length_set] at this;omega
        rw[B6 j hj]
        rw[List.getElem?_set] at hy
        split at hy
        ·rename_i iB
         subst iB
         have hy:some v3=some y:=by
          split at hy
          ·exact hy
          ·cases hy
         injection hy with hy
         rw[if_pos rfl,<- hy]
         exact ae.flat e hf (k3 A3 gE λb' k hp hz=>gn b' k (by have:=A8 b' k;omega) (by have:=fV b' k;have:=A8 b' k;show F3 b' k+F b' k=0;omega))
        ·rename_i iB
         rw[if_neg (λh=>iB h.symm)]
         exact Ro.mono iC (λb' k ha=>gE b' k (hA b' k ha)) e (hr j y hy)
       ·intro q pl hq hp
        cases q with
        | nil=>
         simp only[ay,Option.some.injEq] at hp;subst hp
         refine ⟨_,_,rfl,λh=>?_⟩
         rcases h with ⟨_,hs⟩ | ls
         ·simp[lr] at hs
         ·exact nr d full hd ls
        | cons s q=>
         cases s with
         | fst=>simp[ay] at hp
         | snd=>simp[ay] at hp
         | idx j=>simp[ay] at hp
         | gm j=>
          simp only[ay,List.isEmpty_nil,if_true] at hp
          split at hp
          ·rename_i hj
           by_cases eY:j=i
           ·subst eY
            obtain ⟨H5,Iz,e1,e2⟩:=k4 d full hd q pl (by simp only[bc] at hq;omega) hp
            refine ⟨H5,Iz,?_,λiD=>e2 (iD.imp (λh=>⟨by have:=h.1;simp only[bc] at this;omega,h.2⟩) id)⟩
            simp only[ay,List.isEmpty_nil,if_true,hj]
            rw[B6 j hj,if_pos rfl]
            rw[wL] at e1
            exact e1
           ·refine ⟨pl.H,pl.cs,?_,λ_=>rfl⟩
            simp only[ay,List.isEmpty_nil,if_true,hj]
            rw[B6 j hj,if_neg eY]
            exact kV iC q e (Ro.flat e (m:=.leaf) (λ_ _=>0) hf (hr j _ (List.getElem?_eq_getElem (by rw[hl];exact hj)))) (λb k hp=>by simp at hp) hp
          ·cases hp
      ·cases k1
  | _=>cases s <;> simp[gC] at h
end
end OT
set_option linter.unusedVariables false
set_option linter.unusedSimpArgs false
namespace OT
open Go
def tmp (a:Act) (i:Nat):Value:=a.tmps.getD i undef
section
variable {P:Program} {w:World} {A:Cells}
theorem Ro.one:∀ (t:Ty) {v:t.den} {cs:List Value},Ro P w A t v cs->∀ x ∈ cs,x.oneCell'=true:=by
 intro t
 induction t with
 | pair a b d_ dT=>
  intro v cs h x hx
  rw[<-List.take_append_drop a.sz cs] at hx
  rcases List.mem_append.1 hx with hx | hx
  ·exact d_ h.1 x hx
  ·exact dT h.2 x hx
 | arr n e ih=>
  intro v cs h x hx
  obtain ⟨hf,hl,hlen,hr⟩:=h
  obtain ⟨k,hk,rfl⟩:=List.mem_iff_getElem.1 hx
  rw[hlen] at hk
  have eN:0 < e.sz:=by
   grind
  have hi:k / e.sz < n:=(Nat.div_lt_iff_lt_mul eN).2 hk
  refine ih (hr (k / e.sz) _ (List.getElem?_eq_getElem (by grind))) _ ?_
  rw[List.mem_iff_getElem?]
  refine ⟨k % e.sz,?_⟩
  grind [Nat.mod_lt,Nat.div_add_mod]
 | af e ih=>rintro v cs ⟨a,cap,rfl,_⟩ x hx;simp at hx;subst hx;rfl
 | ptr e ih=>rintro v cs ⟨a,rfl,_⟩ x hx;simp at hx;subst hx;rfl
 | fn=>rintro v cs ⟨a,rfl,_⟩ x hx;simp at hx;subst hx;rfl
 | map k v=>rintro v cs ⟨_,_,r,jf,rfl,_⟩ x hx;simp at hx;subst hx;rfl
 | unit=>grind [Ro]
 | _=>intro v cs h x hx;simp only[Ro] at h;subst h;simp at hx;subst hx;rfl
theorem ae.one:∀ (t:Ty) {m:Md} {H:List Path} {v:t.den} {cs:List Value} {F:FP},ae P w A t m H v cs F->∀ x ∈ cs,x.oneCell'=true:=by
 intro t
 induction t with
 | pair a b d_ dT=>
  intro m H v cs F h x hx
  obtain ⟨_,F1,F2,_,h1,Y⟩:=h
  grind [List.take_append_drop]
 | af e ih=>
  intro m H v cs F h x hx
  simp only[ae] at h
  split at h
  ·grind
  ·split at h
   ·obtain ⟨a,cap,rfl,_⟩:=h;simp at hx;subst hx;rfl
   grind [Ro.one]
 | ptr e ih=>
  intro m H v cs F h x hx
  simp only[ae] at h
  split at h
  ·grind
  ·split at h
   ·obtain ⟨a,rfl,_⟩:=h;simp at hx;subst hx;rfl
   grind [Ro.one]
 | arr n e ih=>intro m H v cs F h;exact Ro.one _ h.2
 | map k v=>
  intro m H v cs F h x hx
  simp only[ae] at h
  split at h
  ·grind
  ·split at h
   ·obtain ⟨_,_,r,jf,rfl,_⟩:=h;simp at hx;subst hx;rfl
   grind [Ro.one]
 | _=>intro m H v cs F h;exact Ro.one _ h
end
theorem cV {t:Ty} {cs:List Value} (hl:cs.length=t.sz) (h1:∀ x ∈ cs,x.oneCell'=true):(aY t cs).cells.toList=cs:=by
 unfold aY
 split
 ·simp[Value.cells]
 ·rename_i h
  have:t.sz=1:=by cases t <;> simp_all [isAgg,Ty.sz]
  match cs,hl with
  | [x],_=>
   have:=h1 x (by simp)
   cases x <;> simp_all [Value.cells,Value.oneCell']
  | [],hl=>grind
  | _::_::_,hl=>grind
def Below (snap v:List Nat):Prop:=∀ (j x:Nat),snap[j]?=some x->∃ y,v[j]?=some y/\x<=y
theorem tS:∀ (s v:List Nat),preB s v=true↔∀ (j x:Nat),s[j]?=some x->v[j]?=some x
 | [],v=>by simp[preB]
 | a::s,[]=>by
  simp only[preB,Bool.false_eq_true,false_iff]
  intro h
  have:=h 0 a rfl
  cases this
 | a::s,b::v=>by
  simp only[preB,Bool.and_eq_true,Nat.beq_eq,tS s v]
  constructor
  ·grind
  ·intro h
   refine ⟨by have:=h 0 a rfl;simpa using this.symm,λj x hj=>h (j+1) x hj⟩
theorem sO {s v v':List Nat} (hs:Below s v) (hv:Below v v') (h:preB s v'=true):preB s v=true/\∀ (j:Nat),j < s.length->v[j]?=v'[j]?:=by
 have key:∀ (j x:Nat),s[j]?=some x->v[j]?=some x/\v'[j]?=some x:=λj x hj=>by
  obtain ⟨y,hy,rJ⟩:=hs j x hj
  obtain ⟨z,hz,MD⟩:=hv j y hy
  grind [tS]
 grind [tS]
theorem Below.trans {s v v':List Nat} (h1:Below s v) (Y:Below v v'):Below s v':=λj x hj=>by
 obtain ⟨y,hy,rJ⟩:=h1 j x hj
 obtain ⟨z,hz,MD⟩:=Y j y hy
 grind
theorem Below.refl (s:List Nat):Below s s:=λj x hj=>⟨x,hj,Nat.le_refl _⟩
def ba (w:World) (tv:Value):Slot->Option Pl
 | .own t _ H _=>some ⟨t,H,tv.cells.toList,none⟩
 | .box t _ H _=>match tv with
  | .pointer (some a)=>some ⟨t,H,rd w a.block a.off t.sz,some (a.block,a.off)⟩
  | _=>none
 | _=>none
def place (σ:St) (a:Act) (w:World) (r:Nat) (p:Path):Option Pl:=
 (ba w (tmp a r) (σ.get r)).bind λR=>ay w p R.t R.H R.cs R.ad
def gF (σ:St) (a:Act) (w:World) (tv:Value) (r:Nat) (p:Path) (snap:List Nat):Prop:=
 Below snap (σ.da r)/\(σ.ok r snap=true->∃ pl,place σ a w r p=some pl/\tv=aY pl.t pl.cs/\((lr pl.t=true/\snap.length=min 5 (2+bc p))\/snap.length=5))
def pU (σ:St) (a:Act) (w:World) (tv:Value) (r:Nat) (p:Path) (snap:List Nat):Prop:=
 Below snap (σ.da r)/\(σ.ok r snap=true->∃ pl b o,place σ a w r p=some pl/\pl.ad=some (b,o)/\tv=.pointer (some ⟨b,o,none⟩)/\snap.length=min 5 (1+bc p))
def rK (σ:St) (a:Act) (w:World) (tv:Value) (r:Nat) (p:Path) (snap:List Nat) (lo hi:Nat):Prop:=
 Below snap (σ.da r)/\(σ.ok r snap=true->∃ pl e x n cap x' cap',place σ a w r p=some pl/\pl.t=.af e/\pl.cs=[.slice x n cap]/\lo<=hi/\hi<=n/\tv=.slice x' (hi - lo) cap'/\cap'+lo=cap/\(lo=0->x'=x) /\
  (x=none->x'=none)/\(∀ ad,x=some ad->∃ aS,x'=some aS/\aS.spot=ad.spot/\aS.block=ad.block/\(lo < hi->aS.off=ad.off+lo*e.sz))/\(snap.length=min 5 (2+bc p)\/snap.length=5))
section
variable (P:Program) (A:Cells)
def IA (w:World) (x:uB) (tv:Value) (F:FP):Prop:=x.t=.unit\/∃ cs,tv=aY x.t cs/\ae P w A x.t x.m [] x.v cs F
def aQ (σ:St) (a:Act) (w:World) (tv:Value):Slot->FP->Prop
 | .dead,_=>True
 | .lh,_=>tv=.slice none 0 0
 | .val t v,_=>∃ cs,tv=aY t cs/\Ro P w A t v cs
 | .cp t v,_=>Ro P w A (.ptr t) v [tv]
 | .own t m H v,F=>∃ cs,tv=aY t cs/\ae P w A t m H v cs F
 | .box t m H v,F=>∃ b o L F1,tv=.pointer (some ⟨b,o,none⟩)/\L.length=t.sz/\Has w b o L/\(∀ j,j < t.sz->w.frozen? ⟨b,o+j,none⟩=false) /\
   (∀ x i,bm b o t.sz x i+F1 x i<=F x i)/\ae P w A t m H v L F1
 | .ref r p snap,_=>gF σ a w tv r p snap
 | .ptr r p snap,_=>pU σ a w tv r p snap
 | .sub r p snap lo hi,_=>rK σ a w tv r p snap lo hi
 | .gN xs,F=>∃ (vs:Array Value) (Fi:Nat->FP),tv=.tuple vs/\(∀ b i,al xs.length Fi b i<=F b i)/\∀ j x,xs[j]?=some x->∃ v,vs[j]?=some v/\IA P A w x v (Fi j)
end
structure Ext (w w':World) (F:FP):Prop where
 size:w.heap.size<=w'.heap.size
 cell:∀ b i,b < w.heap.size->F b i=0->∀ u,ce w b i=some u->ce w' b i=some u
 l_:∀ b n,cf w b n->cf w' b n
 ne:∀ b i,b < w.heap.size->w'.frozen? ⟨b,i,none⟩=w.frozen? ⟨b,i,none⟩
 os:w'.os=w.os
 tape:w'.tape=w.tape
 output:w'.output=w.output
 obj:∀ b,b < w.heap.size->(∀ i,F b i=0)->w'.heap[b]?=w.heap[b]?
 drawn:w.drawn<=w'.drawn
def Dt (P:Program):Bool:=(P.globalNamed "internal/strconv.uint64pow10").isSome||(P.globalNamed "internal/bytealg.MaxLen").isSome
def ns (P:Program) (w:World) (F0:FP):Prop:=Dt P=true->(∃ w0:World,(w0.ShapedOpen P/\((P.globalNamed "internal/strconv.uint64pow10").isSome=true->Go.Lib.TabIs P w0 "internal/strconv.uint64pow10" .u64 Go.Lib.pow10Tab))/\∀ b,b < P.globals.size->w.heap[b]?=w0.heap[b]?) /\
 P.globals.size<=w.heap.size/\∀ b i,b < P.globals.size->F0 b i=0
theorem Kd {P:Program} {w:World} {F0:FP} (h:Dt P=false):ns P w F0:=λe=>by grind
theorem ns.ext {P:Program} {w w':World} {F0 G:FP} (h:ns P w F0) (he:Ext w w' F0) (hG:∀ b i,1<=G b i->1<=F0 b i\/w.heap.size<=b):ns P w' G:=λe=>by
 obtain ⟨⟨w0,g,hw⟩,hs,hf⟩:=h e
 refine ⟨⟨w0,g,λb hb=>?_⟩,Nat.le_trans hs he.size,λb i hb=>?_⟩
 ·rw[he.obj b (by omega) (λi=>hf b i hb)];exact hw b hb
 grind
structure Ctx where
 w0:World
 A0:Cells
 F0:FP
 args:Array Value
structure Rel (P:Program) (C:Ctx) (A:Cells) (X:FP) (σ:St) (a:Act) (w:World) (F:Nat->FP):Prop where
 size:a.tmps.size=σ.n
 defers:a.defers=[]
 bX:∀ i,i < σ.n->aQ P A σ a w (tmp a i) (σ.get i) (F i)
 gh:∀ d r p snap,(d,r,p,snap) ∈ σ.gh->gF σ a w (tmp a d) r p snap
 fA:∀ b i,X b i+al σ.n F b i<=1
 fW:∀ b i,1<=X b i+al σ.n F b i->¬ A b i
 cW:∀ b i,1<=X b i+al σ.n F b i\/A b i->b < w.heap.size
 dK:∀ i,(σ.da i).length=5
 ext:Ext C.w0 w C.F0
 own:∀ b i,1<=X b i+al σ.n F b i->1<=C.F0 b i\/C.w0.heap.size<=b
 a0:∀ b i,C.A0 b i->A b i
 J:∀ b i,A b i->C.A0 b i\/1<=C.F0 b i\/C.w0.heap.size<=b
 fe:∀ j k,(j,k,false) ∈ σ.ax->tmp a j=C.args.getD k undef
 whole:∀ r t m H v,σ.get r=.box t m H v->(∀ k,(r,k,false) ∉ σ.ax)->∃ b,tmp a r=.pointer (some ⟨b,0,none⟩)/\cf w b (t.sz,false)
 eB:∀ j k,(j,k,true) ∈ σ.ax->∀ R,ba w (tmp a j) (σ.get j)=some R->aY R.t R.cs=C.args.getD k undef
 lu:ns P C.w0 C.F0
theorem Rel.qv {P:Program} {C:Ctx} {A:Cells} {X:FP} {σ:St} {a:Act} {w:World} {F:Nat->FP} (h:Rel P C A X σ a w F) {G:FP} (hG:∀ b i,1<=G b i->1<=X b i+al σ.n F b i):ns P w G:=
 h.lu.ext h.ext λb i hp=>h.own b i (hG b i hp)
def mg (σ:St) (a:Act) (w:World) (σ':St) (a':Act) (w':World):Prop:=
 ∀ r p snap,Below snap (σ.da r)->Below snap (σ'.da r)/\(σ'.ok r snap=true->σ.ok r snap=true /\
  (snap.length=min 5 (1+bc p)\/snap.length=min 5 (2+bc p)\/snap.length=5->∀ pl,place σ a w r p=some pl->∃ H' aC,place σ' a' w' r p=some ⟨pl.t,H',aC,pl.ad⟩ /\
   ((lr pl.t=true/\snap.length=min 5 (2+bc p))\/snap.length=5->aC=pl.cs)))
section
variable {P:Program} {A A':Cells} {σ σ':St} {a a':Act} {w w':World} {tv:Value} {F:FP}
theorem gF.ed (hp:mg σ a w σ' a' w') {r:Nat} {p:Path} {snap:List Nat} (h:gF σ a w tv r p snap):gF σ' a' w' tv r p snap:=by
 obtain ⟨h1,Y⟩:=h
 obtain ⟨h3,h4⟩:=hp r p snap h1
 refine ⟨h3,λam=>?_⟩
 grind
theorem pU.ed (hp:mg σ a w σ' a' w') {r:Nat} {p:Path} {snap:List Nat} (h:pU σ a w tv r p snap):pU σ' a' w' tv r p snap:=by
 obtain ⟨h1,Y⟩:=h
 obtain ⟨h3,h4⟩:=hp r p snap h1
 refine ⟨h3,λam=>?_⟩
 grind
theorem rK.ed (hp:mg σ a w σ' a' w') {r:Nat} {p:Path} {snap:List Nat} {lo hi:Nat} (h:rK σ a w tv r p snap lo hi):rK σ' a' w' tv r p snap lo hi:=by
 obtain ⟨h1,Y⟩:=h
 obtain ⟨h3,h4⟩:=hp r p snap h1
 refine ⟨h3,λam=>?_⟩
 grind [lr]
theorem aQ.ed (hp:mg σ a w σ' a' w') (hA:∀ b i,A b i->A' b i) (hc:∀ b i,A b i->∀ u,ce w b i=some u->ce w' b i=some u) (hb:∀ b n,cf w b n->cf w' b n)
  (hF:∀ b i,1<=F b i->(∀ u,ce w b i=some u->ce w' b i=some u)/\w'.frozen? ⟨b,i,none⟩=w.frozen? ⟨b,i,none⟩) {s:Slot} (h:aQ P A σ a w tv s F):aQ P A' σ' a' w' tv s F:=by
 cases s with
 | dead=>trivial
 | lh=>exact h
 | val t v=>obtain ⟨cs,h1,Y⟩:=h;exact ⟨cs,h1,Ro.mono hc hA t Y⟩
 | cp t v=>exact Ro.mono hc hA (.ptr t) h
 | own t m H v=>obtain ⟨cs,h1,Y⟩:=h;exact ⟨cs,h1,ae.mono hA hc hb t Y (λ_ _=>Nat.le_refl _) (λb i hp=>(hF b i hp).1)⟩
 | box t m H v=>
  obtain ⟨b,o,L,F1,h1,Y,h3,h4,h5,h6⟩:=h
  have hr:∀ j,j < t.sz->1<=F b (o+j):=λj hj=>by
   grind [bm]
  exact ⟨b,o,L,F1,h1,Y,λj u hu=>(hF _ _ (hr j (Y ▸ (List.getElem?_eq_some_iff.1 hu).1))).1 u (h3 j u hu),λj hj=>by grind,h5,
   ae.mono hA hc hb t h6 (λ_ _=>Nat.le_refl _) (λb i hp=>(hF b i (by grind)).1)⟩
 | ref r p snap=>exact gF.ed hp h
 | ptr r p snap=>exact pU.ed hp h
 | sub r p snap lo hi=>exact rK.ed hp h
 | gN xs=>
  obtain ⟨vs,Fi,h1,Y,h3⟩:=h
  refine ⟨vs,Fi,h1,Y,λj x hx=>?_⟩
  obtain ⟨v,h4,h5⟩:=h3 j x hx
  refine ⟨v,h4,h5.imp id λ⟨cs,h6,h7⟩=>⟨cs,h6,ae.mono hA hc hb x.t h7 (λ_ _=>Nat.le_refl _) (λb i hp=>(hF b i ?_).1)⟩⟩
  grind [aW]
end
end OT
set_option linter.unusedVariables false
set_option linter.unusedSimpArgs false
namespace OT
open Go
theorem nt {α:Type} (k:Nat) (x:α) (l:List (Nat×α)) (i:Nat):eG ((k,x)::l) i=if k=i then some x else eG l i:=by
 simp_all [eG]
theorem mh (σ:St) (d:Nat) (s:Slot) (i:Nat):(σ.put d s).get i=if d=i/\i < σ.n then s else σ.get i:=by
 grind [St.get,St.put,nt,Nat.blt_eq]
theorem sP (σ:St) (d:Nat) (s:Slot) (i:Nat):(σ.wF d s).get i=if d=i/\i < σ.n then s else σ.get i:=by
 grind [St.get,St.wF,nt,Nat.blt_eq]
theorem nR (σ:St) (d:Nat) (s:Slot) (i:Nat):(σ.put d s).da i=if d=i then hM (σ.da d) else σ.da i:=by
 grind [St.da,St.put,nt]
theorem gq (σ:St) (d:Nat) (f:List Nat->List Nat) (i:Nat):(σ.eb d f).da i=if d=i then f (σ.da d) else σ.da i:=by
 grind [St.da,St.eb,nt]
theorem nu {l:List (Nat×Nat×Bool)} {d:Nat} {e:Nat×Nat×Bool} (h:e ∈ nW l d):e ∈ l/\e.1≠d:=by
 induction l with
 | nil=>cases h
 | cons x l ih=>
  obtain ⟨k,b⟩:=x
  simp only[nW] at h
  split at h
  ·grind
  ·rename_i hk
   rcases List.mem_cons.1 h with rfl | h
   all_goals simp_all
theorem uM {l:List (Nat×Nat×Bool)} {d:Nat} {e:Nat×Nat×Bool} (h:e ∈ l) (hd:e.1≠d):e ∈ nW l d:=by
 induction l with
 | nil=>cases h
 | cons x l ih=>
  obtain ⟨k,b⟩:=x
  simp only[nW]
  rcases List.mem_cons.1 h with rfl | h
  ·simp_all
  grind
theorem B7 {l:List (Nat×Nat×Bool)} {d j k:Nat} (h:(j,k,false) ∈ l):(j,k,false) ∈ nX l d:=by
 induction l <;> grind [nX]
theorem uN {l:List (Nat×Nat×Bool)} {d:Nat} {e:Nat×Nat×Bool} (h:e ∈ nX l d):e ∈ l/\¬ (e.1=d/\e.2.2=true):=by
 induction l with
 | nil=>cases h
 | cons x l ih=>
  obtain ⟨k,n,b⟩:=x
  simp only[nX] at h
  split at h
  ·grind
  ·rename_i hk
   rcases List.mem_cons.1 h with rfl | h
   all_goals simp_all
theorem yL {l:List (Nat×Nat×Path×List Nat)} {d:Nat} {e:Nat×Nat×Path×List Nat} (h:e ∈ yo l d):e ∈ l/\e.1≠d:=by
 induction l with
 | nil=>cases h
 | cons x l ih=>
  obtain ⟨k,b⟩:=x
  simp only[yo] at h
  split at h
  ·grind
  ·rename_i hk
   rcases List.mem_cons.1 h with rfl | h
   all_goals simp_all
theorem iE (v:List Nat):Below v (hM v):=λj x hj=>⟨x+1,by simp[hM,hj],by omega⟩
theorem rL {v:List Nat} (h:v.length=5):∃ b x y z w,v=[b,x,y,z,w]:=by
 match v,h with
 | [b,x,y,z,w],_=>grind
theorem Du {b x y z w b' x' y' z' w':Nat} (h0:b<=b') (h1:x<=x') (Y:y<=y') (h3:z<=z') (h4:w<=w'):Below [b,x,y,z,w] [b',x',y',z',w']:=by
 intro j n hj
 grind
theorem jB (d:Nat) {v:List Nat} (h:v.length=5):Below v (je d v):=by
 obtain ⟨b,x,y,z,w,rfl⟩:=rL h
 match d with
 | 0 | 1 | 2 | n+3=>exact Du (by omega) (by omega) (by omega) (by omega) (by omega)
theorem mz {v:List Nat} (h:v.length=5):Below v (li v):=by
 obtain ⟨b,x,y,z,w,rfl⟩:=rL h
 exact Du (by omega) (by omega) (by omega) (by omega) (by omega)
theorem rM {v:List Nat}:(hM v).length=v.length:=by simp[hM]
theorem qw (d:Nat) {v:List Nat} (h:v.length=5):(je d v).length=5:=by
 obtain ⟨b,x,y,z,w,rfl⟩:=rL h
 match d with
 | 0 | 1 | 2 | n+3=>rfl
theorem rN {v:List Nat} (h:v.length=5):(li v).length=5:=by
 obtain ⟨b,x,y,z,w,rfl⟩:=rL h
 rfl
theorem uO {s v v':List Nat} (hs:Below s v) (hv:Below v v') (h:preB s v'=true) {j:Nat} (hj:v[j]?≠v'[j]?):s.length<=j:=by
 rcases Nat.lt_or_ge j s.length with h' | h'
 ·exact absurd ((sO hs hv h).2 j h') hj
 ·exact h'
theorem th {s v:List Nat} (hl:v.length=5) (hs:Below s v) (h:preB s (hM v)=true):s.length=0:=by
 obtain ⟨b,x,y,z,w,rfl⟩:=rL hl
 have:=uO hs (iE _) h (j:=0) (by simp[hM])
 omega
theorem rO {s v:List Nat} (d:Nat) (hl:v.length=5) (hs:Below s v) (h:preB s (je d v)=true):s.length<=min 4 (1+d):=by
 have h4:s.length<=4:=by
  refine uO hs (jB d hl) h ?_
  obtain ⟨b,x,y,z,w,rfl⟩:=rL hl
  match d with
  | 0 | 1 | 2 | n+3=>simp[je]
 have hd:s.length<=1+d:=by
  rcases Nat.lt_or_ge d 3 with hd | hd
  ·refine uO hs (jB d hl) h ?_
   obtain ⟨b,x,y,z,w,rfl⟩:=rL hl
   match d,hd with
   | 0,_ | 1,_ | 2,_=>simp[je]
  ·omega
 omega
theorem tT {s v:List Nat} (hl:v.length=5) (hs:Below s v) (h:preB s (li v)=true):s.length<=4:=by
 refine uO hs (mz hl) h ?_
 grind [rL,li]
section
variable {P:Program} {C:Ctx} {A A2:Cells} {X:FP} {σ:St} {a:Act} {w w2:World} {F:Nat->FP}
theorem eZ (a:Act) (d:Nat) (v:Value) (i:Nat):tmp (a.put (some d) v) i=if d=i/\i < a.tmps.size then v else tmp a i:=by
 simp only[tmp,Act.put,Array.getD_eq_getD_getElem?,Array.getElem?_setIfInBounds]
 grind
theorem lw {tv:Value} {s:Slot} {G:FP} {R:Pl} (h:aQ P A σ a w tv s G) (hR:ba w tv s=some R) :
  ∃ (m:Md) (v:R.t.den) (F1:FP),ae P w A R.t m R.H v R.cs F1/\(∀ b i,F1 b i<=G b i) /\
   (∀ b o,R.ad=some (b,o)->Has w b o R.cs/\(∀ x i,bm b o R.t.sz x i+F1 x i<=G x i)/\∀ j,j < R.t.sz->w.frozen? ⟨b,o+j,none⟩=false) /\
   ((∃ v',s=.own R.t m R.H v'/\HEq v v'/\R.ad=none)\/(∃ v',s=.box R.t m R.H v'/\HEq v v'/\R.ad.isSome=true)):=by
 cases s with
 | own t m H v=>
  simp only[ba,Option.some.injEq] at hR
  subst hR
  obtain ⟨cs,h1,Y⟩:=h
  refine ⟨m,v,G,?_,λ_ _=>Nat.le_refl _,(λb o h=>by cases h),.inl ⟨v,rfl,HEq.rfl,rfl⟩⟩
  grind [cV,ae.length,ae.one]
 | box t m H v=>
  obtain ⟨b,o,L,F1,h1,Y,h3,h4,h5,h6⟩:=h
  grind [ba,bq]
 | _=>simp[ba] at hR
theorem ly {tv:Value} {s:Slot} {G:FP} {R:Pl} (h:aQ P A σ a w tv s G) (hc:∀ b i,1<=G b i->∀ u,ce w b i=some u->ce w2 b i=some u)
  (hR:ba w tv s=some R):ba w2 tv s=some R:=by
 cases s with
 | own t m H v=>exact hR
 | box t m H v=>
  obtain ⟨b,o,L,F1,h1,Y,h3,h4,h5,h6⟩:=h
  subst h1
  simp only[ba,Option.some.injEq] at hR ⊢
  have:Has w2 b o L:=λj u hu=>hc _ _ (by
   grind [bm]) u (h3 j u hu)
  grind [bq]
 | _=>simp[ba] at hR
theorem ku {σ':St} {a':Act} {r:Nat} {p:Path} {G:FP} {pl:Pl} (h:aQ P A σ a w (tmp a r) (σ.get r) G) (hg:σ'.get r=σ.get r) (ht:tmp a' r=tmp a r)
  (hA:∀ b i,A b i->∀ u,ce w b i=some u->ce w2 b i=some u) (hc:∀ b i,1<=G b i->∀ u,ce w b i=some u->ce w2 b i=some u)
  (hp:place σ a w r p=some pl):place σ' a' w2 r p=some pl:=by
 unfold place at hp ⊢
 rw[hg,ht]
 cases hR:ba w (tmp a r) (σ.get r) <;> grind [ly,lw,kV]
theorem dN {σ:St} {i:Nat} (h:¬ i < σ.n):σ.get i=.dead:=by simp[St.get,h]
theorem iT {r:Nat} {p:Path} {pl:Pl} (h:place σ a w r p=some pl):r < σ.n:=by
 grind [place,dN,ba]
theorem Rel.put (h:Rel P C A X σ a w F) {d:Nat} (hd:d < σ.n) {s:Slot} {v:Value} {Fd X':FP} (hs:aQ P A σ a w v s Fd) (ht:∀ b i,X' b i+Fd b i<=X b i+F d b i)
  (Gq:∀ t m H v',s=.box t m H v'->∃ b,v=.pointer (some ⟨b,0,none⟩)/\cf w b (t.sz,false)) :
  Rel P C A X' (σ.put d s) (a.put (some d) v) w (bD F d Fd):=by
 have eN:=h.size
 have eH:mg σ a w (σ.put d s) (a.put (some d) v) w:=by
  intro r p snap hb
  rw[nR,St.ok,nR]
  by_cases hr:d=r
  ·subst hr
   simp only[if_true]
   refine ⟨hb.trans (iE _),λam=>?_⟩
   have h0:=th (h.dK d) hb am
   exact ⟨(sO hb (iE _) am).1,λhl=>by omega⟩
  ·simp only[if_neg hr]
   refine ⟨hb,λam=>⟨am,λhl pl cI=>⟨pl.H,pl.cs,?_,λ_=>rfl⟩⟩⟩
   exact ku (h.bX r (iT cI)) (by grind [mh]) (by grind [eZ]) (λ_ _ _ _ h=>h) (λ_ _ _ _ h=>h) cI
 have lz:∀ b i,X' b i+al σ.n (bD F d Fd) b i<=X b i+al σ.n F b i:=λb i=>by
  grind [iR]
 refine ⟨by simp[Act.put,eN,St.put],by simpa [Act.put] using h.defers,λi hi=>?_,?_,λb i=>Nat.le_trans (lz b i) (h.fA b i),λb i hp=>h.fW b i (Nat.le_trans hp (lz b i)),
  λb i hp=>h.cW b i (hp.imp (λhp=>Nat.le_trans hp (lz b i)) id),λi=>?_,h.ext,λb i hp=>h.own b i (Nat.le_trans hp (lz b i)),h.a0,h.J,?_,?_,?_,h.lu⟩
 ·have hi:i < σ.n:=hi
  rw[mh,eZ,eN]
  by_cases Gr:d=i
  ·subst Gr
   rw[if_pos ⟨rfl,hi⟩,if_pos ⟨rfl,hi⟩]
   simp only[bD,if_true]
   exact aQ.ed eH (λ_ _ h=>h) (λ_ _ _ _ h=>h) (λ_ _ h=>h) (λ_ _ _=>⟨λ_ h=>h,rfl⟩) hs
  ·rw[if_neg (λh=>Gr h.1),if_neg (λh=>Gr h.1)]
   simp only[bD,if_neg (λh:i=d=>Gr h.symm)]
   exact aQ.ed eH (λ_ _ h=>h) (λ_ _ _ _ h=>h) (λ_ _ h=>h) (λ_ _ _=>⟨λ_ h=>h,rfl⟩) (h.bX i hi)
 ·intro d' r p snap hm
  obtain ⟨hm,bG⟩:=yL hm
  rw[eZ,if_neg (λh=>bG h.1.symm)]
  exact gF.ed eH (h.gh d' r p snap hm)
 ·rw[nR]
  split
  ·rw[rM];exact h.dK d
  ·exact h.dK i
 ·intro j k hm
  obtain ⟨hm,bG⟩:=nu hm
  rw[eZ,if_neg (λh=>bG h.1.symm)]
  exact h.fe j k hm
 ·intro r t m H v' hg hl
  rw[mh] at hg
  rw[eZ,eN]
  by_cases uK:d=r/\r < σ.n
  ·grind
  ·rw[if_neg uK] at hg ⊢
   refine h.whole r t m H v' hg λk hm=>hl k (uM hm λe=>uK ⟨e.symm,?_⟩)
   grind
 ·intro j k hm R hR
  obtain ⟨hm,bG⟩:=nu hm
  rw[eZ,if_neg (λh=>bG h.1.symm),mh,if_neg (λh=>bG h.1.symm)] at hR
  exact h.eB j k hm R hR
theorem Rel.less (h:Rel P C A X σ a w F) {X':FP} (ht:∀ b i,X' b i<=X b i):Rel P C A X' σ a w F:=
 { h with
  fA:=λb i=>by have:=h.fA b i;grind
  fW:=λb i hp=>h.fW b i (by grind)
  cW:=λb i hp=>h.cW b i (hp.imp (λhp=>by grind) id)
  own:=λb i hp=>h.own b i (by grind) }
theorem Ext.refl (w:World) (F:FP):Ext w w F:=⟨Nat.le_refl _,λ_ _ _ _ _ h=>h,λ_ _ h=>h,λ_ _ _=>rfl,rfl,rfl,rfl,λ_ _ _=>rfl,Nat.le_refl _⟩
theorem Ext.mono {F F':FP} (h:Ext w w2 F) (hF:∀ b i,F' b i=0->F b i=0):Ext w w2 F':={ h with cell:=λb i hb hz=>h.cell b i hb (hF b i hz),obj:=λb hb hz=>h.obj b hb λi=>hF b i (hz i) }
theorem Ext.trans {w3:World} {F G:FP} (h:Ext w w2 F) (Y:Ext w2 w3 G) (hG:∀ b i,b < w.heap.size->F b i=0->G b i=0):Ext w w3 F:=
 ⟨Nat.le_trans h.size Y.size,λb i hb hz u hu=>Y.cell b i (Nat.lt_of_lt_of_le hb h.size) (hG b i hb hz) u (h.cell b i hb hz u hu),λb n hn=>Y.l_ b n (h.l_ b n hn),
  λb i hb=>(Y.ne b i (Nat.lt_of_lt_of_le hb h.size)).trans (h.ne b i hb),Y.os.trans h.os,Y.tape.trans h.tape,Y.output.trans h.output,
  λb hb hz=>(Y.obj b (Nat.lt_of_lt_of_le hb h.size) λi=>hG b i hb (hz i)).trans (h.obj b hb hz),Nat.le_trans h.drawn Y.drawn⟩
theorem Rel.ME (h:Rel P C A X σ a w F) {r:Nat} (hr:r < σ.n) {σ':St} (hn:σ'.n=σ.n) (mm:∀ i,i≠r->σ'.get i=σ.get i) (IB:∀ i,i≠r->σ'.da i=σ.da i)
  (KS:Below (σ.da r) (σ'.da r)) (Dv:(σ'.da r).length=5) (qx:∀ e,e ∈ σ'.ax->e ∈ σ.ax) (IC:∀ j k,(j,k,false) ∈ σ.ax->(j,k,false) ∈ σ'.ax) (Gs:∀ e,e ∈ σ'.gh->e ∈ σ.gh)
  {X2 Dw:FP} {R:Pl} {H2:List Path} {a_:List Value} (hs:aQ P A2 σ' a w2 (tmp a r) (σ'.get r) Dw) (hR:ba w (tmp a r) (σ.get r)=some R)
  (KU:ba w2 (tmp a r) (σ'.get r)=some ⟨R.t,H2,a_,R.ad⟩)
  (bh:∀ (p:Path) (snap:List Nat),Below snap (σ.da r)->σ'.ok r snap=true->(snap.length=min 5 (1+bc p)\/snap.length=min 5 (2+bc p)\/snap.length=5) ->
   ∃ D full,bc p<=D/\(snap.length=min 5 (2+bc p)->bc p < D\/full)/\(snap.length=5->full)/\gS D full w R.t R.H R.cs R.ad w2 H2 a_)
  (hA:∀ b i,A b i->A2 b i) (ID:∀ b i,A2 b i->A b i\/(1<=X b i+F r b i/\X2 b i+Dw b i=0))
  (hx:∀ b i,X2 b i+Dw b i<=X b i+F r b i) (hw:Ext w w2 λb i=>X b i+F r b i) (IE:∀ t m H v,σ'.get r=.box t m H v->∃ m0 H0 v0,σ.get r=.box t m0 H0 v0) (om:∀ k,(r,k,true) ∈ σ'.ax->a_=R.cs) :
  Rel P C A2 X2 σ' a w2 (bD F r Dw):=by
 have hle:∀ b i,X b i+F r b i<=X b i+al σ.n F b i:=λb i=>by grind [aW]
 have iC:∀ b i,A b i->∀ u,ce w b i=some u->ce w2 b i=some u:=λb i ha u hu=>by
  refine hw.cell b i (h.cW b i (.inr ha)) ?_ u hu
  rcases Nat.eq_zero_or_pos (X b i+F r b i) with h0 | h0
  ·exact h0
  ·exact absurd ha (h.fW b i (Nat.le_trans h0 (hle b i)))
 have rP:∀ j,j < σ.n->j≠r->∀ b i,1<=F j b i->(∀ u,ce w b i=some u->ce w2 b i=some u)/\w2.frozen? ⟨b,i,none⟩=w.frozen? ⟨b,i,none⟩:=λj hj Dx b i hp=>by
  have h1:=iS F hj hr Dx b i
  have Y:=h.fA b i
  have hb:=h.cW b i (.inl (by grind))
  exact ⟨λu hu=>hw.cell b i hb (by grind) u hu,hw.ne b i hb⟩
 have eH:mg σ a w σ' a w2:=by
  intro r' p snap hb
  by_cases wM:r'=r
  ·subst wM
   refine ⟨hb.trans KS,λam=>?_⟩
   refine ⟨(sO hb KS am).1,λhl pl cI=>?_⟩
   obtain ⟨D,full,h1,Y,h3,h4⟩:=bh p snap hb am hl
   unfold place at cI ⊢
   rw[hR] at cI
   rw[KU]
   obtain ⟨H',aC,h5,h6⟩:=h4 p pl h1 cI
   grind
  ·rw[St.ok,IB r' wM]
   refine ⟨hb,λam=>⟨am,λhl pl cI=>⟨pl.H,pl.cs,?_,λ_=>rfl⟩⟩⟩
   have aH:=iT cI
   exact ku (h.bX r' aH) (mm r' wM) rfl iC (λb i hp=>(rP r' aH wM b i hp).1) cI
 have lz:∀ b i,X2 b i+al σ.n (bD F r Dw) b i<=X b i+al σ.n F b i:=λb i=>by
  grind [iR]
 refine ⟨by rw[hn];exact h.size,h.defers,λi hi=>?_,λd r' p snap hm=>gF.ed eH (h.gh d r' p snap (Gs _ hm)),λb i=>by rw[hn];exact Nat.le_trans (lz b i) (h.fA b i),λb i hp ha=>?_,
  λb i hp=>?_,λi=>?_,h.ext.trans hw λb i hb hz=>?_,λb i hp=>by rw[hn] at hp;exact h.own b i (Nat.le_trans hp (lz b i)),λb i ha=>hA b i (h.a0 b i ha),λb i ha=>?_,
  λj k hm=>h.fe j k (qx _ hm),λr' t m H v hg hl=>?_,λj k hm R' fB=>?_,h.lu⟩
 ·rw[hn] at hi
  by_cases A9:i=r
  ·grind [bD]
  ·simp only[bD,if_neg A9]
   rw[mm i A9]
   exact aQ.ed eH hA iC hw.l_ (rP i hi A9) (h.bX i hi)
 ·rw[hn] at hp
  rcases ID b i ha with ha | ⟨h1,Y⟩
  ·exact h.fW b i (Nat.le_trans hp (lz b i)) ha
  ·have h3:=h.fA b i
   grind [iR]
 ·rw[hn] at hp
  refine Nat.lt_of_lt_of_le (h.cW b i ?_) hw.size
  grind
 ·by_cases A9:i=r
  ·grind
  ·rw[IB i A9];exact h.dK i
 ·rcases Nat.eq_zero_or_pos (X b i+F r b i) with h0 | h0
  ·exact h0
  ·have:=h.own b i (Nat.le_trans h0 (hle b i));omega
 ·rcases ID b i ha with ha | ⟨h1,_⟩
  ·exact h.J b i ha
  ·exact .inr (h.own b i (Nat.le_trans h1 (hle b i)))
 ·have:∃ m0 H0 v0,σ.get r'=.box t m0 H0 v0:=by
   grind
  obtain ⟨m0,H0,v0,IF⟩:=this
  obtain ⟨b,h1,Y⟩:=h.whole r' t m0 H0 v0 IF λk hm=>hl k (IC _ _ hm)
  exact ⟨b,h1,hw.l_ _ _ Y⟩
 ·by_cases Dx:j=r
  ·subst Dx
   rw[KU] at fB
   injection fB with fB
   subst fB
   show aY R.t a_=_
   rw[om k hm]
   exact h.eB j k (qx _ hm) R hR
  ·rcases Nat.lt_or_ge j σ.n with hj | hj
   ·rw[mm j Dx] at fB
    have gP:=h.bX j hj
    cases nn:ba w (tmp a j) (σ.get j) with
    | none=>exfalso;cases hg:σ.get j <;> rw[hg] at nn fB <;> simp only[ba] at nn fB <;> first | grind | grind | grind
    | some R0=>
     rw[ly gP (λb i hp=>(rP j hj Dx b i hp).1) nn] at fB
     injection fB with fB
     subst fB
     exact h.eB j k (qx _ hm) _ nn
   ·rw[dN (by rw[hn];omega)] at fB;cases fB
end
end OT
set_option linter.unusedVariables false
set_option linter.unusedSimpArgs false
namespace OT
open Go
def dc (ad:Option (Nat×Nat)) (n:Nat):FP:=λb i=>match ad with
 | some (b',o)=>bm b' o n b i
 | none=>0
section
variable {P:Program} {C:Ctx} {A:Cells} {X:FP} {σ:St} {a:Act} {w:World} {F:Nat->FP} {R:Type} {x:R}
theorem uP {r:Nat} {K:(t:Ty)->Md->List Path->t.den->Option R} (h:lj σ r K=some x) :
  r < σ.n/\∃ t m H v,(σ.get r=.own t m H v\/σ.get r=.box t m H v)/\K t m H v=some x:=by
 grind [lj,dN]
structure IG (P:Program) (A:Cells) (σ:St) (a:Act) (w:World) (r:Nat) (G:FP) (t:Ty) (m:Md) (H:List Path) (v:t.den) (cs:List Value) (ad:Option (Nat×Nat)) (F1:FP):Prop where
 root:ba w (tmp a r) (σ.get r)=some ⟨t,H,cs,ad⟩
 rep:ae P w A t m H v cs F1
 le:∀ b i,dc ad t.sz b i+F1 b i<=G b i
 has:∀ b o,ad=some (b,o)->Has w b o cs
 ne:∀ b o,ad=some (b,o)->∀ j,j < t.sz->w.frozen? ⟨b,o+j,none⟩=false
 val:ad=none->tmp a r=aY t cs/\σ.get r=.own t m H v
 ptr:∀ b o,ad=some (b,o)->tmp a r=.pointer (some ⟨b,o,none⟩)/\σ.get r=.box t m H v
theorem aQ.root {r:Nat} {G:FP} (h:aQ P A σ a w (tmp a r) (σ.get r) G) {t:Ty} {m:Md} {H:List Path} {v:t.den} (hg:σ.get r=.own t m H v\/σ.get r=.box t m H v) :
  ∃ cs ad F1,IG P A σ a w r G t m H v cs ad F1:=by
 rcases hg with hg | hg
 ·rw[hg] at h
  obtain ⟨cs,h1,Y⟩:=h
  refine ⟨cs,none,G,by grind [ba,cV,ae.length,ae.one],Y,λb i=>by simp[dc],(λb o h=>by cases h),(λb o h=>by cases h),λ_=>⟨h1,hg⟩,(λb o h=>by cases h)⟩
 ·rw[hg] at h
  obtain ⟨b,o,L,F1,h1,Y,h3,h4,h5,h6⟩:=h
  refine ⟨L,some (b,o),F1,by grind [ba,bq],h6,λb i=>h5 b i,?_,?_,(λh=>by cases h),?_⟩
  all_goals grind
theorem du (h:Rel P C A X σ a w F) {r:Nat} {p:Path} {K:(t:Ty)->Md->List Path->t.den->Option R} (hk:fG σ r p K=some x) :
  r < σ.n/\∃ (t':Ty) (m':Md) (H':List Path) (v':t'.den) (aC:List Value) (aS:Option (Nat×Nat)) (F':FP),K t' m' H' v'=some x/\(∀ {S:Type} (K0:(t:Ty)->Md->List Path->t.den->Option S),fG σ r p K0=K0 t' m' H' v')/\place σ a w r p=some ⟨t',H',aC,aS⟩/\ae P w A t' m' H' v' aC F' /\
   (∀ b i,F' b i<=F r b i)/\(∀ b o,aS=some (b,o)->Has w b o aC):=by
 obtain ⟨hr,t,m,H,v,hg,hk⟩:=uP hk
 obtain ⟨cs,ad,F1,RO⟩:=(h.bX r hr).root hg
 obtain ⟨t',m',H',v',aC,aS,F',h1,hn,Y,h3,h4,h5,_⟩:=It p t hk RO.rep (ad:=ad) RO.has
 refine ⟨hr,t',m',H',v',aC,aS,F',h1,λK0=>?_,?_,h3,λb i=>by have:=h4 b i;have:=RO.le b i;omega,h5⟩
 ·grind [fG,lj]
 unfold place
 rw[RO.root];exact Y
theorem mA (r:Nat) (t:Ty) (m:Md) (H:List Path) (v:t.den) (i:Nat) (h:i≠r):(σ.cP r t m H v).get i=σ.get i:=by
 grind [St.cP,sP]
theorem lA {r:Nat} (hr:r < σ.n) {t t0:Ty} {m m0:Md} {H H0:List Path} {v0:t0.den} (v:t.den) (h:σ.get r=.own t0 m0 H0 v0):(σ.cP r t m H v).get r=.own t m H v:=by
 grind [St.cP,sP]
theorem lB {r:Nat} (hr:r < σ.n) {t t0:Ty} {m m0:Md} {H H0:List Path} {v0:t0.den} (v:t.den) (h:σ.get r=.box t0 m0 H0 v0):(σ.cP r t m H v).get r=.box t m H v:=by
 grind [St.cP,sP]
theorem jC (r:Nat) (t:Ty) (m:Md) (H:List Path) (v:t.den):(σ.cP r t m H v).n=σ.n:=by unfold St.cP;split <;> rfl
theorem gx (r:Nat) (t:Ty) (m:Md) (H:List Path) (v:t.den) (i:Nat):(σ.cP r t m H v).da i=σ.da i:=by unfold St.cP;split <;> rfl
theorem lC (r:Nat) (t:Ty) (m:Md) (H:List Path) (v:t.den):(σ.cP r t m H v).ax=σ.ax:=by unfold St.cP;split <;> rfl
theorem qy (r:Nat) (t:Ty) (m:Md) (H:List Path) (v:t.den):(σ.cP r t m H v).gh=σ.gh:=by unfold St.cP;split <;> rfl
def gr (σ σ':St):Prop:=∀ (w:World) (tv:Value) (i:Nat) (R:Pl),ba w tv (σ'.get i)=some R->∃ H,ba w tv (σ.get i)=some ⟨R.t,H,R.cs,R.ad⟩
theorem gr.refl (σ:St):gr σ σ:=λw tv i R h=>⟨R.H,h⟩
theorem gr.trans {σ σ' mn:St} (h:gr σ σ') (h':gr σ' mn):gr σ mn:=by
 intro w tv i R0 hR
 obtain ⟨H,h1⟩:=h' w tv i R0 hR
 exact h w tv i ⟨R0.t,H,R0.cs,R0.ad⟩ h1
theorem nf {r:Nat} (hr:r < σ.n) {t:Ty} {m m0:Md} {H H0:List Path} {v0:t.den} (v:t.den) (h:σ.get r=.own t m0 H0 v0\/σ.get r=.box t m0 H0 v0) {σ':St} (hg:∀ i,σ'.get i=(σ.cP r t m H v).get i):gr σ σ':=by
 intro w tv i R hR
 rw[hg] at hR
 by_cases hi:i=r
 ·subst hi
  rcases h with h | h
  ·grind [lA,ba]
  ·rw[lB hr v h] at hR
   rw[h]
   simp only[ba] at hR ⊢
   grind
 ·rw[mA r t m H v i hi] at hR
  exact ⟨R.H,hR⟩
structure EY (σ:St) (r:Nat) (s:Slot) (IH:Prop) (σ':St):Prop where
 n:σ'.n=σ.n
 get:∀ i,i≠r->σ'.get i=σ.get i
 root:σ'.get r=s
 da:∀ i,i≠r->σ'.da i=σ.da i
 below:Below (σ.da r) (σ'.da r)
 dK:(σ'.da r).length=5
 ax:∀ e,e ∈ σ'.ax->e ∈ σ.ax
 Gt:∀ j k,(j,k,false) ∈ σ.ax->(j,k,false) ∈ σ'.ax
 gh:∀ e,e ∈ σ'.gh->e ∈ σ.gh
 head:∀ k,(r,k,true) ∈ σ'.ax->IH
theorem Rel.wc (h:Rel P C A X σ a w F) {r:Nat} {p:Path} {f:(t':Ty)->Md->List Path->t'.den->(Md->List Path->t'.den->Option R)->Option R}
  {Kf:(t:Ty)->Md->List Path->t.den->Option R} (hk:lj σ r (λt0 m0 H0 v0=>gC p t0 m0 H0 v0 f λm' H' v'=>Kf t0 m' H' v')=some x) :
  r < σ.n/\∃ (t':Ty) (m':Md) (H':List Path) (v':t'.den) (aC:List Value) (aS:Option (Nat×Nat)) (F':FP) (kk:Md->List Path->t'.den->Option R),
   f t' m' H' v' kk=some x/\(∀ {S:Type} (K0:(t:Ty)->Md->List Path->t.den->Option S),fG σ r p K0=K0 t' m' H' v')/\place σ a w r p=some ⟨t',H',aC,aS⟩/\ae P w A t' m' H' v' aC F' /\
   (∀ b i,dc aS t'.sz b i+F' b i<=F r b i)/\(∀ b o,aS=some (b,o)->Has w b o aC)/\(∀ b o,aS=some (b,o)->∀ j,j < t'.sz->w.frozen? ⟨b,o+j,none⟩=false) /\
   ∀ m2 H2 (v2:t'.den),kk m2 H2 v2=some x->∀ (w2:World) (A2:Cells) (a_:List Value) (F2 X2:FP),
    Ext w w2 (λb i=>X b i+(F' b i+dc aS t'.sz b i))->(∀ b i,A b i->A2 b i)->(∀ b i,A2 b i->A b i\/(1<=X b i+F' b i/\X2 b i+F2 b i=0)) ->
    (∀ b i,X2 b i+F2 b i<=X b i+F' b i)->(∀ b o,aS=some (b,o)->Has w2 b o a_)->(aS=none->a_=aC)->ae P w2 A2 t' m2 H2 v2 a_ F2 ->
    ∃ (t0:Ty) (m3:Md) (H3:List Path) (v3:t0.den) (Fr:FP) (A3:Cells),Kf t0 m3 H3 v3=some x/\(∃ (m0:Md) (H0:List Path) (v0:t0.den),σ.get r=.own t0 m0 H0 v0\/σ.get r=.box t0 m0 H0 v0)/\(∀ b i,A2 b i->A3 b i)/\(∀ b i,Fr b i<=F r b i+X b i) /\
     ∀ σ',EY σ r ((σ.cP r t0 m3 H3 v3).get r) (1<=bc p\/a_=aC) σ' ->
      (∀ (p':Path) (snap:List Nat),Below snap (σ.da r)->σ'.ok r snap=true->(snap.length=min 5 (1+bc p')\/snap.length=min 5 (2+bc p')\/snap.length=5) ->
       ∃ D full,bc p'<=D+bc p/\(snap.length=min 5 (2+bc p')->bc p' < D+bc p\/full)/\(snap.length=5->full)/\gS D full w t' H' aC aS w2 H2 a_) ->
      Rel P C A3 X2 σ' a w2 (bD F r Fr):=by
 obtain ⟨hr,t,m,H,v,hg,hk⟩:=uP hk
 obtain ⟨cs,ad,F1,RO⟩:=(h.bX r hr).root hg
 have tj:∀ b i,X b i+F r b i<=1:=λb i=>by have:=h.fA b i;grind [aW]
 have tP:∀ b o,ad=some (b,o)->∀ j,j < t.sz->F1 b (o+j)=0:=λb o e j hj=>by
  have h1:=RO.le b (o+j);grind [dc,bm]
 obtain ⟨t',m',H',v',aC,aS,F',G,kk,loc,M⟩:=Iu p t hk RO.rep (λb i=>by have:=tj b i;have:=RO.le b i;omega) RO.has tP
 have hlen:=ae.length t RO.rep
 have yM:∀ b i,dc aS t'.sz b i+F' b i<=F r b i/\(1<=dc aS t'.sz b i->1<=G b i\/1<=dc ad t.sz b i)/\dc aS t'.sz b i<=1:=λb i=>by
  have h1:=M.sum b i;have Y:=RO.le b i;have h3:=tj b i
  cases cR:aS with
  | none=>grind [dc]
  | some bo=>
   obtain ⟨b0,o0⟩:=bo
   simp only[dc,bm]
   split
   ·rename_i dy
    obtain ⟨rfl,On,Oo⟩:=dy
    cases loc with
    | none=>
     obtain ⟨b',o',e1,e2⟩:=M.out rfl
     rw[cR] at e1
     simp only[Option.some.injEq,Prod.mk.injEq] at e1
     obtain ⟨rfl,rfl⟩:=e1
     have:=(e2 (i - o0) (by omega)).1
     grind
    | some off=>
     obtain ⟨e1,e2,e3⟩:=M.ji off rfl
     grind [bR,bm,dc]
   ·omega
 refine ⟨hr,t',m',H',v',aC,aS,F',kk,M.run,λK0=>?_,by unfold place;rw[RO.root];exact M.place,M.rep,λb i=>(yM b i).1,M.has,λb o e j hj=>?_,?_⟩
 ·unfold fG lj
  rcases hg with hg | hg <;> rw[hg] <;> exact M.Dq K0
 ·cases loc with
  | none=>
   obtain ⟨b',o',e1,e2⟩:=M.out rfl
   grind
  | some off=>
   obtain ⟨e1,e2,e3⟩:=M.ji off rfl
   cases oo:ad with
   | none=>rw[e,oo] at e3;cases e3
   | some y=>
    rw[e,oo] at e3
    simp only[bR,Option.map_some,Option.some.injEq,Prod.mk.injEq] at e3
    obtain ⟨rfl,rfl⟩:=e3
    have:=RO.ne y.1 y.2 oo (off+j) (by omega)
    grind
 intro m2 H2 v2 A_ w2 A2 a_ F2 X2 bO hA ID hX rQ B5 sQ
 have mN:=ae.length t' sQ
 have iC:∀ b i,A b i->∀ u,ce w b i=some u->ce w2 b i=some u:=λb i ha u hu=>by
  refine bO.cell b i (h.cW b i (.inr ha)) ?_ u hu
  have h1:=(yM b i).1
  have Y:=aW F hr b i
  have h3:=h.fW b i
  grind
 have KV:∀ b i,1<=G b i\/1<=dc ad t.sz b i->(∀ o,aS=some (b,o)->¬ (o<=i/\i < o+t'.sz))->∀ u,ce w b i=some u->ce w2 b i=some u:=λb i hp hn u hu=>by
  have h1:=yM b i;have Y:=tj b i;have h3:=M.sum b i;have h4:=RO.le b i
  refine bO.cell b i (h.cW b i (.inl (by grind [aW]))) ?_ u hu
  show X b i+(F' b i+dc aS t'.sz b i)=0
  have h5:dc aS t'.sz b i=0:=by
   cases cR:aS <;> grind [dc,bm]
  omega
 have Ke:∀ b i,F2 b i+G b i<=1:=λb i=>by
  have:=hX b i;have:=M.sum b i;have:=RO.le b i;grind
 obtain ⟨m3,H3,v3,F3,k1,k2,k3,k4⟩:=M.back m2 H2 v2 A_ w2 A2 a_ F2 bO.l_ hA iC (λb i hp hn=>KV b i (.inl hp) hn) rQ sQ Ke
 have II:(dn loc cs t'.sz a_).length=t.sz:=by
  cases loc with
  | none=>exact hlen
  | some off=>have:=(M.ji off rfl).1;grind [dn,jT]
 have nr:a_=aC->dn loc cs t'.sz a_=cs:=λe=>by
  cases loc with
  | none=>rfl
  | some off=>
   obtain ⟨e1,e2,_⟩:=M.ji off rfl
   rw[e,e2];exact og (by omega)
 have B8:∀ b o,ad=some (b,o)->Has w2 b o (dn loc cs t'.sz a_):=λb o e=>by
  have cells:∀ j u,cs[j]?=some u->(∀ o',aS=some (b,o')->¬ (o'<=o+j/\o+j < o'+t'.sz))->ce w2 b (o+j)=some u:=λj u hu hn=>by
   have hj:j < t.sz:=hlen ▸ (List.getElem?_eq_some_iff.1 hu).1
   exact KV b (o+j) (.inr (by grind [dc,bm])) hn u (RO.has b o e j u hu)
  cases yN:loc with
  | none=>
   intro j u hu
   refine cells j u hu λo' he dy=>?_
   have hj:j < t.sz:=hlen ▸ (List.getElem?_eq_some_iff.1 hu).1
   obtain ⟨b',OE,e1,e2⟩:=M.out yN
   rw[he] at e1
   simp only[Option.some.injEq,Prod.mk.injEq] at e1
   obtain ⟨rfl,rfl⟩:=e1
   have h1:=(e2 (o+j - o') (by omega)).1
   rw[show o'+(o+j - o')=o+j by omega] at h1
   have Y:=RO.le b (o+j);have h3:=tj b (o+j);have h4:=M.sum b (o+j)
   grind
  | some off=>
   obtain ⟨e1,e2,e3⟩:=M.ji off yN
   rw[e] at e3
   simp only[bR,Option.map_some] at e3
   exact A5 (by omega) mN (rQ b (o+off) e3) (λj u hu hn=>cells j u hu λo' he dy=>by
    grind)
 refine ⟨t,m3,H3,v3,λb i=>dc ad t.sz b i+F3 b i,λb i=>A2 b i\/(1<=F2 b i+G b i/\F3 b i=0),k1,⟨m,H,v,hg⟩,λ_ _ h=>.inl h,λb i=>?_,λσ' on bh=>?_⟩
 ·have h1:=k2 b i;have Y:=hX b i;have h3:=M.sum b i;have h4:=RO.le b i
  grind
 have B9:=k3 (λb i=>A2 b i\/(1<=F2 b i+G b i/\F3 b i=0)) (λ_ _ h=>.inl h) (λb i h1 Y=>.inr ⟨h1,Y⟩)
 have x_:aQ P (λb i=>A2 b i\/(1<=F2 b i+G b i/\F3 b i=0)) σ' a w2 (tmp a r) (σ'.get r) (λb i=>dc ad t.sz b i+F3 b i)/\ba w2 (tmp a r) (σ'.get r)=some ⟨t,H3,dn loc cs t'.sz a_,ad⟩:=by
  rw[on.root]
  cases oo:ad with
  | none=>
   obtain ⟨e1,e2⟩:=RO.val oo
   have e3:dn loc cs t'.sz a_=cs:=by
    cases yN:loc with
    | none=>rfl
    | some off=>
     have:=(M.ji off yN).2.2
     rw[oo] at this
     rw[<-yN];exact nr (B5 this)
   rw[lA hr v3 e2]
   rw[e3] at B9 ⊢
   exact ⟨⟨cs,e1,ae.le B9 (λb i=>by grind)⟩,by grind [ba,cV,ae.one]⟩
  | some bo=>
   obtain ⟨b,o⟩:=bo
   obtain ⟨e1,e2⟩:=RO.ptr b o oo
   rw[lB hr v3 e2,e1]
   have hh:=B8 b o oo
   refine ⟨⟨b,o,_,F3,rfl,II,hh,λj hj=>?_,λb' i=>?_,B9⟩,by grind [ba,bq]⟩
   ·have hb:b < w.heap.size:=h.cW b (o+j) (.inl (by
     have h1:=RO.le b (o+j);grind [aW,dc,bm]))
    rw[bO.ne b (o+j) hb]
    exact RO.ne b o oo j hj
   ·exact Nat.le_refl _
 refine h.ME hr on.n on.get on.da on.below on.dK on.ax on.Gt on.gh x_.1 RO.root x_.2 (λp' snap h1 Y h3=>?_) (λb i ha=>.inl (hA b i ha)) (λb i ha=>?_) (λb i=>?_) (bO.mono λb i hz=>?_) (λt5 m5 H5 v5 MF=>?_) (λk hm=>?_)
 ·grind
 ·have h1:=hX b i;have Y:=k2 b i;have h3:=M.sum b i;have h4:=RO.le b i;grind
 ·have h1:=hX b i;have Y:=k2 b i;have h3:=M.sum b i;have h4:=RO.le b i
  grind
 ·grind
 ·rw[on.root] at MF
  grind [lA,lB]
 ·rcases on.head k hm with hp | he
  ·rw[M.B4 hp];rfl
  grind
end
end OT
set_option linter.unusedVariables false
set_option linter.unusedSimpArgs false
namespace OT
open Go
theorem ae.Gu {P:Program} {w:World} {A:Cells}:∀ (t:Ty) {m:Md} {H:List Path} {v:t.den} {cs:List Value} {F:FP},ae P w A t m H v cs F->ae P w A t m (jp t) v cs (λ_ _=>0):=by
 intro t
 induction t with
 | pair a b d_ dT=>
  intro m H v cs F h
  obtain ⟨_,F1,F2,hs,h1,Y⟩:=h
  refine ⟨by grind [jp,hY,gD],λ_ _=>0,λ_ _=>0,λ_ _=>Nat.le_refl _,?_,?_⟩
  all_goals grind [jp,jg,jz,jA,jh]
 | af e ih=>
  intro m H v cs F h
  have h1:=ae.length _ h
  have Y:=ae.one _ h
  match cs,h1 with
  | [y],_=>grind [ae,jp,hole]
 | ptr e ih=>
  intro m H v cs F h
  have h1:=ae.length _ h
  have Y:=ae.one _ h
  match cs,h1 with
  | [y],_=>grind [ae,jp,hole]
 | arr n e ih=>intro m H v cs F h;rw[jp,h.2.1];obtain ⟨rfl,h⟩:=h;exact ⟨rfl,h⟩
 | map k v=>
  intro m H v cs F h
  have h1:=ae.length _ h
  have Y:=ae.one _ h
  match cs,h1 with
  | [y],_=>grind [ae,jp,hole]
 | _=>intro m H v cs F h;exact h
section
variable {P:Program} {C:Ctx} {A:Cells} {X:FP} {σ:St} {a:Act} {w:World} {F:Nat->FP} {R:Type} {x:R}
structure At (σ:St) (r:Nat) (p:Path) (t:Ty) (m:Md) (H:List Path) (v:t.den):Prop where
 eq:∀ {S:Type} (K0:(t:Ty)->Md->List Path->t.den->Option S),fG σ r p K0=K0 t m H v
theorem At.inj {r:Nat} {p:Path} {t t':Ty} {m m':Md} {H H':List Path} {v:t.den} {v':t'.den} (h:At σ r p t m H v) (h':At σ r p t' m' H' v'):t=t'/\m=m'/\H=H'/\HEq v v':=by
 have h1:=h.eq (λt m H v=>some (⟨t,m,H,v⟩:(t:Ty)×Md×List Path×t.den))
 rw[h'.eq] at h1
 grind
theorem uQ (σ:St) (r d:Nat):(σ.head r d).n=σ.n:=by unfold St.head;split <;> rfl
theorem oq (σ:St) (r d i:Nat):(σ.head r d).get i=σ.get i:=by unfold St.head;split <;> rfl
theorem ot (σ:St) (r d i:Nat):(σ.head r d).da i=σ.da i:=by unfold St.head;split <;> rfl
theorem Ba (σ:St) (r d:Nat):(σ.head r d).gh=σ.gh:=by unfold St.head;split <;> rfl
theorem yO {r d:Nat} {f:List Nat->List Nat} (h1:Below (σ.da r) (f (σ.da r))) (Y:(f (σ.da r)).length=5) {t:Ty} {m:Md} {H:List Path} {v:t.den} {q:Prop} (hq:1<=d->q) :
  EY σ r ((σ.cP r t m H v).get r) q (((σ.cP r t m H v).eb r f).head r d) where
 n:=by rw[uQ];exact jC r t m H v
 get i hi:=by rw[oq];exact mA r t m H v i hi
 root:=by rw[oq];rfl
 da i hi:=by grind [ot,gq,gx]
 below:=by grind [ot,gq,gx]
 dK:=by grind [ot,gq,gx]
 ax e he:=by
  unfold St.head at he
  grind [uN,St.eb,lC]
 Gt j k hm:=by
  unfold St.head
  grind [B7,St.eb,lC]
 gh e he:=by grind [Ba,St.eb,qy]
 head k hm:=by
  unfold St.head at hm
  split at hm
  ·exact absurd ⟨rfl,rfl⟩ (uN hm).2
  grind
theorem yP (h:Rel P C A X σ a w F) {r:Nat} {p:Path} {K:St->Option R} (hk:nq σ r p K=some x) {t':Ty} {m':Md} {H':List Path} {v':t'.den} (hn:At σ r p t' m' H' v') :
  ∃ (A':Cells) (σ':St) (F':Nat->FP) (cs:List Value) (ad:Option (Nat×Nat)) (Fv:FP),K σ'=some x/\(∀ b i,A b i->A' b i)/\Rel P C A' (λb i=>X b i+Fv b i) σ' a w F'/\σ'.n=σ.n/\gr σ σ' /\
   place σ a w r p=some ⟨t',H',cs,ad⟩/\ae P w A t' m' H' v' cs Fv/\∀ b i,Fv b i<=F r b i:=by
 obtain ⟨hr,t1,m1,H1,v1,cs,ad,Fv,kk,h1,Y,h3,h4,h5,h6,h7,h8⟩:=h.wc hk
 obtain ⟨e1,e2,e3,e4⟩:=hn.inj ⟨Y⟩
 subst e1;subst e2;subst e3
 have e4:=eq_of_heq e4
 subst e4
 obtain ⟨t0,m3,H3,v3,Fr,A3,k1,⟨m0,H0,v0,k0⟩,k2,k3,k4⟩:=h8 _ _ _ h1 w A cs (λ_ _=>0) (λb i=>X b i+Fv b i) (Ext.refl _ _) (λ_ _ h=>h) (λ_ _ h=>.inl h) (λb i=>Nat.le_refl _) h6 (λ_=>rfl) (ae.Gu _ h4)
 refine ⟨A3,_,_,cs,ad,Fv,k1,k2,k4 _ (yO (jB _ (h.dK r)) (qw _ (h.dK r)) .inl) (λp' snap hb am hl=>?_),?_,nf hr v3 k0 (λi=>by rw[oq];rfl),h3,h4,λb i=>by grind⟩
 ·refine ⟨0,False,?_,?_,?_,gS.zero (A:=A) ad (ae.Gu _ h4)⟩
  all_goals
   unfold St.ok at am
   rw[ot,gq,if_pos rfl,gx] at am
   have:=rO (bc p) (h.dK r) hb am
  all_goals omega
 ·rw[uQ];exact jC _ _ _ _ _
theorem wd (h:Rel P C A X σ a w F) {r:Nat} {p:Path} {K:St->Option R} (hk:nq σ r p K=some x) {t':Ty} {m':Md} {v':t'.den} (hn:At σ r p t' m' [] v') :
  ∃ (A':Cells) (σ':St) (F':Nat->FP) (cs:List Value) (ad:Option (Nat×Nat)) (Fv:FP),K σ'=some x/\(∀ b i,A b i->A' b i)/\Rel P C A' (λb i=>X b i+Fv b i) σ' a w F'/\σ'.n=σ.n/\gr σ σ' /\
   place σ a w r p=some ⟨t',[],cs,ad⟩/\ae P w A t' m' [] v' cs Fv:=
 have ⟨A',σ',F',cs,ad,Fv,h1,Y,h3,h4,h5,h6,h7,_⟩:=yP h hk hn
 ⟨A',σ',F',cs,ad,Fv,h1,Y,h3,h4,h5,h6,h7⟩
theorem wN {r:Nat} (hv:(σ.da r).length=5) {t:Ty} {m:Md} {H:List Path} {v:t.den} {q:Prop} (hq:q):EY σ r ((σ.cP r t m H v).get r) q (σ.cP r t m H v):=
 ⟨jC _ _ _ _ _,λi hi=>mA _ _ _ _ _ i hi,rfl,λi _=>gx _ _ _ _ _ i,by rw[gx];exact Below.refl _,by grind [gx],
  λe he=>by grind [lC],λj k hm=>by grind [lC],λe he=>by grind [qy],λ_ _=>hq⟩
theorem Ai (h:Rel P C A X σ a w F) {r:Nat} {p:Path} {m2:Md} {K:St->Option R} (hk:kR σ r p m2 K=some x) :
  ∃ (A':Cells) (σ':St) (F':Nat->FP),K σ'=some x/\(∀ b i,A b i->A' b i)/\Rel P C A' X σ' a w F'/\σ'.n=σ.n/\gr σ σ':=by
 obtain ⟨hr,t1,m1,H1,v1,cs,ad,Fv,kk,h1,Y,h3,h4,h5,h6,h7,h8⟩:=h.wc hk
 have tj:∀ b i,X b i+F r b i<=1:=λb i=>by have:=h.fA b i;grind [aW]
 split at h1
 ·rename_i hc
  simp only[Bool.and_eq_true,List.isEmpty_iff] at hc
  obtain ⟨rfl,hc⟩:=hc
  obtain ⟨F1,MG,cC⟩:=ae.fits _ hc h4 (λb i=>by grind)
  have Kg:=cC (λb i=>A b i\/(1<=Fv b i/\F1 b i=0)) (λ_ _ h=>.inl h) (λb i h1 Y=>.inr ⟨h1,Y⟩)
  obtain ⟨t0,m3,H3,v3,Fr,A3,k1,⟨m0,H0,v0,k0⟩,k2,k3,k4⟩:=h8 _ _ _ h1 w (λb i=>A b i\/(1<=Fv b i/\F1 b i=0)) cs F1 X (Ext.refl _ _) (λ_ _ h=>.inl h)
   (λb i ha=>ha.imp id λ⟨h1,Y⟩=>⟨by omega,by grind⟩) (λb i=>by grind) h6 (λ_=>rfl) Kg
  exact ⟨A3,_,_,k1,λb i ha=>k2 b i (.inl ha),k4 _ (wN (h.dK r) (.inr rfl)) (λp' snap hb am hl=>⟨bc p'+1,True,by omega,λ_=>.inr trivial,λ_=>trivial,
   gS.same ad h4 (λ_ _ _ _ h=>h) (λ_ _ _ _ h=>h) _ True⟩),jC _ _ _ _ _,nf hr v3 k0 (λi=>rfl)⟩
 ·cases h1
theorem mO (h:Rel P C A X σ a w F) {r:Nat} {p:Path} {K:St->Option R} (hk:mc σ r p K=some x) :
  ∃ (A':Cells) (σ':St) (F':Nat->FP) (t':Ty) (m':Md) (v':t'.den) (cs:List Value) (ad:Option (Nat×Nat)),K σ'=some x/\(∀ b i,A b i->A' b i)/\Rel P C A' X σ' a w F'/\σ'.n=σ.n/\gr σ σ' /\
   At σ r p t' m' [] v'/\place σ a w r p=some ⟨t',[],cs,ad⟩/\Ro P w A' t' v' cs:=by
 obtain ⟨hr,t1,m1,H1,v1,cs,ad,Fv,kk,h1,Y,h3,h4,h5,h6,h7,h8⟩:=h.wc hk
 have tj:∀ b i,X b i+F r b i<=1:=λb i=>by have:=h.fA b i;grind [aW]
 split at h1
 ·rename_i hc
  simp only[Bool.and_eq_true,List.isEmpty_iff] at hc
  obtain ⟨rfl,hc⟩:=hc
  have im:Ro P w (λb i=>A b i\/1<=Fv b i) t1 v1 cs:=ae.lq (λ_ _ h=>.inl h) t1 h4 (λb i hp=>.inr hp)
  obtain ⟨t0,m3,H3,v3,Fr,A3,k1,⟨m0,H0,v0,k0⟩,k2,k3,k4⟩:=h8 _ _ _ h1 w (λb i=>A b i\/1<=Fv b i) cs (λ_ _=>0) X (Ext.refl _ _) (λ_ _ h=>.inl h)
   (λb i ha=>ha.imp id λh1=>⟨by omega,by grind⟩) (λb i=>by omega) h6 (λ_=>rfl) (Ro.rep _ _ (bI _) im)
  exact ⟨A3,_,_,t1,m1,v1,cs,ad,k1,λb i ha=>k2 b i (.inl ha),k4 _ (wN (h.dK r) (.inr rfl)) (λp' snap hb am hl=>⟨bc p'+1,True,by omega,λ_=>.inr trivial,λ_=>trivial,
   gS.same ad h4 (λ_ _ _ _ h=>h) (λ_ _ _ _ h=>h) _ True⟩),jC _ _ _ _ _,nf hr v3 k0 (λi=>rfl),⟨Y⟩,h3,Ro.mono (λ_ _ _ _ h=>h) k2 _ im⟩
 ·cases h1
theorem aP {t t':Ty} {v:t.den} {K:t'.den->Option R} (h:cy t t' v K=some x):∃ e:t=t',K (e ▸ v)=some x:=by
 grind [cy]
theorem pV (h:Rel P C A X σ a w F) {r:Nat} {p:Path} {t:Ty} {m:Md} {v:t.den} {K:St->Option R} (hk:kh σ r p t m v K=some x) :
  r < σ.n/\∃ (m':Md) (H':List Path) (v':t.den) (cs:List Value) (ad:Option (Nat×Nat)) (F':FP),At σ r p t m' H' v'/\place σ a w r p=some ⟨t,H',cs,ad⟩/\ae P w A t m' H' v' cs F' /\
   (∀ b i,dc ad t.sz b i+F' b i<=F r b i)/\(∀ b o,ad=some (b,o)->Has w b o cs/\∀ j,j < t.sz->w.frozen? ⟨b,o+j,none⟩=false) /\
   ∀ (w2:World) (A2:Cells) (a_:List Value) (Fv X2:FP),Ext w w2 (λb i=>X b i+(F' b i+dc ad t.sz b i))->(∀ b i,A b i->A2 b i)->(∀ b i,A2 b i->A b i\/(1<=X b i+F' b i/\X2 b i+Fv b i=0)) ->
    (∀ b i,X2 b i+Fv b i<=X b i+F' b i)->(∀ b o,ad=some (b,o)->Has w2 b o a_)->(ad=none->a_=cs)->ae P w2 A2 t m [] v a_ Fv ->
    ∃ (A3:Cells) (σ':St) (Fr:FP),K σ'=some x/\(∀ b i,A2 b i->A3 b i)/\Rel P C A3 X2 σ' a w2 (bD F r Fr)/\σ'.n=σ.n /\
     ∀ g:List Nat->List Nat,Below (σ.da r) (g (σ.da r))->(g (σ.da r)).length=5->a_=cs ->
      (∀ (p':Path) (snap:List Nat),Below snap (σ.da r)->preB snap (g (σ.da r))=true->(snap.length=min 5 (1+bc p')\/snap.length=min 5 (2+bc p')\/snap.length=5) ->
       ∃ D full,bc p'<=D+bc p/\(snap.length=min 5 (2+bc p')->bc p' < D+bc p\/full)/\(snap.length=5->full)/\gS D full w t H' cs ad w2 [] a_) ->
      Rel P C A3 X2 { σ' with vr:=(σ.eb r g).vr,ax:=σ.ax } a w2 (bD F r Fr):=by
 obtain ⟨hr,t1,m1,H1,v1,cs,ad,Fv,kk,h1,Y,h3,h4,h5,h6,h7,h8⟩:=h.wc hk
 obtain ⟨e,h1⟩:=aP h1
 subst e
 refine ⟨hr,m1,H1,v1,cs,ad,Fv,⟨Y⟩,h3,h4,h5,λb o e=>⟨h6 b o e,h7 b o e⟩,λw2 A2 a_ MH X2 g1 g2 g3 g4 g5 g6 g7=>?_⟩
 obtain ⟨t0,m3,H3,v3,Fr,A3,k1,⟨m0,H0,v0,k0⟩,k2,k3,k4⟩:=h8 m [] v h1 w2 A2 a_ MH X2 g1 g2 g3 g4 g5 g6 g7
 refine ⟨A3,_,Fr,k1,k2,k4 _ (yO ?_ ?_ .inl) (λp' snap hb am hl=>?_),?_,λg OF OG fl bh=>?_⟩
 ·split
  ·exact mz (h.dK r)
  ·exact jB _ (h.dK r)
 ·split
  ·exact rN (h.dK r)
  ·exact qw _ (h.dK r)
 ·unfold St.ok at am
  rw[ot,gq,if_pos rfl,gx] at am
  by_cases hf:t.flat=true
  ·rw[if_pos hf] at am
   have:=tT (h.dK r) hb am
   exact ⟨bc p'+1,False,by omega,λ_=>.inl (by omega),λ_=>by omega,gS.flat (A:=A) ad g7 hf _⟩
  ·rw[if_neg hf] at am
   have:=rO (bc p) (h.dK r) hb am
   exact ⟨0,False,by omega,λ_=>.inl (by omega),λ_=>by omega,gS.zero (A:=A) ad g7⟩
 ·rw[uQ];exact jC _ _ _ _ _
 ·refine k4 _ ⟨by rw[uQ];exact jC _ _ _ _ _,λi hi=>?_,?_,λi hi=>?_,?_,?_,λe he=>he,λj k hm=>hm,λe he=>?_,λ_ _=>.inr fl⟩ (λp' snap hb am hl=>bh p' snap hb ?_ hl)
  ·show (((σ.cP r t0 m3 H3 v3).eb r _).head r _).get i=_
   rw[oq];exact mA r t0 m3 H3 v3 i hi
  ·show (((σ.cP r t0 m3 H3 v3).eb r _).head r _).get r=_
   rw[oq];rfl
  ·show (σ.eb r g).da i=σ.da i
   grind [gq]
  ·show Below _ ((σ.eb r g).da r)
   grind [gq]
  ·show ((σ.eb r g).da r).length=5
   grind [gq]
  ·grind [Ba,St.eb,qy]
  ·have am:preB snap ((σ.eb r g).da r)=true:=am
   grind [gq]
end
end OT
set_option linter.unusedVariables false
set_option linter.unusedSimpArgs false
namespace OT
open Go
section
variable {P:Program} {C:Ctx} {A:Cells} {X:FP} {σ:St} {a:Act} {w:World} {F:Nat->FP} {R:Type} {x:R}
theorem Rel.grow (h:Rel P C A X σ a w F) {w1:World} (hw:Ext w w1 (λ_ _=>0)) {A1:Cells} {X1:FP} (hA:∀ b i,A b i->A1 b i)
  (rR:∀ b i,A1 b i->A b i\/(w.heap.size<=b/\b < w1.heap.size/\X1 b i=0)) (hX:∀ b i,X1 b i<=X b i\/(w.heap.size<=b/\b < w1.heap.size/\X1 b i<=1)):Rel P C A1 X1 σ a w1 F:=by
 have iC:∀ b i,A b i->∀ u,ce w b i=some u->ce w1 b i=some u:=λb i ha u hu=>hw.cell b i (h.cW b i (.inr ha)) rfl u hu
 have Gw:∀ b i,w.heap.size<=b->al σ.n F b i=0:=λb i hb=>by
  rcases Nat.eq_zero_or_pos (al σ.n F b i) with h0 | h0
  ·exact h0
  ·have:=h.cW b i (.inl (by omega));omega
 have rP:∀ j,j < σ.n->∀ b i,1<=F j b i->(∀ u,ce w b i=some u->ce w1 b i=some u)/\w1.frozen? ⟨b,i,none⟩=w.frozen? ⟨b,i,none⟩:=λj hj b i hp=>by
  have hb:=h.cW b i (.inl (by grind [aW]))
  exact ⟨λu hu=>hw.cell b i hb rfl u hu,hw.ne b i hb⟩
 have eH:mg σ a w σ a w1:=λr p snap hb=>⟨hb,λam=>⟨am,λhl pl cI=>⟨pl.H,pl.cs,by
  have aH:=iT cI
  exact ku (h.bX r aH) rfl rfl iC (λb i hp=>(rP r aH b i hp).1) cI,λ_=>rfl⟩⟩⟩
 refine ⟨h.size,h.defers,λi hi=>aQ.ed eH hA iC hw.l_ (rP i hi) (h.bX i hi),λd r p snap hm=>gF.ed eH (h.gh d r p snap hm),λb i=>?_,λb i hp ha=>?_,λb i hp=>?_,
  h.dK,h.ext.trans hw (λ_ _ _ _=>rfl),λb i hp=>?_,λb i ha=>hA b i (h.a0 b i ha),λb i ha=>?_,h.fe,λr t m H v hg hl=>?_,λj k hm R' fB=>?_,h.lu⟩
 ·have h1:=h.fA b i
  grind
 ·rcases rR b i ha with ha | ⟨h1,Y,h3⟩
  ·have aH:=h.cW b i (.inr ha)
   rcases hX b i with Y | ⟨Y,_⟩
   ·exact h.fW b i (by omega) ha
   ·omega
  grind
 ·rcases hp with hp | ha
  ·rcases hX b i with Y | ⟨Y,h3,_⟩
   ·exact Nat.lt_of_lt_of_le (h.cW b i (.inl (by omega))) hw.size
   ·exact h3
  ·rcases rR b i ha with ha | ⟨h1,Y,h3⟩
   ·exact Nat.lt_of_lt_of_le (h.cW b i (.inr ha)) hw.size
   ·exact Y
 ·rcases hX b i with Y | ⟨Y,_⟩
  ·exact h.own b i (by omega)
  ·exact .inr (Nat.le_trans h.ext.size Y)
 ·rcases rR b i ha with ha | ⟨h1,_⟩
  ·exact h.J b i ha
  ·exact .inr (.inr (Nat.le_trans h.ext.size h1))
 ·obtain ⟨b,h1,Y⟩:=h.whole r t m H v hg hl
  exact ⟨b,h1,hw.l_ _ _ Y⟩
 ·rcases Nat.lt_or_ge j σ.n with hj | hj
  ·have gP:=h.bX j hj
   cases nn:ba w (tmp a j) (σ.get j) with
   | none=>exfalso;cases hg:σ.get j <;> rw[hg] at nn fB <;> simp only[ba] at nn fB <;> first | grind | grind | grind
   | some R0=>
    rw[ly gP (λb i hp=>(rP j hj b i hp).1) nn] at fB
    injection fB with fB
    subst fB
    exact h.eB j k hm _ nn
  ·rw[dN (Nat.not_lt.2 hj)] at fB;cases fB
def aZ (P:Program):Operand->Bool
 | .func f=>(P.funcs[f]?).any (·.nfree == 0)
 | _=>true
theorem bt (h:Rel P C A X σ a w F) {o:Operand} (ho:aZ P o=true):aQ P A σ a w (a.eval o) (a9 σ o) (λ_ _=>0)\/∃ xs,a9 σ o=.gN xs:=by
 cases o with
 | tmp i=>
  show aQ P A σ a w (tmp a i) _ _\/_
  rcases Nat.lt_or_ge i σ.n with hi | hi
  ·have hs:=h.bX i hi
   simp only[a9]
   cases hg:σ.get i with
   | own t m H v=>
    rw[hg] at hs
    obtain ⟨cs,h1,Y⟩:=hs
    left
    have cI:place σ a w i []=some ⟨t,H,cs,none⟩:=by
     grind [place,ba,cV,ae.length,ae.one,ay]
    have h5:=h.dK i
    refine ⟨?_,λ_=>⟨_,cI,h1,?_⟩⟩
    ·unfold jR
     split
     ·intro j y hj;grind
     ·intro j y hj;grind
     ·exact Below.refl _
    ·unfold jR
     grind [lr]
   | box t m H v=>
    rw[hg] at hs
    obtain ⟨b,o,L,F1,h1,Y,h3,h4,h5,h6⟩:=hs
    left
    have OH:=h.dK i
    refine ⟨?_,λ_=>⟨⟨t,H,L,some (b,o)⟩,b,o,?_,rfl,h1,by grind [kS]⟩⟩
    ·unfold kS
     intro j y hj;grind
    grind [place,ba,bq,ay]
   | gN xs=>grind
   | dead=>exact .inl trivial
   | lh=>rw[hg] at hs;exact .inl hs
   | val t v=>rw[hg] at hs;exact .inl hs
   | cp t v=>rw[hg] at hs;exact .inl hs
   | ref r p snap=>rw[hg] at hs;exact .inl hs
   | ptr r p snap=>rw[hg] at hs;exact .inl hs
   | sub r p snap lo hi=>rw[hg] at hs;exact .inl hs
  ·simp only[a9,dN (Nat.not_lt.2 hi)];exact .inl trivial
 | const v=>
  left
  show aQ P A σ a w v (iP v) _
  unfold iP
  split
  ·split
   ·rename_i hn;exact ⟨[_],rfl,by grind [Ro,fy]⟩
   ·trivial
  ·exact ⟨[_],rfl,rfl⟩
  ·exact ⟨[_],rfl,rfl⟩
  ·exact ⟨[_],rfl,rfl⟩
  ·exact ⟨[_],rfl,rfl⟩
  ·exact ⟨[_],rfl,rfl⟩
  ·exact ⟨[_],rfl,by simp[Ro]⟩
  ·rfl
  ·trivial
 | func f=>
  left
  simp only[aZ,Option.any_eq_true,beq_iff_eq] at ho
  obtain ⟨fn,h1,Y⟩:=ho
  exact ⟨[_],rfl,#[],rfl,fn,h1,.inl ⟨Y,rfl⟩⟩
 | global g=>exact .inl trivial
def AO (A:Cells) (σ:St) (F:Nat->FP):Cells:=λb i=>A b i\/1<=al σ.n F b i
theorem bj (t:Ty) (y:Value) (h:isAgg t=false):aY t [y]=y:=by simp[aY,h]
theorem Ro.piece {e:Ty} {v:List e.den} {xa:Option Addr} {n cap lo hi cap':Nat} {kw:Option Addr} (h:Ro P w A (.af e) v [.slice xa n cap]) (h1:lo<=hi) (Y:hi<=n) (h3:cap'+lo=cap) (h4:xa=none->kw=none)
  (h5:∀ ad,xa=some ad->∃ aS,kw=some aS/\aS.spot=ad.spot/\aS.block=ad.block/\(lo < hi->aS.off=ad.off+lo*e.sz)) :
  Ro P w A (.af e) ((v.take hi).drop lo) [.slice kw (hi - lo) cap']:=by
 obtain ⟨a0,LU,g1,g2,g3,g4⟩:=h
 simp only[List.cons.injEq,Value.slice.injEq,and_true] at g1
 obtain ⟨rfl,rfl,rfl⟩:=g1
 have hlen:List.length ((v.take hi).drop lo)=hi - lo:=by simp;omega
 refine ⟨kw,cap',by rw[hlen],by grind,λhn=>?_,λaS BZ=>?_⟩
 ·rw[hlen]
  cases Dy:xa <;> grind
 ·cases Dy:xa <;> grind
def AR (A:Cells) (F:Nat->FP) (rs:List Nat):Cells:=λb i=>A b i\/∃ r ∈ rs,1<=F r b i
theorem wO (h:Rel P C A X σ a w F) {s:Slot} {tv:Value} {G:FP} (hs:aQ P A σ a w tv s G) {t:Ty} {K:t.den->Option R} (hk:it σ s t K=some x) :
  ∃ (v:t.den) (cs:List Value),K v=some x/\tv=aY t cs/\Ro P w (AR A F (eh s)) t v cs:=by
 have Dz:∀ b i,A b i->AR A F (eh s) b i:=λb i ha=>.inl ha
 have nr:∀ b i,A b i->∀ u,ce w b i=some u->ce w b i=some u:=λ_ _ _ _ h=>h
 cases s with
 | val t' v=>
  obtain ⟨e,hk⟩:=aP hk;subst e
  obtain ⟨cs,h1,Y⟩:=hs
  grind [Ro.mono]
 | cp t' v=>
  obtain ⟨e,hk⟩:=aP hk;subst e
  exact ⟨v,[tv],hk,(bj _ _ rfl).symm,Ro.mono nr Dz _ hs⟩
 | lh=>
  simp only[it] at hk
  split at hk
  ·rename_i t e
   have hs:tv=.slice none 0 0:=hs
   subst hs
   exact ⟨[],_,hk,(bj _ _ rfl).symm,none,0,rfl,Nat.le_refl _,λ_=>rfl,λad cR=>by cases cR⟩
  ·cases hk
 | ref r p snap=>
  simp only[it] at hk
  split at hk
  ·rename_i am
   obtain ⟨hr,t',m',H',v',aC,aS,F',h1,Y,h3,h4,h5,h6⟩:=du h hk
   obtain ⟨pl,g1,g2,g3⟩:=hs.2 am
   rw[h3] at g1
   injection g1 with g1
   subst g1
   split at h1
   ·rename_i hH
    have hH:=List.isEmpty_iff.1 hH;subst hH
    obtain ⟨e,h1⟩:=aP h1;subst e
    exact ⟨v',aC,h1,g2,ae.lq Dz _ h4 (λb i hp=>.inr ⟨r,List.mem_singleton.2 rfl,by grind⟩)⟩
   ·cases h1
  ·cases hk
 | sub r p snap lo hi=>
  simp only[it] at hk
  split at hk
  ·rename_i am
   obtain ⟨hr,t',m',H',v',aC,aS,F',h1,Y,h3,h4,h5,h6⟩:=du h hk
   obtain ⟨pl,e,xa,n,cap,kw,cap',g1,g2,g3,g4,g5,g6,g7,Bb,g8,g9,g10⟩:=hs.2 am
   rw[h3] at g1
   injection g1 with g1
   subst g1
   simp only at g2 g3
   subst g2;subst g3
   split at h1
   ·rename_i hH
    have hH:=List.isEmpty_iff.1 hH;subst hH
    obtain ⟨e',h1⟩:=aP h1;subst e'
    exact ⟨_,_,h1,by rw[bj _ _ rfl];exact g6,Ro.piece (ae.lq Dz _ h4 (λb i hp=>.inr ⟨r,List.mem_singleton.2 rfl,by grind⟩)) g4 g5 g7 g8 g9⟩
   ·cases h1
  ·cases hk
 | ptr r p snap=>
  simp only[it] at hk
  split at hk
  ·rename_i am
   obtain ⟨hr,t',m',H',v',aC,aS,F',h1,Y,h3,h4,h5,h6⟩:=du h hk
   obtain ⟨pl,b,o,g1,g2,g3,g4⟩:=hs.2 am
   rw[h3] at g1
   injection g1 with g1
   subst g1
   split at h1
   ·rename_i hH
    have hH:=List.isEmpty_iff.1 hH;subst hH
    obtain ⟨e',h1⟩:=aP h1;subst e'
    simp only at g2
    subst g2
    refine ⟨v',[tv],h1,(bj _ _ rfl).symm,⟨b,o,none⟩,by rw[g3],rfl,aC,ae.length _ h4,λj u hu=>⟨h6 b o rfl j u hu,?_⟩,
     ae.lq Dz _ h4 (λb i hp=>.inr ⟨r,List.mem_singleton.2 rfl,by grind⟩)⟩
    have hj:j < t'.sz:=ae.length _ h4 ▸ (List.getElem?_eq_some_iff.1 hu).1
    unfold place at h3
    cases hR:ba w (tmp a r) (σ.get r) with
    | none=>grind
    | some R0=>
     rw[hR] at h3
     obtain ⟨m0,v0,F1,q1,q2,q3,_⟩:=lw (h.bX r hr) hR
     exact Dp Dz p R0.t q1 (λb i hp=>.inr ⟨r,List.mem_singleton.2 rfl,by grind⟩) (λb' o' e' j hj=>.inr ⟨r,List.mem_singleton.2 rfl,by
      grind [bm]⟩) h3 b o rfl j hj
   ·cases h1
  ·cases hk
 | _=>simp[it] at hk
theorem rS (h:Rel P C A X σ a w F) {s:Slot} {t:Ty} {K:t.den->Option R} (hk:it σ s t K=some x):∀ r ∈ eh s,r < σ.n:=by
 intro r hr
 cases s <;> simp only[eh,List.mem_singleton,List.not_mem_nil] at hr
 all_goals
  subst hr
  simp only[it] at hk
  split at hk
  ·exact (du h hk).1
  ·cases hk
theorem Bc (h:Rel P C A X σ a w F) {s:Slot} {tv:Value} {G:FP} (hs:aQ P A σ a w tv s G) {t:Ty} {K:t.den->Option R} (hk:it σ s t K=some x) :
  ∃ (v:t.den) (cs:List Value),K v=some x/\tv=aY t cs/\Ro P w (AO A σ F) t v cs:=by
 obtain ⟨v,cs,h1,Y,h3⟩:=wO h hs hk
 refine ⟨v,cs,h1,Y,Ro.mono (λ_ _ _ _ h=>h) (λb i ha=>?_) t h3⟩
 rcases ha with ha | ⟨r,hr,hp⟩
 ·exact .inl ha
 ·have:=aW F (rS h hk r hr) b i
  exact .inr (by omega)
end
end OT
set_option linter.unusedVariables false
set_option linter.unusedSimpArgs false
namespace OT
open Go
section
variable {P:Program} {C:Ctx} {A:Cells} {X:FP} {σ:St} {a:Act} {w:World} {F:Nat->FP} {R:Type} {x:R}
theorem uR {l:List (Nat×Nat×Bool)} {r:Nat} (h:qh l r=false) (k:Nat):(r,k,false) ∉ l:=by
 induction l with
 | nil=>grind
 | cons y l ih=>
  obtain ⟨k',n,b⟩:=y
  simp_all [qh]
theorem gG (a:Act) (i:Nat):a.put (some i) (tmp a i)=a:=by
 have:a.tmps.setIfInBounds i (tmp a i)=a.tmps:=by
  apply Array.ext
  all_goals simp_all [Array.getElem_setIfInBounds,tmp]
 simp[Act.put,this]
theorem jk (h:Rel P C A X σ a w F) {s:Slot} {tv:Value} {G:FP} (hs:aQ P A σ a w tv s G) {mv:Bool} {t:Ty} {K:Md->t.den->St->Option R} (hk:dR σ s mv t K=some x) :
  ∃ (A':Cells) (σ':St) (F':Nat->FP) (m:Md) (v:t.den) (cs:List Value) (Fv:FP),K m v σ'=some x/\(∀ b i,A b i->A' b i)/\Rel P C A' (λb i=>X b i+Fv b i) σ' a w F'/\σ'.n=σ.n/\gr σ σ' /\
   tv=aY t cs/\ae P w A' t m [] v cs Fv:=by
 have hz:Rel P C A (λb i=>X b i+0) σ a w F:=h
 cases s with
 | val t' v=>
  simp only[dR] at hk
  obtain ⟨e,hk⟩:=aP hk;subst e
  obtain ⟨cs,h1,Y⟩:=hs
  exact ⟨A,σ,F,_,v,cs,λ_ _=>0,hk,λ_ _ h=>h,hz,rfl,gr.refl σ,h1,Ro.rep _ _ (bI _) Y⟩
 | cp t' v=>
  simp only[dR] at hk
  obtain ⟨e,hk⟩:=aP hk;subst e
  exact ⟨A,σ,F,_,v,[tv],λ_ _=>0,hk,λ_ _ h=>h,hz,rfl,gr.refl σ,(bj _ _ rfl).symm,Ro.rep _ _ (bI _) hs⟩
 | lh=>
  simp only[dR] at hk
  split at hk
  ·rename_i t e
   have hs:tv=.slice none 0 0:=hs
   subst hs
   refine ⟨A,σ,F,_,_,[.slice none 0 0],λ_ _=>0,hk,λ_ _ h=>h,hz,rfl,gr.refl σ,(bj _ _ rfl).symm,?_⟩
   grind [ae,hole,kI,Md.own]
  ·cases hk
 | ref r p snap=>
  simp only[dR] at hk
  split at hk
  ·rename_i am
   obtain ⟨hr,t',m',H',v',aC,aS,F',h1,Y,h3,h4,h5,h6⟩:=du h hk
   obtain ⟨pl,g1,g2,g3⟩:=hs.2 am
   rw[h3] at g1
   injection g1 with g1
   subst g1
   split at h1
   ·rename_i hH
    have hH:=List.isEmpty_iff.1 hH;subst hH
    obtain ⟨e,h1⟩:=aP h1;subst e
    split at h1
    ·rename_i hm;subst hm
     exact ⟨A,σ,F,_,v',aC,λ_ _=>0,h1,λ_ _ h=>h,hz,rfl,gr.refl σ,g2,Ro.rep _ _ (bI _) (ae.ro _ (bI _) h4)⟩
    ·split at h1
     ·obtain ⟨A',σ',F2,cs,ad,Fv,k1,k2,k3,k4,kr,k5,k6⟩:=wd h h1 ⟨Y⟩
      rw[h3] at k5
      injection k5 with k5
      simp only[Pl.mk.injEq,true_and] at k5
      obtain ⟨rfl,rfl⟩:=k5
      exact ⟨A',σ',F2,_,v',aC,Fv,k1,k2,k3,k4,kr,g2,ae.mono k2 (λ_ _ _ _ h=>h) (λ_ _ h=>h) _ k6 (λ_ _=>Nat.le_refl _) (λ_ _ _ _ h=>h)⟩
     ·obtain ⟨A',σ',F2,t2,m2,v2,cs,ad,k1,k2,k3,k4,kr,k5,k6,k7⟩:=mO h h1
      obtain ⟨e1,e2,e3,e4⟩:=At.inj ⟨Y⟩ k5
      subst e1
      have e4:=eq_of_heq e4
      subst e4
      rw[h3] at k6
      injection k6 with k6
      simp only[Pl.mk.injEq,true_and] at k6
      obtain ⟨rfl,rfl⟩:=k6
      exact ⟨A',σ',F2,_,v',aC,λ_ _=>0,k1,k2,k3,k4,kr,g2,Ro.rep _ _ (bI _) k7⟩
   ·cases h1
  ·cases hk
 | sub r p snap lo hi=>
  simp only[dR] at hk
  split at hk
  ·rename_i am
   obtain ⟨hr,t',m',H',v',aC,aS,F',h1,Y,h3,h4,h5,h6⟩:=du h hk
   obtain ⟨pl,e,xa,n,cap,kw,cap',g1,g2,g3,g4,g5,g6,g7,Bb,g8,g9,g10⟩:=hs.2 am
   rw[h3] at g1
   injection g1 with g1
   subst g1
   simp only at g2 g3
   subst g2;subst g3
   split at h1
   ·rename_i hH
    have hH:=List.isEmpty_iff.1 hH;subst hH
    obtain ⟨e',h1⟩:=aP h1;subst e'
    simp only at h1
    have ou:tv=aY (.af e) [.slice kw (hi - lo) cap']:=by rw[bj _ _ rfl];exact g6
    split at h1
    ·rename_i hm;subst hm
     exact ⟨A,σ,F,_,_,_,λ_ _=>0,h1,λ_ _ h=>h,hz,rfl,gr.refl σ,ou,Ro.rep _ _ (bI _) (Ro.piece (ae.ro _ (bI _) h4) g4 g5 g7 g8 g9)⟩
    ·split at h1
     ·split at h1
      ·rename_i yQ
       subst yQ
       obtain ⟨A',σ',F2,cs,ad,Fv,k1,k2,k3,k4,kr,k5,k6⟩:=wd h h1 ⟨Y⟩
       rw[h3] at k5
       injection k5 with k5
       simp only[Pl.mk.injEq,true_and] at k5
       obtain ⟨rfl,rfl⟩:=k5
       have k6:=ae.mono k2 (λ_ _ _ _ h=>h) (λ_ _ h=>h) _ k6 (λ_ _=>Nat.le_refl _) (λ_ _ _ _ h=>h)
       refine ⟨A',σ',F2,_,_,_,Fv,k1,k2,k3,k4,kr,ou,?_⟩
       have Dy:=Bb rfl
       subst Dy
       simp only[Nat.add_zero] at g7
       subst g7
       simp only[ae,hole,List.any_nil,Bool.false_eq_true,if_false] at k6 ⊢
       split at k6
       ·rename_i cm
        rw[if_pos cm]
        obtain ⟨a0,LU,q1,q2,q3,q4,q5⟩:=k6
        simp only[List.cons.injEq,Value.slice.injEq,and_true] at q1
        obtain ⟨rfl,rfl,rfl⟩:=q1
        have hlen:List.length ((v'.take hi).drop 0)=hi:=by simp;omega
        refine ⟨kw,cap',by rw[hlen];rfl,by grind,q3,q4,λad cR=>?_⟩
        obtain ⟨r1,r2,r3,Fi,r4,r5⟩:=q5 ad cR
        refine ⟨r1,r2,r3,Fi,λb i=>?_,λi y hy=>?_⟩
        ·rw[hlen]
         have:=r4 b i;have:=Dm (List.length v') Fi 0 hi (by omega) b i
         grind
        simp_all [List.getElem?_take]
       ·rename_i cm
        rw[if_neg cm]
        exact ⟨trivial,k6.2.1,Ro.piece (cap':=cap') k6.2.2 g4 g5 rfl g8 g9⟩
      ·cases h1
     ·obtain ⟨A',σ',F2,t2,m2,v2,cs,ad,k1,k2,k3,k4,kr,k5,k6,k7⟩:=mO h h1
      obtain ⟨e1,e2,e3,e4⟩:=At.inj ⟨Y⟩ k5
      subst e1
      have e4:=eq_of_heq e4
      subst e4
      rw[h3] at k6
      injection k6 with k6
      simp only[Pl.mk.injEq,true_and] at k6
      obtain ⟨rfl,rfl⟩:=k6
      exact ⟨A',σ',F2,_,_,_,λ_ _=>0,k1,k2,k3,k4,kr,ou,Ro.rep _ _ (bI _) (Ro.piece k7 g4 g5 g7 g8 g9)⟩
   ·cases h1
  ·cases hk
 | ptr r p snap=>
  cases p with
  | cons s p=>simp[dR] at hk
  | nil=>
   simp only[dR] at hk
   split at hk
   ·rename_i am
    split at hk
    ·rename_i t' m' H' v' hg
     split at hk
     ·rename_i hc
      simp only[Bool.and_eq_true,List.isEmpty_iff,Bool.not_eq_true'] at hc
      obtain ⟨rfl,hl⟩:=hc
      obtain ⟨e,hk⟩:=aP hk;subst e
      have hr:r < σ.n:=by
       grind [dN]
      obtain ⟨pl,b,o,g1,g2,g3,g4⟩:=hs.2 am
      have gP:=h.bX r hr
      rw[hg] at gP
      obtain ⟨b0,o0,L,F1,q1,q2,q3,q4,q5,q6⟩:=gP
      unfold place at g1
      rw[hg,q1] at g1
      simp only[ba,Option.bind_some,ay,Option.some.injEq] at g1
      subst g1
      simp only[Option.some.injEq,Prod.mk.injEq] at g2
      obtain ⟨rfl,rfl⟩:=g2
      obtain ⟨b1,w1,w2⟩:=h.whole r t' m' [] v' hg (uR hl)
      rw[q1] at w1
      simp only[Value.pointer.injEq,Option.some.injEq,Addr.mk.injEq,and_true] at w1
      obtain ⟨rfl,rfl⟩:=w1
      have pE:=h.put hr (s:=.dead) (v:=tmp a r) (Fd:=λ_ _=>0) (X':=λb i=>X b i+F r b i) trivial (λb i=>by omega) (λt m H v e=>by cases e)
      rw[gG] at pE
      refine ⟨A,_,_,_,v',[tv],F r,hk,λ_ _ h=>h,pE,rfl,(λw tv i R hR=>⟨R.H,by
       rw[mh] at hR
       split at hR
       ·cases hR
       ·exact hR⟩),(bj _ _ rfl).symm,?_⟩
      grind [ae,hole,Md.own,Md.e]
     ·cases hk
    ·cases hk
   ·cases hk
 | _=>simp[dR] at hk
theorem sR {t:Ty} {m:Md} {v:t.den} {cs:List Value} {Fv:FP} (h:ae P w A t m [] v cs Fv) :
  aQ P A σ a w (aY t cs) (laid t m v) Fv/\∀ t' m' H' v',laid t m v=.box t' m' H' v'->∃ b,aY t cs=.pointer (some ⟨b,0,none⟩)/\cf w b (t'.sz,false):=by
 unfold laid
 split
 ·rename_i hm;subst hm
  exact ⟨⟨cs,rfl,ae.ro _ (bI _) h⟩,λt' m' H' v' e=>by cases e⟩
 ·split
  ·rename_i e m' v' _
   simp only[ae,hole,List.any_nil,Bool.false_eq_true,if_false,Md.own,if_true,Md.e] at h
   obtain ⟨b,rfl,Y,L,F1,h3,h4,h5,h6⟩:=h
   rw[bj _ _ rfl]
   refine ⟨⟨b,0,L,F1,rfl,h3,h4,λj hj=>by rw[Nat.zero_add];exact Y.frozen hj,h5,h6⟩,λt' m' H' v' e=>?_⟩
   grind
  ·exact ⟨⟨cs,rfl,h⟩,λt' m' H' v' e=>by cases e⟩
theorem Rel.HF (h:Rel P C A X σ a w F) {d:Nat} (hd:σ.n<=d) (s:Slot) (v:Value) {X':FP} (ht:∀ b i,X' b i<=X b i):Rel P C A X' (σ.put d s) (a.put (some d) v) w F:=by
 have eN:=h.size
 have ha:a.put (some d) v=a:=by simp[Act.put,Array.setIfInBounds,eN,Nat.not_lt.2 hd]
 rw[ha]
 have mm:∀ i,(σ.put d s).get i=σ.get i:=λi=>by
  grind [mh]
 have eH:mg σ a w (σ.put d s) a w:=by
  intro r p snap hb
  rw[nR,St.ok,nR]
  by_cases hr:d=r
  ·subst hr
   simp only[if_true]
   refine ⟨hb.trans (iE _),λam=>?_⟩
   have h0:=th (h.dK d) hb am
   exact ⟨(sO hb (iE _) am).1,λhl=>by omega⟩
  ·simp only[if_neg hr]
   refine ⟨hb,λam=>⟨am,λhl pl cI=>⟨pl.H,pl.cs,?_,λ_=>rfl⟩⟩⟩
   simp_all [place]
 refine ⟨h.size,h.defers,λi hi=>?_,?_,λb i=>by have:=h.fA b i;have:=ht b i;show X' b i+al σ.n F b i<=1;omega,λb i hp=>h.fW b i (by have:=ht b i;have hp:1<=X' b i+al σ.n F b i:=hp;omega),
  λb i hp=>h.cW b i (hp.imp (λhp=>by have:=ht b i;have hp:1<=X' b i+al σ.n F b i:=hp;omega) id),λi=>?_,h.ext,λb i hp=>h.own b i (by have:=ht b i;have hp:1<=X' b i+al σ.n F b i:=hp;omega),h.a0,h.J,?_,?_,?_,h.lu⟩
 ·rw[mm]
  exact aQ.ed eH (λ_ _ h=>h) (λ_ _ _ _ h=>h) (λ_ _ h=>h) (λ_ _ _=>⟨λ_ h=>h,rfl⟩) (h.bX i hi)
 ·intro d' r p snap hm
  exact gF.ed eH (h.gh d' r p snap (yL hm).1)
 ·rw[nR]
  split
  ·rw[rM];exact h.dK d
  ·exact h.dK i
 ·intro j k hm;exact h.fe j k (nu hm).1
 ·intro r t m H v' hg hl
  rw[mm] at hg
  refine h.whole r t m H v' hg λk hm=>hl k (uM hm λe=>?_)
  grind [dN]
 ·intro j k hm R hR
  rw[mm] at hR
  exact h.eB j k (nu hm).1 R hR
theorem Rel.aB (h:Rel P C A X σ a w F) (d:Option Tmp) {s:Slot} {v:Value} {Fd X':FP} (hs:aQ P A σ a w v s Fd) (ht:∀ b i,X' b i+Fd b i<=X b i)
  (Gq:∀ t m H v',s=.box t m H v'->∃ b,v=.pointer (some ⟨b,0,none⟩)/\cf w b (t.sz,false)):∃ F',Rel P C A X' (σ.aB d s) (a.put d v) w F':=by
 cases d with
 | none=>exact ⟨F,h.less λb i=>by grind⟩
 | some d=>
  rcases Nat.lt_or_ge d σ.n with hd | hd
  ·exact ⟨_,h.put hd hs (λb i=>by grind) Gq⟩
  ·exact ⟨_,h.HF hd s v λb i=>by grind⟩
def rT (P:Program) (C:Ctx) (σ:St) (a:Act) (w:World):Prop:=∃ A F,Rel P C A (λ_ _=>0) σ a w F
end
end OT
set_option linter.unusedVariables false
set_option linter.unusedSimpArgs false
namespace OT
open Go
def zc:Ty->Option (List Value)
 | .int k=>some [.int k 0]
 | .bool=>some [.bool false]
 | .str=>some [.string ⟨#[]⟩]
 | .unit=>some []
 | .pair a b=>match zc a,zc b with
  | some x,some y=>some (x++y)
  | _,_=>none
 | .arr n e=>match zc e with
  | some x=>some (List.replicate n x).flatten
  | none=>none
 | .af _=>some [.slice none 0 0]
 | _=>none
def IJ:Value->Value->Bool
 | .int k n,.int k' n'=>decide (k=k')&&decide (n=n')
 | .bool a,.bool b=>a == b
 | .string s,.string t=>decide (s.data.toList=t.data.toList)
 | .slice none 0 0,.slice none 0 0=>true
 | _,_=>false
def we:List Value->List Value->Bool
 | [],[]=>true
 | a::x,b::y=>IJ a b&&we x y
 | _,_=>false
theorem IK {a b:Value} (h:IJ a b=true):a=b:=by
 unfold IJ at h
 split at h
 ·grind
 ·grind
 ·rename_i s t
  simp only[decide_eq_true_eq] at h
  congr 1
  cases s;simp_all
 all_goals grind
theorem Bd:∀ {x y:List Value},we x y=true->x=y
 | [],[],_=>rfl
 | a::x,b::y,h=>by
  simp only[we,Bool.and_eq_true] at h
  rw[IK h.1,Bd h.2]
 | [],_::_,h=>by simp[we] at h
 | _::_,[],h=>by simp[we] at h
def gY (P:Program) (t:Ty) (i:TypeId):Bool:=
 match P.info? i with
 | some inf=>Nat.beq inf.size t.sz&&Nat.ble inf.bytes 512&&(match inf.zero with
  | some z=>Nat.beq z.cells.size t.sz&&(match zc t with
   | some L=>we z.cells.toList L
   | none=>true)
  | none=>false)
 | none=>false
def gQ (P:Program):Ty->Sum TypeId (List Field)->Bool
 | .int _,.inl _=>true
 | .bool,.inl _=>true
 | .str,.inl _=>true
 | .unit,.inl i=>!P.stoodInHeld i
 | .unit,.inr _=>true
 | .pair a b,.inl i=>!P.stoodInHeld i&&(match P.underlying i with
  | some (.struct fs)=>(match fs.toList with
   | f::r=>f.name != "_" && gQ P a (.inl f.type)&&gQ P b (.inr r)
   | []=>false)
  | _=>false)
 | .pair a b,.inr (f::r)=>f.name != "_" && gQ P a (.inl f.type)&&gQ P b (.inr r)
 | .arr _ e,.inl i=>(match P.underlying i with
  | some (.array _ el)=>gQ P e (.inl el)
  | _=>false)
 | _,_=>false
def dep:Ty->Nat
 | .arr _ e=>dep e+1
 | .pair a b=>max (dep a+1) (dep b)
 | _=>1
def IL (P:Program) (k:Ty) (i:TypeId):Bool:=isAgg k&&k.eS&&k.flat&&gQ P k (.inl i)&&Nat.ble (dep k) 9000
def Gx (P:Program) (v:Ty) (i:TypeId):Bool:=match P.info? i with
 | some inf=>(match inf.zero with
  | some (.agg _)=>isAgg v
  | some _=>!isAgg v
  | none=>false)
 | none=>false
def ao (P:Program):Ty->Sum TypeId (List Field×Nat)->Bool
 | .int k,.inl i=>gY P (.int k) i&&(match P.underlying i with | some (.int k')=>decide (k=k') | _=>false)
 | .bool,.inl i=>gY P .bool i&&(match P.underlying i with | some .bool=>true | _=>false)
 | .str,.inl i=>gY P .str i&&(match P.underlying i with | some .string=>true | _=>false)
 | .unit,.inl i=>gY P .unit i&&(match P.underlying i with | some (.struct fs)=>fs.toList.isEmpty | _=>false)
 | .unit,.inr (fs,_)=>fs.isEmpty
 | .pair a b,.inl i=>gY P (.pair a b) i&&(match P.underlying i with
  | some (.struct fs)=>(match fs.toList with
   | f::r=>Nat.beq f.offset 0&&Nat.ble 1 a.sz&&ao P a (.inl f.type)&&ao P b (.inr (r,a.sz))
   | []=>false)
  | _=>false)
 | .pair a b,.inr (f::r,off)=>Nat.beq f.offset off&&Nat.ble 1 a.sz&&ao P a (.inl f.type)&&ao P b (.inr (r,off+a.sz))
 | .arr n e,.inl i=>gY P (.arr n e) i&&e.flat&&(match P.underlying i with | some (.array n' el)=>Nat.beq n n'&&Nat.ble 1 e.sz&&ao P e (.inl el) | _=>false)
 | .af e,.inl i=>gY P (.af e) i&&(match P.underlying i with | some (.slice el)=>Nat.ble 1 e.sz&&ao P e (.inl el) | _=>false)
 | .ptr e,.inl i=>gY P (.ptr e) i&&(match P.underlying i with | some (.pointer el)=>ao P e (.inl el) | _=>false)
 | .fn,.inl i=>gY P .fn i&&(match P.underlying i with | some (.func ..)=>true | _=>false)
 | .map k v,.inl i=>gY P (.map k v) i&&(match P.underlying i with | some (.map ki vi)=>ao P k (.inl ki)&&ao P v (.inl vi)&&IL P k ki&&Gx P v vi | _=>false)
 | _,_=>false
section
variable {P:Program} {w:World} {A:Cells}
theorem tk {t:Ty} {i:TypeId} (h:gY P t i=true):∃ inf z,P.info? i=some inf/\inf.size=t.sz/\inf.bytes<=512/\inf.zero=some z/\z.cells.size=t.sz/\∀ L,zc t=some L->z.cells.toList=L:=by
 grind [gY,Nat.beq_eq,Nat.ble_eq,Bd]
theorem de {t:Ty} {i:TypeId} (h:gY P t i=true):∃ inf,P.info? i=some inf/\inf.size=t.sz/\inf.bytes<=512/\∀ L,zc t=some L->∃ z,inf.zero=some z/\z.cells.toList=L:=by
 grind [tk]
theorem ei {t:Ty} {i:TypeId} (h:ao P t (.inl i)=true):gY P t i=true:=by
 cases t <;> simp only[ao,Bool.and_eq_true] at h <;> first | exact h.1 | exact h.1.1 | cases h
theorem nv {t:Ty} {i:TypeId} (h:ao P t (.inl i)=true):∃ d,P.underlying i=some d/\(isAgg t=true->(∃ fs,d=.struct fs)\/∃ n e,d=.array n e)/\(isAgg t=false->(∀ fs,d≠.struct fs)/\∀ n e,d≠.array n e):=by
 cases hd:P.underlying i with
 | none=>cases t <;> simp[ao,hd] at h
 | some d=>
  refine ⟨d,rfl,?_,?_⟩
  ·intro ha
   cases t <;> simp only[isAgg] at ha <;> first | cases ha | skip
   all_goals grind [ao]
  ·intro ha
   cases t <;> simp only[isAgg] at ha <;> first | cases ha | skip
   all_goals grind [ao]
theorem wP {t:Ty} {i:TypeId} (h:ao P t (.inl i)=true):(Go.isAgg i).run P w=.ok (isAgg t) w:=by
 obtain ⟨d,h1,Y,h3⟩:=nv h
 unfold Go.isAgg
 simp only[Sem.run_bind,run_underlying h1,Result.andThen_ok]
 cases ht:isAgg t with
 | true=>
  rcases Y ht with ⟨fs,rfl⟩ | ⟨n,e,rfl⟩ <;> rfl
 | false=>
  simp_all
theorem run_sizeOf {t:Ty} {i:TypeId} (h:ao P t (.inl i)=true):(Go.sizeOf i).run P w=.ok t.sz w:=by
 obtain ⟨inf,h1,Y,_⟩:=de (ei h)
 simp[Go.sizeOf,typeInfo,h1,Y]
theorem yR {t:Ty} (h:isAgg t=false):t.sz=1:=by cases t <;> simp_all [isAgg,Ty.sz]
theorem gi (b o n:Nat):(⟨b,o,none⟩:Addr).add n=⟨b,o+n,none⟩:=by grind [Addr.add]
theorem mB {t:Ty} {i:TypeId} (h:ao P t (.inl i)=true) {b o:Nat} {L:List Value} (hL:Has w b o L) (hl:L.length=t.sz) (gj:∀ u ∈ L,u.oneCell'=true):(loadVar i ⟨b,o,none⟩).run P w=.ok (aY t L) w:=by
 unfold loadVar
 simp only[Sem.run_bind,wP h,Result.andThen_ok]
 cases ht:isAgg t with
 | true=>
  have:=run_loadCells_list (P:=P) w ⟨b,o,none⟩ L (λj v hj=>by rw[gi];exact kT (hL j v hj) (gj v (List.mem_of_getElem? hj)))
  rw[hl] at this
  simp only[if_true,Sem.run_bind,run_sizeOf h,Result.andThen_ok,this,Sem.run_pure,aY,ht]
 | false=>
  have hs:=yR ht
  match L,hl with
  | [y],_=>
   have:=kT (hL 0 y rfl) (gj y (by simp))
   grind [run_load,aY]
  | [],hl=>grind
  | _::_::_,hl=>grind
theorem o8:∀ (t:Ty) {L:List Value} {i:Sum TypeId (List Field×Nat)},zc t=some L->ao P t i=true->ae P w A t (aF t) [] t.zero L (λ_ _=>0)/\Ro P w A t t.zero L/\L.length=t.sz:=by
 intro t
 induction t with
 | int k=>intro L i h _;injection h with h;subst h;cases k <;> exact ⟨rfl,rfl,rfl⟩
 | bool=>intro L i h _;injection h with h;subst h;exact ⟨rfl,rfl,rfl⟩
 | str=>intro L i h _;injection h with h;subst h;exact ⟨rfl,rfl,rfl⟩
 | unit=>intro L i h _;injection h with h;subst h;exact ⟨rfl,rfl,rfl⟩
 | pair a b d_ dT=>
  intro L i h hl
  simp only[zc] at h
  split at h
  ·rename_i x y hx hy
   injection h with h;subst h
   have:∃ ia ib,ao P a ia=true/\ao P b ib=true:=by
    cases i with
    | inl i=>
     grind [ao]
    | inr fo=>
     obtain ⟨fs,off⟩:=fo
     cases fs <;> grind [ao]
   obtain ⟨ia,ib,h1,Y⟩:=this
   obtain ⟨ra,oa,la⟩:=d_ hx h1
   obtain ⟨rb,ob,lb⟩:=dT hy Y
   have e1:(x++y).take a.sz=x:=List.take_left' la
   have e2:(x++y).drop a.sz=y:=List.drop_left' la
   refine ⟨⟨rfl,λ_ _=>0,λ_ _=>0,λ_ _=>Nat.le_refl _,by rw[e1];exact ra,by rw[e2];exact rb⟩,⟨by rw[e1];exact oa,by rw[e2];exact ob⟩,by grind [Ty.sz]⟩
  ·cases h
 | arr n e ih=>
  intro L i h hl
  simp only[zc] at h
  split at h
  ·rename_i z hz
   injection h with h;subst h
   have:e.flat=true/\∃ ie,ao P e ie=true:=by
    grind [ao]
   obtain ⟨hf,ie,he⟩:=this
   obtain ⟨re,oe,le⟩:=ih hz he
   have hlen:∀ n,((List.replicate n z).flatten).length=n*e.sz:=λn=>by
    simp_all
   have im:Ro P w A (.arr n e) (Ty.arr n e).zero ((List.replicate n z).flatten):=by
    refine ⟨hf,by simp[Ty.zero],hlen n,λi x hx=>?_⟩
    have hi:i < n:=by grind [Ty.zero]
    have hx:x=e.zero:=by
     grind [Ty.zero]
    subst hx
    have:(((List.replicate n z).flatten).drop (i*e.sz)).take e.sz=z:=by
     have e1:n=i+(1+(n - i - 1)):=by omega
     rw[e1,<- List.replicate_append_replicate,<- List.replicate_append_replicate,List.flatten_append,List.flatten_append]
     grind
    grind
   exact ⟨⟨rfl,im⟩,im,hlen n⟩
  ·cases h
 | af e ih=>
  intro L i h _
  injection h with h;subst h
  refine ⟨?_,⟨none,0,rfl,Nat.le_refl _,λ_=>rfl,λad cR=>by cases cR⟩,rfl⟩
  simp only[ae,hole,List.any_nil,Bool.false_eq_true,if_false,aF,kI,Md.own,if_true]
  exact ⟨none,0,rfl,Nat.le_refl _,by simp[maxLen],λ_=>rfl,λad cR=>by cases cR⟩
 | ptr e ih=>grind [zc]
 | fn=>grind [zc]
 | map k v=>grind [zc]
theorem ng {t:Ty} {i:TypeId} (h:ao P t (.inl i)=true) {L:List Value} (hz:zc t=some L):∃ z,(zeroValue i).run P w=.ok z w/\z.cells.toList=L:=by
 obtain ⟨inf,h1,Y,_,h3⟩:=de (ei h)
 obtain ⟨z,h4,h5⟩:=h3 L hz
 simp_all [zeroValue,typeInfo]
end
end OT
