/- The proof's parts, merged: The pure interpreter of the model s code over owned trees  definitions alone, nothing is claimed here.. No conditions but those that each states. -/
import GoSem.Core.Code
import GoSem.Core.View
import Derived.Laws.IdiomCopy
import Derived.Laws.Cells
import Derived.Laws.AppendOwn
import Derived.Calls
import Derived.Lib.LaidTab
import Derived.Lib.ItoaNum
import Derived.Laws.Entries
import Derived.Laws.NewFold
import Derived.Laws.Sem
namespace OT
open Go
inductive Ty where
 | int (k:IntKind)
 | bool
 | str
 | unit
 | pair (a b:Ty)
 | arr (n:Nat) (e:Ty)
 | ae (e:Ty)
 | ptr (e:Ty)
 | fn
 | map (k v:Ty)
 deriving DecidableEq
@[reducible] def uw:IntKind->Type
 | .u8=>UInt8
 | _=>Int
@[reducible] def Ty.den:Ty->Type
 | .int k=>uw k
 | .bool=>Bool
 | .str=>List UInt8
 | .unit=>Unit
 | .pair a b=>a.den×b.den
 | .arr _ e=>List e.den
 | .ae e=>List e.den
 | .ptr e=>e.den
 | .fn=>Nat×Int
 | .map k v=>List (k.den×v.den)
def Ty.sz:Ty->Nat
 | .unit=>0
 | .pair a b=>a.sz+b.sz
 | .arr n e=>n*e.sz
 | _=>1
def Ty.flat:Ty->Bool
 | .pair a b=>a.flat&&b.flat
 | .arr _ e=>e.flat
 | .ae _ | .ptr _ | .map _ _=>false
 | _=>true
def iw:(k:IntKind)->uw k->Int
 | .u8,n=>(n.toNat:Int)
 | .i8,n=>n
 | .i16,n=>n
 | .i32,n=>n
 | .i64,n=>n
 | .u16,n=>n
 | .u32,n=>n
 | .u64,n=>n
def wg:(k:IntKind)->Int->uw k
 | .u8,n=>UInt8.ofInt n
 | .i8,n=>IntKind.wrap .i8 n
 | .i16,n=>IntKind.wrap .i16 n
 | .i32,n=>IntKind.wrap .i32 n
 | .i64,n=>IntKind.wrap .i64 n
 | .u16,n=>IntKind.wrap .u16 n
 | .u32,n=>IntKind.wrap .u32 n
 | .u64,n=>IntKind.wrap .u64 n
def Mb:(k:IntKind)->Int->uw k
 | .u8,n=>UInt8.ofInt n
 | .i8,n=>n
 | .i16,n=>n
 | .i32,n=>n
 | .i64,n=>n
 | .u16,n=>n
 | .u32,n=>n
 | .u64,n=>n
def Ty.zero:(t:Ty)->t.den
 | .int k=>Mb k 0
 | .bool=>false
 | .str=>[]
 | .unit=>()
 | .pair a b=>(a.zero,b.zero)
 | .arr n e=>List.replicate n e.zero
 | .ae _=>[]
 | .ptr e=>e.zero
 | .fn=>(0,0)
 | .map _ _=>[]
def Ty.oI:Ty->Bool
 | .pair a b=>a.oI&&b.oI
 | .arr _ e=>e.oI
 | .ptr _ | .fn | .map _ _=>false
 | _=>true
def Ty.eq:(t:Ty)->t.den->t.den->Bool
 | .int .u8,a,b=>a == b
 | .int .i8,a,b=>decide (a=b)
 | .int .i16,a,b=>decide (a=b)
 | .int .i32,a,b=>decide (a=b)
 | .int .i64,a,b=>decide (a=b)
 | .int .u16,a,b=>decide (a=b)
 | .int .u32,a,b=>decide (a=b)
 | .int .u64,a,b=>decide (a=b)
 | .bool,a,b=>a == b
 | .str,a,b=>decide (a=b)
 | .pair x y,a,b=>x.eq a.1 b.1&&y.eq a.2 b.2
 | .arr _ e,a,b=>(a.zip b).all λp=>e.eq p.1 p.2
 | _,_,_=>true
def Ty.gW:Ty->Bool
 | .int _ | .bool | .str | .unit=>true
 | .pair a b=>a.gW&&b.gW
 | .arr _ e=>e.gW
 | _=>false
def Ty.jo:Ty->Bool
 | .pair a b=>a.jo&&b.jo
 | .arr _ e | .ae e | .ptr e=>e.jo
 | .map k v=>k.jo&&v.jo
 | .fn=>false
 | _=>true
inductive Md where
 | leaf
 | pair (a b:Md)
 | arr (e:Md)
 | ae (own:Bool) (e:Md)
 | ptr (own:Bool) (e:Md)
 deriving DecidableEq
def m_ (own:Bool):Ty->Md
 | .pair a b=>.pair (m_ own a) (m_ own b)
 | .arr _ e=>.arr (m_ own e)
 | .ae e=>.ae own (m_ own e)
 | .ptr e=>.ptr own (m_ own e)
 | .map _ _=>.ae own .leaf
 | _=>.leaf
abbrev aw:=m_ false
abbrev ak:=m_ true
def Md.l:Md->Md
 | .pair a _=>a
 | _=>.leaf
def Md.r:Md->Md
 | .pair _ b=>b
 | _=>.leaf
def Md.e:Md->Md
 | .arr e | .ae _ e | .ptr _ e=>e
 | _=>.leaf
def Md.own:Md->Bool
 | .ae o _ | .ptr o _=>o
 | _=>false
def Md.eB:Md->Bool
 | .leaf=>true
 | .pair a b=>a.eB&&b.eB
 | .arr e=>e.eB
 | .ae o e=>!o&&e.eB
 | .ptr o e=>!o&&e.eB
def fits:Md->Md->Bool
 | .leaf,.leaf=>true
 | .pair a b,.pair c d=>fits a c&&fits b d
 | .arr a,.arr b=>fits a b
 | .ae o a,.ae o' b=>(o||!o')&&(o'||b.eB)&&fits a b
 | .ptr o a,.ptr o' b=>(o||!o')&&(o'||b.eB)&&fits a b
 | _,_=>false
inductive Step where
 | fst
 | snd
 | idx (i:Nat)
 | jI (i:Nat)
abbrev Path:=List Step
def bD:Path->Nat
 | []=>0
 | .idx _::p=>bD p+1
 | _::p=>bD p
structure zs where
 t:Ty
 m:Md
 v:t.den
inductive Slot where
 | dead
 | oU
 | val (t:Ty) (v:t.den)
 | cp (t:Ty) (v:t.den)
 | own (t:Ty) (m:Md) (H:List Path) (v:t.den)
 | box (t:Ty) (m:Md) (H:List Path) (v:t.den)
 | ref (r:Nat) (p:Path) (snap:List Nat)
 | sub (r:Nat) (p:Path) (snap:List Nat) (lo hi:Nat)
 | ptr (r:Nat) (p:Path) (snap:List Nat)
 | kM (xs:List zs)
structure St where
 n:Nat
 sl:List (Nat×Slot)
 vr:List (Nat×List Nat)
 aF:List (Nat×Nat×Bool)
 gh:List (Nat×Nat×Path×List Nat):=[]
def gI {α:Type}:List (Nat×α)->Nat->Option α
 | [],_=>none
 | (k,x)::l,i=>if Nat.beq k i then some x else gI l i
def St.get (σ:St) (i:Nat):Slot:=if Nat.blt i σ.n then (match gI σ.sl i with | some s=>s | none=>.dead) else .dead
def St.eR (σ:St) (i:Nat):List Nat:=match gI σ.vr i with | some v=>v | none=>[0,0,0,0,0]
def lm:List Nat->List Nat:=λv=>v.map (·+1)
def mC (d:Nat):List Nat->List Nat
 | [b,x,y,z,w]=>match d with
  | 0=>[b,x+1,y,z,w+1]
  | 1=>[b,x,y+1,z,w+1]
  | 2=>[b,x,y,z+1,w+1]
  | _=>[b+1,x,y,z,w+1]
 | v=>lm v
def oV:List Nat->List Nat
 | [b,x,y,z,w]=>[b,x,y,z,w+1]
 | v=>lm v
def St.gc (σ:St) (i:Nat) (f:List Nat->List Nat):St:={ σ with vr:=(i,f (σ.eR i))::σ.vr }
def r_:List (Nat×Nat×Bool)->Nat->List (Nat×Nat×Bool)
 | [],_=>[]
 | (k,b)::l,i=>if Nat.beq k i then r_ l i else (k,b)::r_ l i
def De:List (Nat×Nat×Path×List Nat)->Nat->List (Nat×Nat×Path×List Nat)
 | [],_=>[]
 | (d,x)::l,i=>if Nat.beq d i then De l i else (d,x)::De l i
def sa:List (Nat×Nat×Bool)->Nat->List (Nat×Nat×Bool)
 | [],_=>[]
 | (k,n,b)::l,i=>if Nat.beq k i&&b then sa l i else (k,n,b)::sa l i
def ux:List (Nat×Nat×Bool)->Nat->Nat->Bool->Bool
 | [],_,_,_=>false
 | (k,n,b)::l,i,j,c=>(Nat.beq k i&&Nat.beq n j&&(b == c))||ux l i j c
def uV:List (Nat×Nat×Bool)->Nat->Bool
 | [],_=>false
 | (k,_,b)::l,i=>(Nat.beq k i&&!b)||uV l i
def zt:List (Nat×Nat×Bool)->Nat->Option Nat
 | [],_=>none
 | (k,n,b)::l,i=>if Nat.beq k i&&b then some n else zt l i
def St.put (σ:St) (i:Nat) (s:Slot):St:={ n:=σ.n,sl:=(i,s)::σ.sl,vr:=(i,lm (σ.eR i))::σ.vr,aF:=r_ σ.aF i,gh:=De σ.gh i }
def St.head (σ:St) (r d:Nat):St:=match d with
 | 0=>{ σ with aF:=sa σ.aF r }
 | _=>σ
def St.eF (σ:St) (i:Nat) (s:Slot):St:={ σ with sl:=(i,s)::σ.sl }
def St.aQ (σ:St) (d:Option Tmp) (s:Slot):St:=match d with
 | some i=>σ.put i s
 | none=>σ
def preB:List Nat->List Nat->Bool
 | [],_=>true
 | a::x,b::y=>Nat.beq a b&&preB x y
 | _::_,[]=>false
section
variable {R:Type}
def dJ (t t':Ty) (v:t.den) (K:t'.den->Option R):Option R:=
 if h:t=t' then K (h ▸ v) else none
def n7:Path->Option Path
 | .fst::p=>some p
 | _=>none
def n8:Path->Option Path
 | .snd::p=>some p
 | _=>none
def p7 (H:List Path) (i:Nat) (K:List Path->Option R):Option R:=
 match H with
 | []=>K []
 | [.idx j::q]=>if i=j then K [q] else none
 | _=>none
def gX:(p:Path)->(t:Ty)->Md->List Path->t.den->((t':Ty)->Md->List Path->t'.den->Option R)->Option R
 | [],t,m,H,v,K=>K t m H v
 | .fst::p,.pair a _,m,H,v,K=>if H.any (·.isEmpty) then none else gX p a m.l (H.filterMap n7) v.1 K
 | .snd::p,.pair _ b,m,H,v,K=>if H.any (·.isEmpty) then none else gX p b m.r (H.filterMap n8) v.2 K
 | .idx i::p,.ae e,m,H,v,K=>p7 H i λH'=>(v[i]?).bind λx=>gX p e m.e H' x K
 | .jI i::p,.arr _ e,m,H,v,K=>if H.isEmpty then (v[i]?).bind λx=>gX p e m.e [] x K else none
 | _,_,_,_,_,_=>none
def kq:(p:Path)->(t:Ty)->Md->List Path->t.den ->
    ((t':Ty)->Md->List Path->t'.den->(Md->List Path->t'.den->Option R)->Option R)->(Md->List Path->t.den->Option R)->Option R
 | [],t,m,H,v,f,K=>f t m H v K
 | .fst::p,.pair a _,m,H,v,f,K=>
  if H.any (·.isEmpty) then none else
  kq p a m.l (H.filterMap n7) v.1 f λm' H' x=>K (.pair m' m.r) (H'.map (.fst::·)++(H.filterMap n8).map (.snd::·)) (x,v.2)
 | .snd::p,.pair _ b,m,H,v,f,K=>
  if H.any (·.isEmpty) then none else
  kq p b m.r (H.filterMap n8) v.2 f λm' H' x=>K (.pair m.l m') ((H.filterMap n7).map (.fst::·)++H'.map (.snd::·)) (v.1,x)
 | .idx i::p,.ae e,m,H,v,f,K=>
  if m.own then
   p7 H i λH0=>(v[i]?).bind λx=>
    kq p e m.e H0 x f λm' H' y=>
     if m'=m.e then K (.ae true m.e) (H'.map (.idx i::·)) (v.set i y)
     else if H'.isEmpty then K (.ae true (aw e)) [] (v.set i y) else none
  else none
 | .jI i::p,.arr _ e,m,H,v,f,K=>
  if H.isEmpty then (v[i]?).bind λx=>
   kq p e m.e [] x f λ_ H' y=>if H'.isEmpty then K m [] (v.set i y) else none
  else none
 | _,_,_,_,_,_,_=>none
def tY:Path->Ty->Option Ty
 | [],t=>some t
 | .fst::p,.pair a _=>tY p a
 | .snd::p,.pair _ b=>tY p b
 | .idx _::p,.ae e=>tY p e
 | .jI _::p,.arr _ e=>tY p e
 | _,_=>none
def oW (σ:St) (r:Nat) (K:(t:Ty)->Md->List Path->t.den->Option R):Option R:=
 match σ.get r with
 | .own t m H v | .box t m H v=>K t m H v
 | _=>none
def St.en (σ:St) (r:Nat) (t:Ty) (m:Md) (H:List Path) (v:t.den):St:=
 match σ.get r with
 | .box ..=>σ.eF r (.box t m H v)
 | _=>σ.eF r (.own t m H v)
def St.ok (σ:St) (r:Nat) (snap:List Nat):Bool:=preB snap (σ.eR r)
def i9 (σ:St) (r:Nat) (p:Path) (K:(t:Ty)->Md->List Path->t.den->Option R):Option R:=
 oW σ r λt m H v=>gX p t m H v K
def nX (σ:St) (r:Nat) (p:Path) (t:Ty) (m:Md) (v:t.den) (K:St->Option R):Option R:=
 oW σ r λt0 m0 H0 v0=>
  kq p t0 m0 H0 v0 (λt' _ _ _ k=>dJ t t' v λx=>k m [] x) λm' H' v'=>
   K (((σ.en r t0 m' H' v').gc r (if t.flat then oV else mC (bD p))).head r (bD p))
def mK:Ty->List Path
 | .pair a b=>(mK a).map (.fst::·)++(mK b).map (.snd::·)
 | .ae _ | .ptr _ | .map _ _=>[[]]
 | .arr _ e=>if e.flat then [] else [[]]
 | _=>[]
def rA (σ:St) (r:Nat) (p:Path) (K:St->Option R):Option R:=
 oW σ r λt0 m0 H0 v0=>
  kq p t0 m0 H0 v0 (λt' m' _ x k=>k m' (mK t') x) λm' H' v'=>
   K (((σ.en r t0 m' H' v').gc r (mC (bD p))).head r (bD p))
def p_ (σ:St) (r:Nat) (p:Path) (K:St->Option R):Option R:=
 oW σ r λt0 m0 H0 v0=>
  kq p t0 m0 H0 v0 (λt' m H x k=>if H.isEmpty&&fits m (aw t') then k (aw t') [] x else none) λm' H' v'=>
   K (σ.en r t0 m' H' v')
def oJ (σ:St) (r:Nat) (p:Path) (m1:Md) (K:St->Option R):Option R:=
 oW σ r λt0 m0 H0 v0=>
  kq p t0 m0 H0 v0 (λ_ m H x k=>if H.isEmpty&&fits m m1 then k m1 [] x else none) λm' H' v'=>
   K (σ.en r t0 m' H' v')
def oK (σ:St) (r:Nat) (p:Path):List Nat:=(σ.eR r).take (1+bD p)
def nE (σ:St) (r:Nat) (p:Path) (t:Ty):List Nat:=match t with
 | .ae _ | .map _ _=>(σ.eR r).take (2+bD p)
 | _=>σ.eR r
def l5:Value->Slot
 | .int .u8 n=>if ((UInt8.ofInt n).toNat:Int)=n then .val (.int .u8) (UInt8.ofInt n) else .dead
 | .int .i64 n=>.val (.int .i64) n
 | .int .u64 n=>.val (.int .u64) n
 | .int .u32 n=>.val (.int .u32) n
 | .int .i32 n=>.val (.int .i32) n
 | .bool b=>.val .bool b
 | .string s=>.val .str s.data.toList
 | .slice none 0 0=>.oU
 | _=>.dead
def bz (σ:St):Operand->Slot
 | .tmp i=>match σ.get i with
  | .own t _ _ _=>.ref i [] (nE σ i [] t)
  | .box _ _ _ _=>.ptr i [] (oK σ i [])
  | s=>s
 | .const v=>l5 v
 | .func f=>.val .fn (f,0)
 | .global _=>.dead
def fR (σ:St) (s:Slot) (mv:Bool) (t:Ty) (K:Md->t.den->St->Option R):Option R:=
 match s with
 | .val t' v=>dJ t' t v λv=>K (aw t) v σ
 | .cp t' v=>dJ (.ptr t') t v λv=>K (aw t) v σ
 | .oU=>match t with
  | .ae e=>K (ak (.ae e)) [] σ
  | _=>none
 | .ref r p snap=>
  if σ.ok r snap then
   i9 σ r p λt' m H v=>
    if H.isEmpty then dJ t' t v λv=>
     if m=aw t then K m v σ
     else if mv then rA σ r p λσ=>K m v σ
     else p_ σ r p λσ=>K (aw t) v σ
    else none
  else none
 | .sub r p snap lo hi=>
  if σ.ok r snap then
   i9 σ r p λt' m H v=>
    if H.isEmpty then dJ t' t v λv=>match t,v with
     | .ae e,v=>
      if m=aw (.ae e) then K m ((v.take hi).drop lo) σ
      else if mv then (if lo=0 then rA σ r p λσ=>K m ((v.take hi).drop lo) σ else none)
      else p_ σ r p λσ=>K (aw (.ae e)) ((v.take hi).drop lo) σ
     | _,_=>none
    else none
  else none
 | .ptr r [] snap=>
  if σ.ok r snap then
   match σ.get r with
   | .box t' m H v=>if H.isEmpty&&!uV σ.aF r then dJ (.ptr t') t v λv=>K (.ptr true m) v (σ.put r .dead) else none
   | _=>none
  else none
 | _=>none
def lH (σ:St) (s:Slot) (t:Ty) (K:t.den->Option R):Option R:=
 match s with
 | .val t' v=>dJ t' t v K
 | .cp t' v=>dJ (.ptr t') t v K
 | .oU=>match t with
  | .ae _=>K []
  | _=>none
 | .ref r p snap=>
  if σ.ok r snap then i9 σ r p λt' _ H v=>if H.isEmpty then dJ t' t v K else none
  else none
 | .sub r p snap lo hi=>
  if σ.ok r snap then
   i9 σ r p λt' _ H v=>if H.isEmpty then dJ t' t v λv=>match t,v with
    | .ae _,v=>K ((v.take hi).drop lo)
    | _,_=>none
   else none
  else none
 | .ptr r p snap=>
  if σ.ok r snap then i9 σ r p λt' _ H v=>if H.isEmpty then dJ (.ptr t') t v K else none
  else none
 | _=>none
def oC (s:Slot) (K:Int->Option R):Option R:=
 match s with
 | .val (.int k) n=>K (iw k n)
 | _=>none
def zu (s:Slot) (K:Bool->Option R):Option R:=
 match s with
 | .val .bool b=>K b
 | _=>none
def laid (t:Ty) (m:Md) (v:t.den):Slot:=
 if m=aw t then .val t v else
 match t,m,v with
 | .ptr e,.ptr true m',v=>.box e m' [] v
 | t,m,v=>.own t m [] v
end
end OT
namespace OT
open Go
noncomputable section
inductive PM where
 | ro
 | cZ (m m':Md)
 | gj (m:Md)
 | jX (m:Md)
 | iy (m:Md)
 | fix (f:Nat)
 deriving DecidableEq
def bK:List Ty->Ty
 | []=>.unit
 | t::ts=>.pair t (bK ts)
def e_:List (PM×Ty)->List Ty
 | []=>[]
 | (.cZ _ _,t)::ps=>t::e_ ps
 | (.gj _,t)::ps=>t::e_ ps
 | _::ps=>e_ ps
structure nc where
 cap:Bool:=false
 ps:List (PM×Ty)
 rs:List (Ty×Md)
 F:(bK (ps.map (·.2))).den->Option (bK (rs.map (·.1)++e_ ps)).den
 yh:(bK (ps.map (·.2))).den->List Path->Bool:=λ_ H=>H.isEmpty
structure Env where
 TI:Nat->Option Ty
 G:Nat->Option nc
 fz:List (Nat×Nat×Nat):=[]
 lv:List (Nat×List Nat):=[]
 lx:List (Nat×List Nat):=[]
 lf:List (Nat×List (Nat×Md)):=[]
 od:List (Nat×List Nat):=[]
 ar:List (Nat×List Nat):=[]
 bx:List (Nat×List Nat):=[]
 pd:List (Nat×List Nat):=[]
 er:List (Nat×List (Nat×Nat)):=[]
def G5:List (Nat×Nat×Nat)->Nat->Nat->Nat->Bool
 | [],_,_,_=>false
 | (a,b,c)::l,i,j,k=>(Nat.beq a i&&Nat.beq b j&&Nat.beq c k)||G5 l i j k
def cJ:Nat:=274877906944
section
variable {R:Type}
def jp (E:Env) (t:Nat) (K:Ty->Option R):Option R:=
 match E.TI t with
 | some t=>K t
 | none=>none
def gY:Nat->Path
 | 0=>[.fst]
 | n+1=>.snd::gY n
def mV:Nat->Ty->Option Ty
 | 0,.pair a _=>some a
 | n+1,.pair _ b=>mV n b
 | _,_=>none
def G6:Nat->(t:Ty)->t.den->((t':Ty)->t'.den->Option R)->Option R
 | 0,.pair a _,v,K=>K a v.1
 | n+1,.pair _ b,v,K=>G6 n b v.2 K
 | _,_,_,_=>none
def Df (σ:St) (r:Nat):Option Ty:=
 match σ.get r with
 | .own t _ _ _ | .box t _ _ _=>some t
 | _=>none
def yM (σ:St) (r:Nat) (p:Path):Option Ty:=
 match Df σ r with
 | some t=>tY p t
 | none=>none
def uW (E:Env) (σ:St) (T:Nat) (a:Slot) (mv:Bool) (d:Option Tmp) (K:St->Option R):Option R:=
 jp E T λT=>
 match a with
 | .cp t v=>if t=T then K (σ.aQ d (.val t v)) else none
 | .ptr r p snap=>
  if σ.ok r snap then
   i9 σ r p λt m H v=>
    if t=T then
     if t.flat then (if H.isEmpty then K (σ.aQ d (.val t v)) else none)
     else if m=aw t then (if H.isEmpty then (match mv with
      | true=>K (σ.aQ d (.ref r p (nE σ r p t)))
      | false=>K (σ.aQ d (.val t v))) else none)
     else match mv with
      | false=>K (σ.aQ d (.ref r p (nE σ r p t)))
      | true=>if H.isEmpty then rA σ r p λσ=>K (σ.aQ d (laid t m v)) else none
    else none
  else none
 | _=>none
def zw (E:Env) (σ:St) (T:Nat) (a:Operand) (mv fr:Bool) (d:Option Tmp) (K:St->Option R):Option R:=
 match fr with
 | false=>uW E σ T (bz σ a) mv d K
 | true=>match bz σ a with
  | .ptr r p snap=>if σ.ok r snap then p_ σ r p λσ=>uW E σ T (bz σ a) mv d K else none
  | _=>none
def Dg (E:Env) (σ:St) (T:Nat) (a x:Slot) (mv:Bool) (K:St->Option R):Option R:=
 jp E T λT=>
 match a with
 | .ptr r p snap=>
  if σ.ok r snap then
   if yM σ r p=some T then fR σ x mv T λm v σ=>nX σ r p T m v K else none
  else none
 | _=>none
def uX (E:Env) (σ:St) (S:Nat) (x:Slot) (j:Nat) (d:Option Tmp) (K:St->Option R):Option R:=
 jp E S λS=>
 match x with
 | .cp t v=>if t=S then G6 j t v λt' v'=>K (σ.aQ d (.cp t' v')) else none
 | .ptr r p snap=>if σ.ok r snap then (if yM σ r p=some S then (if (mV j S).isSome then K (σ.aQ d (.ptr r (p++gY j) snap)) else none) else none) else none
 | _=>none
def A8 (E:Env) (σ:St) (S:Nat) (x:Slot) (j:Nat) (d:Option Tmp) (K:St->Option R):Option R:=
 jp E S λS=>
 match x with
 | .val t v=>if t=S then G6 j t v λt' v'=>K (σ.aQ d (.val t' v')) else none
 | .ref r p snap=>
  if σ.ok r snap then
   if yM σ r p=some S then
    i9 σ r (p++gY j) λt m H v=>
     if t.flat||(m=aw t) then (if H.isEmpty then K (σ.aQ d (.val t v)) else none)
     else K (σ.aQ d (.ref r (p++gY j) (nE σ r (p++gY j) t)))
   else none
  else none
 | _=>none
def IS (n:Int) (len:Nat) (K:Nat->Option R):Option R:=
 if 0<=n/\n < (len:Int) then K n.toNat else none
def uY (E:Env) (σ:St) (T:Nat) (x ix:Slot) (d:Option Tmp) (K:St->Option R):Option R:=
 jp E T λT=>oC ix λn=>
 match x with
 | .val (.ae e) v=>if T=.ae e then (if 0<=n then (v[n.toNat]?).bind λy=>K (σ.aQ d (.cp e y)) else none) else none
 | .cp (.arr m e) v=>if T=.arr m e then (if 0<=n then (v[n.toNat]?).bind λy=>K (σ.aQ d (.cp e y)) else none) else none
 | .ref r p snap=>
  if σ.ok r snap then
   i9 σ r p λt m H v=>
    if H.any (·.isEmpty) then none else
    if t=T then
     match t,v with
     | .ae e,v=>
      if m.own then IS n v.length λi=>K (σ.aQ d (.ptr r (p++[.idx i]) (oK σ r (p++[.idx i]))))
      else if 0<=n then (v[n.toNat]?).bind λy=>K (σ.aQ d (.cp e y)) else none
     | _,_=>none
    else none
  else none
 | .sub r p snap lo hi=>
  if σ.ok r snap then
   i9 σ r p λt _ H _=>if H.any (·.isEmpty) then none else if t=T then IS n (hi - lo) λi=>K (σ.aQ d (.ptr r (p++[.idx (lo+i)]) (oK σ r (p++[.idx (lo+i)])))) else none
  else none
 | .ptr r p snap=>
  if σ.ok r snap then
   i9 σ r p λt _ _ v=>
    if t=T then
     match t,v with
     | .arr _ _,v=>IS n v.length λi=>K (σ.aQ d (.ptr r (p++[.jI i]) snap))
     | _,_=>none
    else none
  else none
 | _=>none
def Dh (E:Env) (σ:St) (T:Nat) (x ix:Slot) (d:Option Tmp) (K:St->Option R):Option R:=
 jp E T λT=>oC ix λn=>
 match x with
 | .val .str s=>if T=.str then (if 0<=n then (s[n.toNat]?).bind λc=>K (σ.aQ d (.val (.int .u8) c)) else none) else none
 | .val (.arr m e) v=>if T=.arr m e then (if 0<=n then (v[n.toNat]?).bind λy=>K (σ.aQ d (.val e y)) else none) else none
 | _=>none
def mL (len:Nat) (lo hi:Option Slot) (K:Nat->Nat->Option R):Option R:=
 match lo,hi with
 | none,none=>K 0 len
 | some l,none=>oC l λl=>if 0<=l/\l<=(len:Int) then K l.toNat len else none
 | none,some h=>oC h λh=>if 0<=h/\h<=(len:Int) then K 0 h.toNat else none
 | some l,some h=>oC l λl=>oC h λh=>if 0<=l/\l<=h/\h<=(len:Int) then K l.toNat h.toNat else none
def Di (E:Env) (σ:St) (T:Nat) (x:Slot) (lo hi:Option Slot) (d:Option Tmp) (K:St->Option R):Option R:=
 jp E T λT=>
 match x with
 | .val .str s=>if T=.str then mL s.length lo hi λl h=>K (σ.aQ d (.val .str ((s.take h).drop l))) else none
 | .val (.ae e) v=>if T=.ae e then mL v.length lo hi λl h=>K (σ.aQ d (.val (.ae e) ((v.take h).drop l))) else none
 | .ref r p snap=>
  if σ.ok r snap then
   i9 σ r p λt m H v=>
    if H.any (·.isEmpty) then none else
    if t=T then
     match t,v with
     | .ae e,v=>
      if m.own then mL v.length lo hi λl h=>K (σ.aQ d (.sub r p snap l h))
      else mL v.length lo hi λl h=>K (σ.aQ d (.val (.ae e) ((v.take h).drop l)))
     | _,_=>none
    else none
  else none
 | .sub r p snap l0 h0=>
  if σ.ok r snap then
   i9 σ r p λt _ H _=>if H.any (·.isEmpty) then none else if t=T then mL (h0 - l0) lo hi λl h=>K (σ.aQ d (.sub r p snap (l0+l) (l0+h))) else none
  else none
 | _=>none
def KL (E:Env) (σ:St) (t:Nat) (x:Slot) (K:Nat->Option R):Option R:=
 jp E t λT=>
 match T with
 | .str=>match x with
  | .val .str s=>K s.length
  | _=>none
 | .ae _=>match x with
  | .val (.ae _) v=>K v.length
  | .oU=>K 0
  | .ref r p snap=>
   if σ.ok r snap then
    i9 σ r p λt _ H v=>if H.any (·.isEmpty) then none else match t,v with
     | .ae _,v=>K v.length
     | _,_=>none
   else none
  | .sub r _ snap lo hi=>if σ.ok r snap then K (hi - lo) else none
  | _=>none
 | _=>none
def tn (σ:St) (x:Slot) (e:Ty) (mv:Bool) (K:Md->List e.den->St->Option R):Option R:=
 match x with
 | .val .str s=>dJ (.ae (.int .u8)) (.ae e) s λs=>K .leaf s σ
 | x=>fR σ x mv (.ae e) λm v σ=>K m.e v σ
def A9 (E:Env) (σ:St) (T:Nat) (b:Slot) (x:Operand) (mv tf:Bool) (d:Option Tmp) (K:St->Option R):Option R:=
 jp E T λT=>
 match T with
 | .ae e=>
  match tf&&(e.flat&&e.jo) with
  | true=>tn σ (bz σ x) e false λ_ y _=>fR σ b true (.ae e) λm v σ=>
   if m.own then
    if v.length+y.length<=cJ then K (σ.aQ d (.own (.ae e) (.ae true (aw e)) [] (v++y))) else none
   else none
  | false=>
  fR σ b true (.ae e) λm v σ=>
   if m.own then
    tn σ (bz σ x) e mv λme y σ=>
     if v.length+y.length<=cJ then
      K (σ.aQ d (.own (.ae e) (.ae true (if me=m.e then me else aw e)) [] (v++y)))
     else none
   else none
 | _=>none
def jc {α:Type} (v:List α) (lo n:Nat) (y:List α):List α:=v.take lo++y.take n++v.drop (lo+n)
def G7 (E:Env) (σ:St) (T:Nat) (b:Operand) (x:Slot) (d:Option Tmp) (K:St->Option R):Option R:=
 jp E T λT=>
 match T with
 | .ae e=>
  if e.flat then
   tn σ x e true λ_ y σ=>
    match bz σ b with
    | .sub r p snap lo hi=>
     if σ.ok r snap then
      i9 σ r p λt m H v=>
       if m.own&&H.isEmpty then dJ t (.ae e) v λv=>
        nX σ r p (.ae e) m (jc v lo (min y.length (hi - lo)) y) λσ'=>
         K (({ σ' with vr:=(σ.gc r oV).vr,aF:=σ.aF }).aQ d (.val (.int .i64) ((min y.length (hi - lo):Nat):Int)))
       else none
     else none
    | .ref r p snap=>
     if σ.ok r snap then
      i9 σ r p λt m H v=>
       if m.own&&H.isEmpty then dJ t (.ae e) v λv=>
        nX σ r p (.ae e) m (jc v 0 (min y.length v.length) y) λσ'=>
         K (({ σ' with vr:=(σ.gc r oV).vr,aF:=σ.aF }).aQ d (.val (.int .i64) ((min y.length v.length:Nat):Int)))
       else none
     else none
    | _=>none
  else none
 | _=>none
def wz:Nat->(t:Ty)->Md->t.den->(t':Ty)->Md->t'.den->(Md->t.den->Option R)->Option R
 | 0,.pair a _,m,v,t',m',x,K=>dJ t' a x λx=>K (.pair m' m.r) (x,v.2)
 | n+1,.pair _ b,m,v,t',m',x,K=>wz n b m.r v.2 t' m' x λTV y=>K (.pair m.l TV) (v.1,y)
 | _,_,_,_,_,_,_,_=>none
def wA (E:Env) (σ:St) (t:Ty) (fz:Nat->Bool):List (Nat×Operand)->Nat->Md->t.den->(Md->t.den->St->Option R)->Option R
 | [],_,m,v,K=>K m v σ
 | (j,x)::ps,n,m,v,K=>
  match mV j t with
  | some t'=>fR σ (bz σ x) (!fz n) t' λm' y σ'=>wz j t m v t' m' y λm v=>wA E σ' t fz ps (n+1) m v K
  | none=>none
def wB (σ:St) (e:Ty) (fz:Nat->Bool):List (Nat×Operand)->Nat->Md->List e.den->(Md->List e.den->St->Option R)->Option R
 | [],_,m,v,K=>K m v σ
 | (j,x)::ps,n,m,v,K=>
  if Nat.beq j n then
   fR σ (bz σ x) (!fz n) e λm' y σ'=>wB σ' e fz ps (n+1) (if m'=m then m else aw e) (v++[y]) K
  else none
def Dj (σ:St) (e:Ty) (fz:Nat->Bool):List (Nat×Operand)->Nat->List e.den->(List e.den->St->Option R)->Option R
 | [],_,v,K=>K v σ
 | (j,x)::ps,n,v,K=>
  fR σ (bz σ x) (!fz n) e λ_ y σ'=>if j < v.length then Dj σ' e fz ps (n+1) (v.set j y) K else none
def Dk (op:BinOp) (k:IntKind) (a b:Int) (K:(t:Ty)->t.den->Option R):Option R:=
 match op with
 | .add=>K (.int k) (wg k (a+b))
 | .sub=>K (.int k) (wg k (a - b))
 | .mul=>K (.int k) (wg k (a*b))
 | .quo=>if b=0 then none else K (.int k) (wg k (a.tdiv b))
 | .rem=>if b=0 then none else K (.int k) (Mb k (a.tmod b))
 | .and=>K (.int k) (wg k ((BitVec.ofInt k.bits a &&& BitVec.ofInt k.bits b).toNat:Int))
 | .or=>K (.int k) (wg k ((BitVec.ofInt k.bits a ||| BitVec.ofInt k.bits b).toNat:Int))
 | .xor=>K (.int k) (wg k ((BitVec.ofInt k.bits a ^^^ BitVec.ofInt k.bits b).toNat:Int))
 | .shl=>if b < 0 then none else K (.int k) (wg k (a*2 ^ (min b.toNat k.bits)))
 | .shr=>if b < 0 then none else K (.int k) (Mb k (a.fdiv (2 ^ (min b.toNat k.bits))))
 | .eql=>K .bool (decide (a=b))
 | .neq=>K .bool (!decide (a=b))
 | .lss=>K .bool (decide (a < b))
 | .leq=>K .bool (decide (a<=b))
 | .gtr=>K .bool (decide (b < a))
 | .geq=>K .bool (decide (b<=a))
 | _=>none
def KM (op:BinOp) (a b:List UInt8) (K:(t:Ty)->t.den->Option R):Option R:=
 match op with
 | .add=>if a.length+b.length<=cJ then K .str (a++b) else none
 | .eql=>K .bool (decide (a=b))
 | .neq=>K .bool (!decide (a=b))
 | _=>none
def both (a b:Option R):Option R:=open Classical in if a=b then a else none
def G8 {α:Type} (v:List α) (a b:Option R):Option R:=match v with
 | []=>both a b
 | _::_=>b
def Oh {α:Type} (op:BinOp) (v:List α) (K:(t:Ty)->t.den->Option R):Option R:=match op with
 | .eql=>G8 v (K .bool true) (K .bool false)
 | .neq=>G8 v (K .bool false) (K .bool true)
 | _=>none
def Dl (E:Env) (tid:Nat) (op:BinOp) (x y:Slot) (K:(t:Ty)->t.den->Option R):Option R:=
 match x,y with
 | .val (.int k) a,.val (.int k') b=>
  match op with
  | .shl | .shr=>Dk op k (iw k a) (iw k' b) K
  | _=>if k=k' then Dk op k (iw k a) (iw k' b) K else none
 | .val .str a,.val .str b=>KM op a b K
 | .val t a,.val t' b=>
  match op with
  | .eql=>if t.gW then jp E tid λT=>if T=t then dJ t' t b λb=>K .bool (t.eq a b) else none else none
  | .neq=>if t.gW then jp E tid λT=>if T=t then dJ t' t b λb=>K .bool (!t.eq a b) else none else none
  | _=>none
 | .val (.ae e) v,.oU=>jp E tid λT=>if T=.ae e then Oh op v K else none
 | _,_=>none
def uZ (E:Env) (σ:St) (S T:Nat) (x:Slot) (d:Option Tmp) (K:St->Option R):Option R:=
 jp E S λS=>jp E T λT=>
 match T with
 | .int k=>match x with
  | .val (.int k') n=>if S=.int k' then K (σ.aQ d (.val (.int k) (wg k (iw k' n)))) else none
  | _=>none
 | .str=>match S with
  | .str=>match x with
   | .val .str s=>K (σ.aQ d (.val .str s))
   | _=>none
  | .ae (.int .u8)=>lH σ x (.ae (.int .u8)) λv=>K (σ.aQ d (.val .str v))
  | _=>none
 | .ae (.int .u8)=>match x with
  | .val .str s=>if S=.str then (if s.length<=cJ then K (σ.aQ d (.own (.ae (.int .u8)) (ak (.ae (.int .u8))) [] s)) else none) else none
  | _=>none
 | _=>none
def Dm (σ:St) (s:Slot) (t:Ty) (K:t.den->Option R):Option R:=
 match s with
 | .val t' v=>dJ t' t v K
 | .cp t' v=>dJ (.ptr t') t v K
 | .oU=>match t with
  | .ae _=>K []
  | _=>none
 | .ref r p snap=>
  if σ.ok r snap then i9 σ r p λt' m H v=>if H.isEmpty&&(t'.flat||decide (m=aw t')) then dJ t' t v K else none
  else none
 | .sub r p snap lo hi=>
  if σ.ok r snap then
   i9 σ r p λt' m H v=>if H.isEmpty&&decide (m=aw t') then dJ t' t v λv=>match t,v with
    | .ae _,v=>K ((v.take hi).drop lo)
    | _,_=>none
   else none
  else none
 | _=>none
def sb (σ:St) (ow:Bool) (pm:PM) (t:Ty) (s:Slot) (K:t.den->Option (Nat×Path)->Option R):Option R:=
 match pm with
 | .ro=>match ow with
  | true=>lH σ s t λv=>K v none
  | false=>Dm σ s t λv=>K v none
 | .fix f=>match s with
  | .val .fn v=>if Nat.beq v.1 f then dJ .fn t v λv=>K v none else none
  | _=>none
 | .cZ m _=>match s with
  | .ptr r p snap=>
   if σ.ok r snap then i9 σ r p λt' m' H v=>if H.isEmpty&&decide (m'=m) then dJ t' t v λv=>K v (some (r,p)) else none
   else none
  | _=>none
 | .jX m=>match s with
  | .ptr r p snap=>
   if σ.ok r snap then i9 σ r p λt' m' H v=>if H.isEmpty&&decide (m'=m) then dJ t' t v λv=>K v (some (r,p)) else none
   else none
  | _=>none
 | .gj m=>match s with
  | .ref r p snap=>
   if σ.ok r snap then i9 σ r p λt' m' H v=>if H.isEmpty&&decide (m'=m) then dJ t' t v λv=>K v (some (r,p)) else none
   else none
  | _=>none
 | .iy m=>match s with
  | .ref r p snap=>
   if σ.ok r snap then i9 σ r p λt' m' _ v=>if m'=m then dJ t' t v λv=>K v (some (r,p)) else none
   else none
  | _=>none
def gk:Slot->List Nat
 | .ref r _ _ | .sub r _ _ _ _ | .ptr r _ _=>[r]
 | _=>[]
def CX (σ:St) (ow:Bool):(ps:List (PM×Ty))->List Slot->((bK (ps.map (·.2))).den->List (Nat×Path)->Option R)->Option R
 | [],[],K=>K () []
 | (pm,t)::ps,s::ss,K=>sb σ ow pm t s λv w=>CX σ ow ps ss λvs ws=>K (v,vs) (match w with | some x=>x::ws | none=>ws)
 | _,_,_=>none
def kU (σ:St):List (PM×Ty)->List Operand->(St->Option R)->Option R
 | (.cZ m _,_)::ps,x::xs,K=>match bz σ x with
  | .ptr r p snap=>if σ.ok r snap then i9 σ r p λ_ m' _ _=>if m'=m then kU σ ps xs K else oJ σ r p m λσ=>kU σ ps xs K else none
  | _=>none
 | (.jX m,_)::ps,x::xs,K=>match bz σ x with
  | .ptr r p snap=>if σ.ok r snap then i9 σ r p λ_ m' _ _=>if m'=m then kU σ ps xs K else oJ σ r p m λσ=>kU σ ps xs K else none
  | _=>none
 | (.gj m,_)::ps,x::xs,K=>match bz σ x with
  | .ref r p snap=>if σ.ok r snap then i9 σ r p λ_ m' _ _=>if m'=m then kU σ ps xs K else oJ σ r p m λσ=>kU σ ps xs K else none
  | _=>none
 | (.iy m,_)::ps,x::xs,K=>match bz σ x with
  | .ref r p snap=>if σ.ok r snap then i9 σ r p λ_ m' _ _=>if m'=m then kU σ ps xs K else oJ σ r p m λσ=>kU σ ps xs K else none
  | _=>none
 | _::ps,_::xs,K=>kU σ ps xs K
 | _,_,K=>K σ
def Oi (x:Operand) (r:Nat) (t:Ty) (v:t.den) (σ:St):St:=match x with
 | .tmp i=>match Nat.beq i r||!Nat.blt i σ.n with
  | true=>σ
  | false=>(σ.put i .dead).put i (.cp t v)
 | _=>σ
def sc (σ:St):List (PM×Ty)->List Operand->(St->Option R)->Option R
 | (.ro,t)::ps,x::xs,K=>
  if t.flat then sc σ ps xs K else
  match bz σ x with
  | .ref r p snap=>if σ.ok r snap then p_ σ r p λσ=>sc σ ps xs K else none
  | .sub r p snap _ _=>if σ.ok r snap then p_ σ r p λσ=>sc σ ps xs K else none
  | .ptr r p snap=>if σ.ok r snap then
    match p,σ.get r with
    | [],.box t m H v=>if H.isEmpty&&fits m (aw t) then sc (Oi x r t v ((σ.put r .dead).put r (.cp t v))) ps xs K else none
    | _,_=>none
   else none
  | _=>sc σ ps xs K
 | _::ps,_::xs,K=>sc σ ps xs K
 | _,_,K=>K σ
def apart:List Nat->List (Nat×Path)->Bool
 | _,[]=>true
 | all,(r,_)::ws=>Nat.ble (all.count r) 1&&apart all ws
def kV (σ:St):(ps:List (PM×Ty))->List (Nat×Path)->(bK (e_ ps)).den->(St->Option R)->Option R
 | [],[],_,K=>K σ
 | (.ro,_)::ps,ws,v,K=>kV σ ps ws v K
 | (.fix _,_)::ps,ws,v,K=>kV σ ps ws v K
 | (.cZ _ m,t)::ps,(r,p)::ws,v,K=>nX σ r p t m v.1 λσ=>kV σ ps ws v.2 K
 | (.jX m,t)::ps,(r,p)::ws,v,K=>match nX σ r p t m t.zero (λ_=>some ()) with
  | some _=>kV (σ.put r .dead) ps ws v K
  | none=>none
 | (.iy _,_)::ps,(r,p)::ws,v,K=>rA σ r p λσ=>kV σ ps ws v K
 | (.gj m,t)::ps,(r,p)::ws,v,K=>nX σ r p t m v.1 λσ'=>kV { σ' with vr:=(σ.gc r (mC (bD p+1))).vr,aF:=σ.aF } ps ws v.2 K
 | _,_,_,_=>none
def fa:(rs:List (Ty×Md))->{ts:List Ty}->(bK (rs.map (·.1)++ts)).den->List zs×(bK ts).den
 | [],_,v=>([],v)
 | (t,m)::rs,_,v=>(⟨t,m,v.1⟩::(fa rs v.2).1,(fa rs v.2).2)
def nF:List zs->Slot
 | []=>.dead
 | [x]=>laid x.t x.m x.v
 | xs=>.kM xs
def oX:List (Ty×Md)->Bool
 | []=>true
 | (t,m)::rs=>(t.flat||decide (m=ak t))&&t.jo&&oX rs
def gg:List (PM×Ty)->Bool
 | []=>true
 | (.cZ m m',t)::ps=>(t.flat||decide (m=ak t))&&t.jo&&((t.flat||decide (m'=ak t))&&gg ps)
 | (.gj m,t)::ps=>(t.flat||decide (m=ak t))&&t.jo&&gg ps
 | (.jX m,t)::ps=>(t.flat||decide (m=ak t))&&t.jo&&gg ps
 | (.iy m,t)::ps=>(t.flat||decide (m=ak t))&&t.jo&&gg ps
 | _::ps=>gg ps
def wh:Ty->Bool
 | .int .u8 | .map _ _ | .fn=>false
 | .pair a b=>wh a&&wh b
 | .arr _ e | .ae e | .ptr e=>wh e
 | _=>true
def yi:Ty->Bool
 | .pair a b=>yi a&&yi b
 | .ae (.int .u8)=>true
 | t=>t.flat&&t.jo
def lE:List (PM×Ty)->Bool
 | []=>true
 | (.ro,t)::ps=>(t.flat&&t.jo||wh t)&&lE ps
 | (.fix _,_)::ps=>lE ps
 | (.cZ _ _,t)::ps=>yi t&&lE ps
 | _=>false
def zx:List (PM×Ty)->Bool
 | []=>true
 | (.jX _,_)::_ | (.iy _,_)::_=>false
 | _::ps=>zx ps
def G9:List (PM×Ty)->Bool
 | []=>false
 | (.iy _,_)::_=>true
 | _::ps=>G9 ps
def KN (σ:St) (hv:Bool) (ho:List Path->Bool) (ws:List (Nat×Path)) (K:Option R):Option R:=
 match hv,ws with
 | true,(r,p)::_=>i9 σ r p λ_ _ H _=>match ho H with
  | true=>K
  | false=>none
 | _,_=>K
def zy (g:nc) (ow:Bool) (σ:St) (xs:List Operand) (ex:List Slot) (d:Option Tmp) (K:St->Option R):Option R:=
 kU σ g.ps xs λσ=>
  CX σ ow g.ps (xs.map (bz σ)++ex) λv ws=>
   if Nat.ble ws.length 1&&apart ((xs.map (bz σ)++ex).flatMap gk) ws then
    KN σ (G9 g.ps) (g.yh v) ws ((g.F v).bind λout=>
     kV σ g.ps ws (fa g.rs out).2 λσ=>K (σ.aQ d (nF (fa g.rs out).1)))
   else none
def u0 (g:nc) (σ:St) (xs:List Operand) (ex:List Slot) (d:Option Tmp) (K:St->Option R):Option R:=
 match oX g.rs&&(gg g.ps||lE g.ps) with
 | true=>zy g true σ xs ex d K
 | false=>sc σ g.ps xs λσ=>zy g false σ xs ex d K
def A_ (E:Env) (σ:St) (T:Nat) (x:Operand) (mv:Bool) (d:Option Tmp) (K:St->Option R):Option R:=
 match bz σ x with
 | .dead=>K (σ.aQ d .dead)
 | .oU=>jp E T λT=>match T with
  | .ae e=>K (σ.aQ d (.own (.ae e) (ak (.ae e)) [] []))
  | _=>none
 | .kM []=>K (σ.aQ d (.kM []))
 | .kM _=>none
 | .ref r p snap=>
  if σ.ok r snap then
   match yM σ r p with
   | some t=>fR σ (.ref r p snap) mv t λm v σ=>K (σ.aQ d (laid t m v))
   | none=>none
  else none
 | .sub r p snap lo hi=>
  if σ.ok r snap then
   match yM σ r p with
   | some t=>fR σ (.sub r p snap lo hi) mv t λm v σ=>K (σ.aQ d (laid t m v))
   | none=>none
  else none
 | .ptr r p snap=>
  match p,σ.get r with
  | [],.box t m H v=>if σ.ok r snap&&mv&&!uV σ.aF r then (match d with | some i=>K ((σ.put r .dead).put i (.box t m H v)) | none=>none) else K (σ.aQ d (.ptr r [] snap))
  | p,_=>K (σ.aQ d (.ptr r p snap))
 | s=>K (σ.aQ d s)
def G_ (σ:St) (x:Operand) (d:Option Tmp) (K:St->Option R):Option R:=
 match bz σ x,x with
 | .kM xs,.tmp i=>K ((σ.put i .dead).aQ d (.kM xs))
 | .kM _,_=>none
 | s,_=>K (σ.aQ d s)
def Dn (σ:St) (x:Operand) (d:Option Tmp) (σ':St):St:=
 match x,d with
 | .tmp i,some d=>match σ.get i with
  | .own _ _ _ _=>match zt σ.aF i with
   | some n=>{ σ' with aF:=(d,n,true)::σ'.aF }
   | none=>σ'
  | _=>σ'
 | _,_=>σ'
def Do:Slot->Option (Nat×Int)
 | .val .fn f=>some f
 | _=>none
def gm {α:Type} (k:Ty) (m:List (k.den×α)) (x:k.den):Option α:=(m.find? λe=>k.eq x e.1).map (·.2)
def oY {α:Type} (k:Ty) (m:List (k.den×α)) (x:k.den) (y:α):List (k.den×α):=match m.findIdx? (λe=>k.eq x e.1) with
 | some i=>m.set i (x,y)
 | none=>m++[(x,y)]
def yj {α:Type} (o:Option α) (z:α):α:=match o with
 | some x=>x
 | none=>z
def Ba (E:Env) (σ:St) (T:Nat) (x ix:Slot) (ok:Bool) (d:Option Tmp) (K:St->Option R):Option R:=
 jp E T λT=>
 match T with
 | .map k v=>
  if v.oI then
   match x with
   | .ref r p snap=>
    if σ.ok r snap then
     i9 σ r p λt _ H y=>
      if H.isEmpty then dJ t (.map k v) y λy=>
       match ix with
       | .val t2 i=>dJ t2 k i λi=>
        match ok with
        | true=>K (σ.aQ d (.kM [⟨v,aw v,yj (gm k y i) v.zero⟩,⟨.bool,.leaf,(gm k y i).isSome⟩]))
        | false=>K (σ.aQ d (.val v (yj (gm k y i) v.zero)))
       | _=>none
      else none
    else none
   | _=>none
  else none
 | _=>none
def Bb (E:Env) (σ:St) (T:Nat) (x ix y:Slot) (K:St->Option R):Option R:=
 jp E T λT=>
 match T with
 | .map k v=>
  match x with
  | .ref r p snap=>
   if σ.ok r snap then
    i9 σ r p λt m H z=>
     if m.own&&H.isEmpty then dJ t (.map k v) z λz=>
      match ix,y with
      | .val t2 i,.val t3 w=>dJ t2 k i λi=>dJ t3 v w λw=>
       nX σ r p (.map k v) m (oY k z i w) λσ'=>K { σ' with vr:=(σ.gc r oV).vr,aF:=σ.aF }
      | _,_=>none
     else none
   else none
  | _=>none
 | _=>none
def IT:Option Ty->Bool
 | some (.map _ _)=>true
 | _=>false
def Bc (E:Env) (σ:St) (T:Nat) (x:Slot) (K:Nat->Option R):Option R:=
 jp E T λT=>
 match T with
 | .map k v=>
  match x with
  | .ref r p snap=>
   if σ.ok r snap then
    i9 σ r p λt _ H y=>if H.isEmpty then dJ t (.map k v) y λy=>K (List.length y) else none
   else none
  | _=>none
 | _=>none
def kI (E:Env) (cQ i:Nat) (o:Oper) (σ:St) (K:St->Option R):Option R:=
 let fz:=G5 E.fz cQ i
 let d:=o.dst
 match o.op with
 | .move x=>G_ σ x d K
 | .assign x=>A_ E σ o.type x (!fz 0) d K
 | .pick c a b=>zu (bz σ c) λc=>match bz σ (bif c then a else b) with
  | .val .bool x=>K (σ.aQ d (.val .bool x))
  | _=>none
 | .alloc t=>jp E t λt=>if t.oI then K (σ.aQ d (.box t (ak t) [] t.zero)) else none
 | .box t x=>jp E t λt=>fR σ (bz σ x) (!fz 0) t λm v σ'=>K (Dn σ x d (σ'.aQ d (.box t m [] v)))
 | .build t ps=>jp E t λt=>match t with
  | .arr n e=>if e.oI then Dj σ e fz ps.toList 0 (Ty.arr n e).zero λv σ=>K (σ.aQ d (laid (.arr n e) (ak (.arr n e)) v)) else none
  | .pair t1 t2=>if (Ty.pair t1 t2).oI then wA E σ (.pair t1 t2) fz ps.toList 0 (ak (.pair t1 t2)) (Ty.pair t1 t2).zero λm v σ=>K (σ.aQ d (laid (.pair t1 t2) m v)) else none
  | _=>none
 | .buildSlice t n ps=>jp E t λt=>match t with
  | .ae e=>if Nat.beq n ps.size&&e.oI&&Nat.ble (n*e.sz) 16777216 then wB σ e fz ps.toList 0 (ak e) [] λm v σ=>K (σ.aQ d (.own (.ae e) (.ae true m) [] v)) else none
  | _=>none
 | .load t a=>zw E σ t a (fz 7) (fz 8) d K
 | .store t a x=>match d with
  | none=>Dg E σ t (bz σ a) (bz σ x) (!fz 1) K
  | some _=>none
 | .nilCheck x=>match bz σ x with
  | .ptr r p snap=>if σ.ok r snap then K (σ.aQ d (.ptr r p snap)) else none
  | .cp t v=>K (σ.aQ d (.cp t v))
  | .val .fn f=>K (σ.aQ d (.val .fn f))
  | _=>none
 | .binOp op t x y _=>Dl E t op (bz σ x) (bz σ y) λt v=>K (σ.aQ d (.val t v))
 | .unOp op _ x=>match op,bz σ x with
  | .not,.val .bool b=>K (σ.aQ d (.val .bool (!b)))
  | .neg,.val (.int k) n=>K (σ.aQ d (.val (.int k) (wg k (0 - iw k n))))
  | _,_=>none
 | .convert s t x=>uZ E σ s t (bz σ x) d K
 | .fieldAddr t x j=>uX E σ t (bz σ x) j d K
 | .field t x j=>A8 E σ t (bz σ x) j d K
 | .indexAddr t x ix=>uY E σ t (bz σ x) (bz σ ix) d K
 | .index t x ix=>Dh E σ t (bz σ x) (bz σ ix) d K
 | .slice t x lo hi none=>Di E σ t (bz σ x) (lo.map (bz σ)) (hi.map (bz σ)) d K
 | .makeSlice t n c=>jp E t λt=>match t with
  | .ae e=>oC (bz σ n) λn=>oC (bz σ c) λc=>
   if e.oI then (if 0<=n/\n<=c/\c<=(cJ:Int) then K (σ.aQ d (.own (.ae e) (ak (.ae e)) [] (List.replicate n.toNat e.zero))) else none) else none
  | _=>none
 | .extract x j=>match x with
  | .tmp i=>match σ.get i with
   | .kM xs=>match xs[j]? with
    | some x=>if x.t=.unit then none else K ((σ.put i (.kM (xs.set j ⟨.unit,.leaf,()⟩))).aQ d (laid x.t x.m x.v))
    | none=>none
   | _=>none
  | _=>none
 | .makeFunc (.func f) first cs=>
  if first.size=0 then
   match cs.toList with
   | []=>K (σ.aQ d (.val .fn (f,0)))
   | [.tmp i]=>match σ.get i with
    | .box (.int .i64) _ _ n=>K (((σ.put i .dead).put i (.cp (.int .i64) n)).aQ d (.val .fn (f,n)))
    | _=>none
   | _=>none
  else none
 | .makeMap t none=>jp E t λt=>match t with
  | .map k v=>if k.flat&&v.flat then K (σ.aQ d (.own (.map k v) (ak (.map k v)) [] [])) else none
  | _=>none
 | .lookup t x ix ok=>Ba E σ t (bz σ x) (bz σ ix) ok d K
 | .mapUpdate t x ix y=>match d with
  | none=>Bb E σ t (bz σ x) (bz σ ix) (bz σ y) K
  | some _=>none
 | .call c=>match c.callee with
  | .builtin .len=>match c.args.toList,c.argTypes.toList with
   | [x],[t]=>match IT (E.TI t) with
    | false=>KL E σ t (bz σ x) λn=>K (σ.aQ d (.val (.int .i64) (n:Int)))
    | true=>Bc E σ t (bz σ x) λn=>K (σ.aQ d (.val (.int .i64) (n:Int)))
   | _,_=>none
  | .builtin .append=>match c.args.toList,c.argTypes.toList with
   | [b,x],t::_=>A9 E σ t (bz σ b) x (!fz 1) (fz 2) d K
   | _,_=>none
  | .builtin .copy=>match c.args.toList,c.argTypes.toList with
   | [b,x],t::_=>G7 E σ t b (bz σ x) d K
   | _,_=>none
  | .value (.func f)=>match E.G f with
   | some g=>match g.cap with
    | false=>u0 g σ c.args.toList [] d K
    | true=>none
   | none=>none
  | .value (.tmp i)=>match Do (σ.get i) with
   | some (f,n)=>match E.G f with
    | some g=>match g.cap with
     | true=>u0 g σ c.args.toList [.cp (.int .i64) n] d K
     | false=>u0 g σ c.args.toList [] d K
    | none=>none
   | none=>none
  | _=>none
 | _=>none
def g_ (l:List (Nat×List Nat)) (i:Nat):List Nat:=match gI l i with | some x=>x | none=>[]
def wC (ops:List Oper) (σ:St) (g:Option (Nat×Bool)) (K:Bool->St->Option R):Option R:=
 match g with
 | none=>K true σ
 | some (j,want)=>match (ops[j]?).bind (·.dst) with
  | none=>none
  | some t=>match σ.get t with
   | .val .bool b=>match b with
    | true=>K (want == true) (σ.eF t (.val .bool true))
    | false=>K (want == false) (σ.eF t (.val .bool false))
   | .kM []=>K false σ
   | _=>none
def Bd (E:Env) (cQ:Nat) (ops:List Oper):List Oper->Nat->St->(St->Option R)->Option R
 | [],_,σ,K=>K σ
 | o::rest,i,σ,K=>wC ops σ o.guard λb σ=>
  match b with
  | true=>kI E cQ i o σ λσ=>Bd E cQ ops rest (i+1) σ K
  | false=>Bd E cQ ops rest (i+1) (σ.aQ o.dst (.kM [])) K
def Dp (σ:St) (o:Oper):Bool:=match o.op with
 | .load _ x=>match bz σ x with
  | .cp _ _=>true
  | _=>false
 | .convert _ _ x=>match bz σ x with
  | .val (.int _) _=>true
  | .val .str _=>true
  | .val (.ae (.int .u8)) _=>true
  | _=>false
 | _=>false
def Dq (E:Env) (cQ i:Nat):Bool:=(g_ E.ar cQ).any (Nat.beq i)
def xQ:Op->Bool
 | .store .. | .mapUpdate .. | .call ..=>true
 | _=>false
def oZ:Path->Path->Bool
 | [],[]=>true
 | .fst::p,.fst::q=>oZ p q
 | .snd::p,.snd::q=>oZ p q
 | .idx i::p,.idx j::q=>Nat.beq i j&&oZ p q
 | .jI i::p,.jI j::q=>Nat.beq i j&&oZ p q
 | _,_=>false
def Mc (σ:St) (r:Nat) (p:Path) (v:Int):Bool:=
 match i9 σ r p λt _ _ x=>dJ t (.int .i64) x λy=>some (decide ((y:Int)=v)) with
 | some b=>b
 | none=>false
def KO (σ:St) (o:Oper):Bool:=match o.op,o.dst with
 | .load _ (.tmp i),some d=>match σ.get i with
  | .ptr r p s=>match σ.get d with
   | .ref r' p' s'=>Nat.beq r r'&&(σ.ok r s&&σ.ok r s')&&oZ p p'
   | .val (.int .i64) v=>σ.ok r s&&Mc σ r p v
   | _=>false
  | .box ..=>match σ.get d with
   | .ref r' p' s'=>Nat.beq i r'&&σ.ok i s'&&oZ [] p'
   | _=>false
  | _=>false
 | _,_=>false
def zA (l:List (Nat×List (Nat×Nat))) (i:Nat):List (Nat×Nat):=match gI l i with | some x=>x | none=>[]
def Ha (E:Env) (cQ i:Nat):Bool:=(zA E.er cQ).any λe=>Nat.beq i e.1
def Hc (E:Env) (cQ:Nat) (ops:List Oper) (is:List Nat) (σ:St):Bool:=(zA E.er cQ).all λe=>is.any (Nat.beq e.1)||!(is.any (Nat.beq e.2)||Nat.ble ops.length e.2)||(match ops[e.1]? with
 | some o=>KO σ o
 | none=>false)
def zB (E:Env) (cQ:Nat) (ops:List Oper) (i:Nat) (o:Oper) (is:List Nat) (σ:St):Bool:=!(xQ o.op||Ha E cQ i)||Hc E cQ ops is σ
def Gb (σ:St):List Nat->(St->Option R)->Option R
 | [],K=>K σ
 | i::is,K=>match σ.get i with
  | .box t m H v=>if H.isEmpty&&fits m (aw t) then Gb ((σ.put i .dead).put i (.cp t v)) is K else none
  | _=>none
def Be (σ:St) (d:Nat):Bool:=Nat.blt d σ.n&&(match σ.get d with
 | .dead=>true
 | _=>false)&&!uV σ.aF d&&!σ.gh.any λe=>Nat.beq e.1 d
def Hd (E:Env) (cQ:Nat) (ops:List Oper) (is:List Nat) (σ:St):Bool:=(g_ E.pd cQ).all λj=>!is.any (Nat.beq j)||(match (ops[j]?).bind (·.dst) with
 | some d=>Be σ d
 | none=>false)
def IU (ops:List Oper) (σ:St):List Nat->(St->Option R)->Option R
 | [],K=>K σ
 | j::js,K=>match (ops[j]?).bind (·.dst) with
  | some d=>IU ops (σ.put d .dead) js K
  | none=>none
def wD (E:Env) (cQ:Nat) (ops:List Oper):List Nat->St->(St->Option R)->Option R
 | [],σ,K=>K σ
 | i::is,σ,K=>
  match Hd E cQ ops (i::is) σ with
  | false=>none
  | true=>
  match ops[i]? with
  | none=>none
  | some o=>wC ops σ o.guard λb σ=>
   match b with
   | true=>match Dq E cQ i&&!Dp σ o with
    | true=>none
    | false=>kI E cQ i o σ λσ=>match zB E cQ ops i o is σ with
     | true=>wD E cQ ops is σ K
     | false=>none
   | false=>wD E cQ ops is (σ.aQ o.dst (.kM [])) K
def ln:Code->Nat
 | .region id _ _=>id
 | .seq a _=>ln a
 | .block _ b=>ln b
 | .loop b=>ln b
 | .scope b=>ln b
 | _=>0
def wE (live:List Nat) (fr:List (Nat×Md)) (r:Nat):Bool:=live.any (Nat.beq r)&&(match gI fr r with
 | none=>true
 | some _=>false)
def eU (live:List Nat) (fr:List (Nat×Md)) (σ:St) (i:Nat):Slot:=
 match σ.get i with
 | .ptr r p snap=>if σ.ok r snap&&wE live fr r then .ptr r p (snap.map λ_=>0) else .dead
 | .ref r p snap=>if σ.ok r snap&&wE live fr r then .ref r p (snap.map λ_=>0) else .dead
 | .sub r p snap lo hi=>if σ.ok r snap&&wE live fr r then .sub r p (snap.map λ_=>0) lo hi else .dead
 | s=>s
def qX (live:List Nat) (σ:St):St:={ n:=σ.n,sl:=live.map λi=>(i,eU live [] σ i),vr:=[],aF:=σ.aF }
def to (fr:List (Nat×Md)) (i:Nat) (s:Slot):Slot:=
 match gI fr i with
 | none=>s
 | some m1=>
  match s with
  | .own t m H v=>if H.isEmpty&&fits m m1 then (if m1=aw t then .val t v else .own t m1 [] v) else .dead
  | .box t m H v=>if H.isEmpty&&fits m m1 then .box t m1 [] v else .dead
  | s=>s
def eG (live:List Nat) (fr:List (Nat×Md)) (σ:St):St:={ n:=σ.n,sl:=live.map λi=>(i,to fr i (eU live fr σ i)),vr:=[],aF:=σ.aF }
def He (l:List (Nat×List (Nat×Md))) (i:Nat):List (Nat×Md):=match gI l i with | some x=>x | none=>[]
inductive Ex where
 | normal
 | exit (id:Nat)
def gQ (rec:St->Option R) (kp:St->St) (K:Ex->St->Option R):Ex->St->Option R
 | .normal,σ=>rec (kp σ)
 | .exit j,σ=>K (.exit j) σ
def aU (B:St->(Ex->St->Option R)->Option R) (K:Ex->St->Option R):Ex->St->Option R
 | .normal,σ=>B σ K
 | .exit j,σ=>K (.exit j) σ
def ap (id:Nat) (K:Ex->St->Option R):Ex->St->Option R
 | .normal,σ=>K .normal σ
 | .exit j,σ=>if Nat.beq j id then K .normal σ else K (.exit j) σ
def xR (F:St->(Ex->St->Option R)->Option R) (kp:St->St) (K:Ex->St->Option R):Nat->St->Option R
 | 0,_=>none
 | k+1,σ=>F σ (gQ (xR F kp K k) kp K)
def mW (E:Env) (k:Nat) (fin:St->Option R):Code->St->(Ex->St->Option R)->Option R
 | .skip,σ,K=>K .normal σ
 | .region id ops d,σ,K=>match d with
  | false=>Bd E id ops.toList ops.toList 0 σ λσ=>Gb σ (g_ E.bx id) λσ=>K .normal σ
  | true=>Gb σ (g_ E.bx id) λσ=>IU ops.toList σ (g_ E.pd id) λσ=>wD E id ops.toList (g_ E.od id) σ λσ=>K .normal σ
 | .seq a b,σ,K=>mW E k fin a σ (aU (mW E k fin b) K)
 | .cond c a b,σ,K=>zu (bz σ c) λc=>match c with
  | true=>mW E k fin a σ K
  | false=>mW E k fin b σ K
 | .block id b,σ,K=>mW E k fin b σ (ap id K)
 | .loop b,σ,K=>xR (mW E k fin b) (eG (g_ E.lv (ln b)) (He E.lf (ln b))) K k (eG (g_ E.lv (ln b)) (He E.lf (ln b)) σ)
 | .scope b,σ,K=>mW E k fin b σ K
 | .exit id,σ,K=>K (.exit id) (qX (g_ E.lx id) σ)
 | .ret,σ,_=>fin σ
 | _,_,_=>none
end
def sub:List Nat->Code->Code
 | [],c=>c
 | i::p,.seq a b=>match i with
  | 0=>sub p a
  | _=>sub p b
 | i::p,.cond _ a b=>match i with
  | 0=>sub p a
  | _=>sub p b
 | _::p,.block _ b=>sub p b
 | _::p,.loop b=>sub p b
 | _::p,.scope b=>sub p b
 | _,c=>c
def aD {V R:Type} (B:(V->Option R)->V->Option R):Nat->V->Option R
 | 0,_=>none
 | k+1,v=>B (aD B k) v
theorem aR {V R:Type} (F:St->(Ex->St->Option R)->Option R) (kp:St->St) (K:Ex->St->Option R) (σ:V->St) (B:(V->Option R)->V->Option R)
  (h:∀ (rec:St->Option R) (v:V),F (σ v) (gQ rec kp K)=B (λv'=>rec (σ v')) v):∀ (n:Nat) (v:V),xR F kp K n (σ v)=aD B n v:=by
 intro n
 induction n with
 | zero=>intro v;rfl
 | succ n ih=>
  intro v
  show F (σ v) (gQ (xR F kp K n) kp K)=B (aD B n) v
  simp_all
end
end OT
namespace OT
open Go
noncomputable section
def db:(ps:List (PM×Ty))->(bK (ps.map (·.2))).den->List Slot
 | [],_=>[]
 | (.ro,.ptr e)::ps,v=>.cp e v.1::db ps v.2
 | (.fix f,.fn)::ps,v=>.val .fn (f,v.1.2)::db ps v.2
 | (.fix _,_)::ps,v=>.dead::db ps v.2
 | (.ro,t)::ps,v=>.val t v.1::db ps v.2
 | (.cZ m _,t)::ps,v=>.box t m [] v.1::db ps v.2
 | (.gj m,t)::ps,v=>.own t m [] v.1::db ps v.2
 | (.iy m,t)::ps,v=>.own t m [] v.1::db ps v.2
 | (.jX m,t)::ps,v=>.box t m [] v.1::db ps v.2
def sd:Nat->List Slot->List (Nat×Slot)
 | _,[]=>[]
 | i,s::ss=>(i,s)::sd (i+1) ss
def nf:Nat->List (PM×Ty)->List (Nat×Nat×Bool)
 | _,[]=>[]
 | i,(.cZ _ _,_)::ps=>(i,i,false)::nf (i+1) ps
 | i,(.gj _,_)::ps=>(i,i,true)::nf (i+1) ps
 | i,(.jX _,_)::ps=>(i,i,false)::nf (i+1) ps
 | i,_::ps=>nf (i+1) ps
def uy (ps:List (PM×Ty)) (v:(bK (ps.map (·.2))).den) (n:Nat):St:={ n:=n,sl:=sd 0 (db ps v),vr:=[],aF:=nf 0 ps }
section
variable {R:Type}
def o5 (σ:St):Nat->(ps:List (PM×Ty))->List Nat->((bK (e_ ps)).den->Option R)->Option R
 | _,[],_,K=>K ()
 | j,(.ro,_)::ps,es,K=>o5 σ (j+1) ps es K
 | j,(.fix _,_)::ps,es,K=>o5 σ (j+1) ps es K
 | j,(.jX _,_)::ps,es,K=>o5 σ (j+1) ps es K
 | j,(.iy _,_)::ps,es,K=>o5 σ (j+1) ps es K
 | j,(.cZ _ m,t)::ps,i::es,K=>match σ.get i with
  | .box t' m' H v=>if H.isEmpty&&(decide (m'=m)||fits m' m)&&ux σ.aF i j false then dJ t' t v λv=>o5 σ (j+1) ps es λvs=>K (v,vs) else none
  | _=>none
 | j,(.gj m,t)::ps,i::es,K=>match σ.get i with
  | .own t' m' H v | .box t' m' H v=>if H.isEmpty&&(decide (m'=m)||fits m' m)&&ux σ.aF i j true then dJ t' t v λv=>o5 σ (j+1) ps es λvs=>K (v,vs) else none
  | _=>none
 | _,_,_,_=>none
def zC (σ:St):ResultVar->Slot
 | .tmp i=>bz σ (.tmp i)
 | .cell a _=>match σ.get a with
  | .box _ _ _ _=>.ref a [] (σ.eR a)
  | _=>.dead
def Hf (σ:St) (ts:List Ty) (mv:Nat->Bool) (fin:St->((bK ts).den->Option R)->Option R) :
    (rs:List (Ty×Md))->List ResultVar->Nat->((bK (rs.map (·.1)++ts)).den->Option R)->Option R
 | [],[],_,K=>fin σ K
 | (t,m)::rs,x::xs,j,K=>fR σ (zC σ x) (mv j) t λm' v σ'=>
  if m'=m\/fits m' m=true then Hf σ' ts mv fin rs xs (j+1) λvs=>K (v,vs) else none
 | _,_,_,_=>none
end
def Dr (ps:List (PM×Ty)) (rs:List (Ty×Md)) (es:List Nat) (uz:List ResultVar) (mv:Nat->Bool) (σ:St):Option (bK (rs.map (·.1)++e_ ps)).den:=
 Hf σ (e_ ps) mv (λσ K=>o5 σ 0 ps es K) rs uz 0 some
def Me (fr:List Nat) (j:Nat):Bool:=!(fr.any (Nat.beq j))
def Oj {R:Type} (fin:St->Option R):Ex->St->Option R
 | .normal,σ=>fin σ
 | .exit _,_=>none
def wF (fn:Func):Code:=match fn.body with
 | some c=>c
 | none=>.refuse ""
abbrev PQ:Type:=List (PM×Ty)
abbrev RQ:Type:=List (Ty×Md)
abbrev TL:Type:=List (Nat×Ty)
abbrev GL:Type:=List (Nat×nc)
abbrev KT (R:Type):Type:=Ex->St->Option R
abbrev RT (R:Type):Type:=St->Option R
def CY (E:Env) (k:Nat) (fn:Func) (ps:List (PM×Ty)) (rs:List (Ty×Md)) (es fr:List Nat) (v:(bK (ps.map (·.2))).den):Option (bK (rs.map (·.1)++e_ ps)).den:=
 mW E k (Dr ps rs es fn.results.toList (Me fr)) (wF fn) (uy ps v fn.ntmps) (Oj (Dr ps rs es fn.results.toList (Me fr)))
def lift {R:Type} (f:Nat->Option R):Option R:=open Classical in if h:∃ out,∃ k,∀ k',k<=k'->f k'=some out then some h.choose else none
theorem aj {R:Type} {f:Nat->Option R} {out:R} {k:Nat} (h:∀ k',k<=k'->f k'=some out):lift f=some out:=by
 have hex:∃ out,∃ k,∀ k',k<=k'->f k'=some out:=⟨out,k,h⟩
 unfold lift
 rw[dif_pos hex]
 obtain ⟨k2,U⟩:=hex.choose_spec
 have e1:=h (max k k2) (Nat.le_max_left _ _)
 grind
theorem IV {R:Type} {f:Nat->Option R} {out:R} (h:lift f=some out):∃ k,f k=some out:=by
 unfold lift at h
 split at h
 ·rename_i hex
  obtain ⟨k,hk⟩:=hex.choose_spec
  injection h with h
  exact ⟨k,by grind⟩
 ·cases h
abbrev i64:Ty:=.int .i64
abbrev u8:Ty:=.int .u8
def ag (n:Int):Int:=IntKind.wrap .i64 n
end
end OT
set_option linter.unusedVariables false
set_option linter.unusedSimpArgs false
namespace OT
open Go
abbrev FP:=Nat->Nat->Nat
abbrev Cells:=Nat->Nat->Prop
def isAgg:Ty->Bool
 | .unit | .pair _ _ | .arr _ _=>true
 | _=>false
def bq (t:Ty) (cs:List Value):Value:=if isAgg t then .agg cs.toArray else cs.headD undef
def u7 (mD:List (Value×Value)):Value:=.tuple (mD.map λkv=>Value.tuple #[kv.1,kv.2]).toArray
def entriesOf (es:Array MapEntry):List (Value×Value):=es.toList.map λe=>(e.key,e.val)
def Hg (u:Value):Option Value:=if u.oneCell' then some u else none
def ce (w:World) (b i:Nat):Option Value:=match w.heap[b]? with
 | some (.map es _)=>if i=0 then some (u7 (entriesOf es)) else none
 | _=>(w.cell? ⟨b,i,none⟩).bind Hg
theorem se {w w2:World} {b:Nat} (h:w2.heap[b]?=w.heap[b]?) (i:Nat):ce w2 b i=ce w b i:=by grind [ce,World.cell?]
theorem wG {u v:Value} (h:Hg u=some v):v=u/\u.oneCell'=true:=by
 grind [Hg]
theorem nG {w:World} {b i:Nat} {u:Value} (h:ce w b i=some u) (hu:u.oneCell'=true):w.cell? ⟨b,i,none⟩=some u:=by
 unfold ce at h
 split at h
 ·split at h
  ·injection h with h;subst h;cases hu
  ·cases h
 ·cases hc:w.cell? ⟨b,i,none⟩ with
  | none=>grind
  | some v=>
   rw[hc] at h
   have:=wG h
   rw[this.1]
theorem xS {w:World} {b i:Nat} {u:Value} (h:w.cell? ⟨b,i,none⟩=some u) (hu:u.oneCell'=true):ce w b i=some u:=by
 grind [World.cell?,ce,Hg]
theorem KP:∀ {a b:List (Value×Value)},u7 a=u7 b->a=b:=by
 have main:∀ (a b:List (Value×Value)),(a.map λkv=>Value.tuple #[kv.1,kv.2])=(b.map λkv=>Value.tuple #[kv.1,kv.2])->a=b:=by
  intro a
  induction a with
  | nil=>simp_all
  | cons x a ih=>
   intro b h
   cases b <;> grind
 grind [u7]
theorem IW {w:World} {r:Nat} {mD:List (Value×Value)} (h:ce w r 0=some (u7 mD)):∃ es clock,w.heap[r]?=some (.map es clock)/\entriesOf es=mD:=by
 unfold ce at h
 split at h
 ·grind [KP]
 ·cases hc:w.cell? ⟨r,0,none⟩ with
  | none=>grind
  | some v=>
   rw[hc] at h
   have:=wG h
   have U:=this.2
   rw[<-this.1] at U
   cases U
theorem IX {w:World} {r:Nat} {es:Array MapEntry} {clock:Nat} (h:w.heap[r]?=some (.map es clock)):ce w r 0=some (u7 (entriesOf es)):=by
 grind [ce]
def Has (w:World) (b o:Nat) (L:List Value):Prop:=∀ j u,L[j]?=some u->ce w b (o+j)=some u
def Bf:Ty->Bool
 | .int .u8=>true
 | _=>false
def dg (w:World) (b:Nat) (n:Nat×Bool):Prop:=∃ c e fr,w.heap[b]?=some (.cells c e fr)/\c.size=n.1/\(∀ i,i < n.1->¬ (fr.1<=i/\i < fr.2))/\(n.2=false->¬ (fr.1<=n.1/\n.1 < fr.2))
def bP (b o n:Nat):FP:=λb' i=>if b'=b/\o<=i/\i < o+n then 1 else 0
def aA:Nat->(Nat->FP)->FP
 | 0,_=>λ_ _=>0
 | n+1,f=>λb i=>aA n f b i+f n b i
def cx (f:Nat->FP) (j:Nat) (g:FP):Nat->FP:=λi=>if i=j then g else f i
theorem o6 {n:Nat} {f g:Nat->FP} (h:∀ j,j < n->f j=g j):aA n f=aA n g:=by
 induction n with
 | zero=>rfl
 | succ n ih=>
  funext b i
  simp only[aA]
  rw[ih (λj hj=>h j (by omega)),h n (by omega)]
theorem l8 {n:Nat} (f:Nat->FP) {j:Nat} (hj:j < n) (g:FP) (b i:Nat):aA n (cx f j g) b i+f j b i=aA n f b i+g b i:=by
 induction n with
 | zero=>omega
 | succ n ih=>
  simp only[aA]
  by_cases h:j=n
  ·subst h
   have:aA j (cx f j g)=aA j f:=o6 λk hk=>by grind [cx]
   rw[this]
   simp[cx]
   omega
  ·have:=ih (by omega)
   have e:cx f j g n=f n:=by grind [cx]
   rw[e];omega
theorem Ds {n:Nat} (f:Nat->FP) {j:Nat} (hj:n<=j) (g:FP):aA n (cx f j g)=aA n f:=
 o6 λk hk=>by grind [cx]
theorem bu {n:Nat} (f:Nat->FP) {j:Nat} (hj:j < n) (b i:Nat):f j b i<=aA n f b i:=by
 induction n <;> grind [aA]
theorem l9 {n:Nat} (f:Nat->FP) {j k:Nat} (hj:j < n) (hk:k < n) (dI:j≠k) (b i:Nat):f j b i+f k b i<=aA n f b i:=by
 have h1:=l8 f hj (λ_ _=>0) b i
 have U:=bu (cx f j λ_ _=>0) hk b i
 have e:cx f j (λ_ _=>0) k=f k:=by grind [cx]
 rw[e] at U
 grind
theorem f7 (n:Nat) (b i:Nat):aA n (λ_ _ _=>0) b i=0:=by
 induction n <;> grind [aA]
theorem qa (n m:Nat) (f:Nat->FP) (b i:Nat):aA (n+m) f b i=aA n f b i+aA m (λj=>f (n+j)) b i:=by
 induction m <;> grind [aA]
theorem Bg {n:Nat} {f g:Nat->FP} (b i:Nat) (h:∀ j,j < n->f j b i<=g j b i):aA n f b i<=aA n g b i:=by
 induction n <;> grind [aA]
theorem IY (n:Nat) (f:Nat->FP) (k m:Nat) (h:k+m<=n) (b i:Nat):aA m (λj=>f (k+j)) b i<=aA n f b i:=by
 have e:n=k+(m+(n - k - m)):=by omega
 grind [qa]
theorem Dt {n:Nat} {f:Nat->FP} {b i:Nat} (h:1<=aA n f b i):∃ j,j < n/\1<=f j b i:=by
 induction n <;> grind [aA]
section
variable (P:Program) (w:World) (A:Cells)
def Ro:(t:Ty)->t.den->List Value->Prop
 | .int k,v,cs=>cs=[.int k (iw k v)]
 | .bool,v,cs=>cs=[.bool v]
 | .str,v,cs=>cs=[.string ⟨List.toArray v⟩]
 | .unit,_,cs=>cs=[]
 | .pair a b,v,cs=>Ro a v.1 (cs.take a.sz)/\Ro b v.2 (cs.drop a.sz)
 | .arr n e,v,cs=>e.flat=true/\List.length v=n/\cs.length=n*e.sz/\∀ (i:Nat) (x:e.den),v[i]?=some x->Ro e x ((cs.drop (i*e.sz)).take e.sz)
 | .ae e,v,cs=>∃ a cap,cs=[.slice a (List.length v) cap]/\List.length v<=cap/\(a=none->List.length v=0)/\∀ ad,a=some ad->(0 < cap->ad.spot=none) /\
   ∀ (i:Nat) (x:e.den),v[i]?=some x->∃ L:List Value,L.length=e.sz/\(∀ j u,L[j]?=some u->ce w ad.block (ad.off+i*e.sz+j)=some u/\A ad.block (ad.off+i*e.sz+j))/\Ro e x L
 | .ptr e,v,cs=>∃ ad,cs=[.pointer (some ad)]/\ad.spot=none /\
   ∃ L:List Value,L.length=e.sz/\(∀ j u,L[j]?=some u->ce w ad.block (ad.off+j)=some u/\A ad.block (ad.off+j))/\Ro e v L
 | .fn,v,cs=>∃ qY,cs=[.func (.func v.1) #[] qY]/\∃ fn,P.funcs[v.1]?=some fn /\
   ((fn.nfree=0/\qY=#[])\/(fn.nfree=1/\∃ ad:Addr,qY=#[.pointer (some ad)]/\ad.spot=none/\ce w ad.block ad.off=some (.int .i64 v.2)/\A ad.block ad.off))
 | .map k v,x,cs=>k.flat=true/\v.flat=true/\∃ (r:Nat) (mD:List (Value×Value)),cs=[.map (some r)]/\ce w r 0=some (u7 mD)/\A r 0/\mD.length=List.length x /\
   ∀ (i:Nat) (y:k.den×v.den),x[i]?=some y->∃ (kc vc:List Value),mD[i]?=some (bq k kc,bq v vc)/\Ro k y.1 kc/\Ro v y.2 vc
def hole (H:List Path):Bool:=H.any (·.isEmpty)
def fm (i:Nat):Path->Option Path
 | .idx j::p=>if i=j then some p else none
 | _=>none
def ah:(t:Ty)->Md->List Path->t.den->List Value->FP->Prop
 | .pair a b,m,H,v,cs,F=>hole H=false/\∃ F1 F2:FP,(∀ x i,F1 x i+F2 x i<=F x i) /\
   ah a m.l (H.filterMap n7) v.1 (cs.take a.sz) F1/\ah b m.r (H.filterMap n8) v.2 (cs.drop a.sz) F2
 | .ae e,m,H,v,cs,F=>
   if hole H then ∃ x:Value,cs=[x]/\x.oneCell'=true
   else if m.own then ∃ a cap,cs=[.slice a (List.length v) cap]/\List.length v<=cap/\cap<=maxLen/\(a=none->cap=0)/\∀ ad,a=some ad->ad.off=0/\ad.spot=none /\
    dg w ad.block (cap*e.sz,Bf e)/\∃ Fi:Nat->FP,(∀ x i,bP ad.block 0 (cap*e.sz) x i+aA (List.length v) Fi x i<=F x i) /\
    ∀ (i:Nat) (x:e.den),v[i]?=some x->∃ L:List Value,L.length=e.sz/\Has w ad.block (i*e.sz) L/\ah e m.e (H.filterMap (fm i)) x L (Fi i)
   else H=[]/\m.e.eB=true/\Ro P w A (.ae e) v cs
 | .ptr e,m,H,v,cs,F=>
   if hole H then ∃ x:Value,cs=[x]/\x.oneCell'=true
   else if m.own then ∃ b,cs=[.pointer (some ⟨b,0,none⟩)]/\dg w b (e.sz,false)/\∃ (L:List Value) (F1:FP),L.length=e.sz/\Has w b 0 L /\
    (∀ x i,bP b 0 e.sz x i+F1 x i<=F x i)/\ah e m.e [] v L F1
   else H=[]/\m.e.eB=true/\Ro P w A (.ptr e) v cs
 | .int k,_,_,v,cs,_=>Ro P w A (.int k) v cs
 | .bool,_,_,v,cs,_=>Ro P w A .bool v cs
 | .str,_,_,v,cs,_=>Ro P w A .str v cs
 | .unit,_,_,v,cs,_=>Ro P w A .unit v cs
 | .arr n e,_,H,v,cs,_=>H=[]/\Ro P w A (.arr n e) v cs
 | .fn,_,_,v,cs,_=>Ro P w A .fn v cs
 | .map k v,m,H,x,cs,F=>
   if hole H then ∃ x:Value,cs=[x]/\x.oneCell'=true
   else if m.own then k.flat=true/\v.flat=true/\∃ (r:Nat) (mD:List (Value×Value)),cs=[.map (some r)]/\ce w r 0=some (u7 mD)/\1<=F r 0/\mD.length=List.length x /\
    ∀ (i:Nat) (y:k.den×v.den),x[i]?=some y->∃ (kc vc:List Value),mD[i]?=some (bq k kc,bq v vc)/\Ro P w A k y.1 kc/\Ro P w A v y.2 vc
   else H=[]/\m.e.eB=true/\Ro P w A (.map k v) x cs
end
theorem Ro.length {P:Program} {w:World} {A:Cells}:∀ (t:Ty) {v:t.den} {cs:List Value},Ro P w A t v cs->cs.length=t.sz:=by
 intro t
 induction t <;> grind [Ty.sz,Ro]
theorem ah.length {P:Program} {w:World} {A:Cells}:∀ (t:Ty) {m:Md} {H:List Path} {v:t.den} {cs:List Value} {F:FP},ah P w A t m H v cs F->cs.length=t.sz:=by
 intro t
 induction t <;> grind [Ty.sz,ah,Ro.length]
structure WJ (w w':World) (S:Nat->Nat->Prop):Prop where
 cell:∀ b i,S b i->∀ u,ce w b i=some u->ce w' b i=some u
 pZ:∀ b n,dg w b n->dg w' b n
theorem Ro.mono {P:Program} {w w':World} {A A':Cells} (hc:∀ b i,A b i->∀ u,ce w b i=some u->ce w' b i=some u) (hA:∀ b i,A b i->A' b i) :
  ∀ (t:Ty) {v:t.den} {cs:List Value},Ro P w A t v cs->Ro P w' A' t v cs:=by
 intro t
 induction t with
 | pair a b fQ fI=>intro v cs h;exact ⟨fQ h.1,fI h.2⟩
 | arr n e ih=>intro v cs h;exact ⟨h.1,h.2.1,h.2.2.1,λi x hx=>ih (h.2.2.2 i x hx)⟩
 | ae e ih=>
  rintro v cs ⟨a,cap,h1,U,h3,h4⟩
  refine ⟨a,cap,h1,U,h3,λad ey=>⟨(h4 ad ey).1,λi x hx=>?_⟩⟩
  grind
 | ptr e ih=>
  rintro v cs ⟨ad,h1,U,L,hl,hL,hr⟩
  exact ⟨ad,h1,U,L,hl,λj u hu=>⟨hc _ _ (hL j u hu).2 u (hL j u hu).1,hA _ _ (hL j u hu).2⟩,ih hr⟩
 | fn=>
  rintro v cs ⟨qY,h1,fn,U,h3⟩
  refine ⟨qY,h1,fn,U,?_⟩
  grind
 | map k v Ol Om=>
  rintro x cs ⟨h1,U,r,mD,h3,h4,h5,h6,h7⟩
  refine ⟨h1,U,r,mD,h3,hc _ _ h5 _ h4,hA _ _ h5,h6,λi y hy=>?_⟩
  grind
 | _=>intro v cs h;exact h
theorem ah.mono {P:Program} {w w':World} {A A':Cells} (hA:∀ b i,A b i->A' b i) (hc:∀ b i,A b i->∀ u,ce w b i=some u->ce w' b i=some u) (hb:∀ b n,dg w b n->dg w' b n) :
  ∀ (t:Ty) {m:Md} {H:List Path} {v:t.den} {cs:List Value} {F F':FP},ah P w A t m H v cs F->(∀ b i,F b i<=F' b i)->(∀ b i,1<=F b i->∀ u,ce w b i=some u->ce w' b i=some u)->ah P w' A' t m H v cs F':=by
 intro t
 induction t with
 | pair a b fQ fI=>
  intro m H v cs F F' h hF sf
  obtain ⟨h0,F1,F2,hs,h1,U⟩:=h
  exact ⟨h0,F1,F2,λx i=>Nat.le_trans (hs x i) (hF x i),fQ h1 (λ_ _=>Nat.le_refl _) (λb i hp=>sf b i (by grind)),
   fI U (λ_ _=>Nat.le_refl _) (λb i hp=>sf b i (by grind))⟩
 | ae e ih=>
  intro m H v cs F F' h hF sf
  simp only[ah] at h ⊢
  split at h
  ·grind
  ·rename_i hh;rw[if_neg hh]
   split at h
   ·rename_i hm;rw[if_pos hm]
    obtain ⟨a,cap,h1,U,h3,h4,h5⟩:=h
    refine ⟨a,cap,h1,U,h3,h4,λad ey=>?_⟩
    obtain ⟨g1,g2,g3,Fi,g4,g5⟩:=h5 ad ey
    refine ⟨g1,g2,hb _ _ g3,Fi,λx i=>Nat.le_trans (g4 x i) (hF x i),λi x hx=>?_⟩
    obtain ⟨L,hl,hL,hr⟩:=g5 i x hx
    have hi:i < List.length v:=(List.getElem?_eq_some_iff.1 hx).1
    refine ⟨L,hl,λj u hu=>sf _ _ ?_ u (hL j u hu),ih hr (λ_ _=>Nat.le_refl _) (λb k hp=>sf b k ?_)⟩
    ·have:=g4 ad.block (i*e.sz+j)
     have hj:j < e.sz:=hl ▸ (List.getElem?_eq_some_iff.1 hu).1
     have:i*e.sz+j < cap*e.sz:=by
      have h1:(i+1)*e.sz<=cap*e.sz:=Nat.mul_le_mul_right _ (by omega)
      grind
     grind [bP]
    grind [bu]
   grind [Ro.mono]
 | ptr e ih=>
  intro m H v cs F F' h hF sf
  simp only[ah] at h ⊢
  split at h
  ·grind
  ·rename_i hh;rw[if_neg hh]
   split at h
   ·rename_i hm;rw[if_pos hm]
    obtain ⟨b,h1,U,L,F1,h3,h4,h5,h6⟩:=h
    refine ⟨b,h1,hb _ _ U,L,F1,h3,λj u hu=>sf _ _ ?_ u (h4 j u hu),λx i=>Nat.le_trans (h5 x i) (hF x i),ih h6 (λ_ _=>Nat.le_refl _) (λb' k hp=>sf b' k ?_)⟩
    all_goals grind [bP]
   grind [Ro.mono]
 | arr n e ih=>intro m H v cs F F' h hF sf;exact ⟨h.1,Ro.mono hc hA _ h.2⟩
 | map k v Ol Om=>
  grind [ah,Ro.mono]
 | _=>intro m H v cs F F' h hF sf;exact Ro.mono hc hA _ h
theorem ah.le {P:Program} {w:World} {A:Cells} {t:Ty} {m:Md} {H:List Path} {v:t.den} {cs:List Value} {F F':FP} (h:ah P w A t m H v cs F) (hF:∀ b i,F b i<=F' b i):ah P w A t m H v cs F':=
 ah.mono (λ_ _ h=>h) (λ_ _ _ _ h=>h) (λ_ _ h=>h) t h hF (λ_ _ _ _ h=>h)
theorem ah.o7 {P:Program} {w:World} {A A':Cells} (hA:∀ b i,A b i->A' b i) :
  ∀ (t:Ty) {m:Md} {v:t.den} {cs:List Value} {F:FP},ah P w A t m [] v cs F->(∀ b i,1<=F b i->A' b i)->Ro P w A' t v cs:=by
 intro t
 induction t with
 | pair a b fQ fI=>
  intro m v cs F h hF
  obtain ⟨h0,F1,F2,hs,h1,U⟩:=h
  exact ⟨fQ h1 (λb i hp=>hF b i (by grind)),fI U (λb i hp=>hF b i (by grind))⟩
 | ae e ih=>
  intro m v cs F h hF
  simp only[ah,hole,List.any_nil,Bool.false_eq_true,if_false] at h
  split at h
  ·obtain ⟨a,cap,h1,U,h3,h4,h5⟩:=h
   refine ⟨a,cap,h1,U,λhn=>by grind,λad ey=>?_⟩
   obtain ⟨g1,g2,g3,Fi,g4,g5⟩:=h5 ad ey
   refine ⟨λ_=>g2,λi x hx=>?_⟩
   obtain ⟨L,hl,hL,hr⟩:=g5 i x hx
   have hi:i < List.length v:=(List.getElem?_eq_some_iff.1 hx).1
   refine ⟨L,hl,λj u hu=>?_,ih hr λb k hp=>hF b k ?_⟩
   ·rw[g1,Nat.zero_add]
    refine ⟨hL j u hu,hF _ _ ?_⟩
    have:=g4 ad.block (i*e.sz+j)
    have hj:j < e.sz:=hl ▸ (List.getElem?_eq_some_iff.1 hu).1
    have:i*e.sz+j < cap*e.sz:=by
     have h1:(i+1)*e.sz<=cap*e.sz:=Nat.mul_le_mul_right _ (by omega)
     grind
    grind [bP]
   grind [bu]
  grind [Ro.mono]
 | ptr e ih=>
  intro m v cs F h hF
  simp only[ah,hole,List.any_nil,Bool.false_eq_true,if_false] at h
  split at h
  ·obtain ⟨b,h1,U,L,F1,h3,h4,h5,h6⟩:=h
   refine ⟨_,h1,rfl,L,h3,λj u hu=>⟨h4 j u hu,hF _ _ ?_⟩,ih h6 λb' k hp=>hF _ _ ?_⟩
   all_goals grind [bP]
  grind [Ro.mono]
 | arr n e ih=>intro m v cs F h hF;exact Ro.mono (λ_ _ _ _ h=>h) hA _ h.2
 | map k v Ol Om=>
  intro m x cs F h hF
  simp only[ah,hole,List.any_nil,Bool.false_eq_true,if_false] at h
  split at h
  ·obtain ⟨h1,U,r,mD,h3,h4,h5,h6,h7⟩:=h
   refine ⟨h1,U,r,mD,h3,h4,hF _ _ h5,h6,λi y hy=>?_⟩
   grind [Ro.mono]
  grind [Ro.mono]
 | _=>intro m v cs F h hF;exact Ro.mono (λ_ _ _ _ h=>h) hA _ h
end OT
set_option linter.unusedVariables false
set_option linter.unusedSimpArgs false
namespace OT
open Go
theorem Gc {m:Md} (h:m.eB=true):m.l.eB=true:=by cases m <;> simp_all [Md.eB,Md.l]
theorem Gd {m:Md} (h:m.eB=true):m.r.eB=true:=by cases m <;> simp_all [Md.eB,Md.r]
theorem Bh {m:Md} (h:m.eB=true):m.e.eB=true:=by cases m <;> simp_all [Md.eB,Md.e]
theorem oL {m:Md} (h:m.eB=true):m.own=false:=by cases m <;> simp_all [Md.eB,Md.own]
theorem cN (t:Ty):(aw t).eB=true:=by
 induction t <;> simp_all [aw,m_,Md.eB]
theorem On {m m1:Md} (h:fits m m1=true):fits m.l m1.l=true:=by cases m <;> cases m1 <;> simp_all [fits,Md.l]
theorem Oo {m m1:Md} (h:fits m m1=true):fits m.r m1.r=true:=by cases m <;> cases m1 <;> simp_all [fits,Md.r]
theorem IZ {m m1:Md} (h:fits m m1=true):fits m.e m1.e=true:=by cases m <;> cases m1 <;> simp_all [fits,Md.e]
theorem yN {m m1:Md} (h:fits m m1=true):m1.own=true->m.own=true:=by
 intro h1;cases m <;> cases m1 <;> simp_all [fits,Md.own]
theorem Bi {m m1:Md} (h:fits m m1=true) (h1:m1.own=false):m1.e.eB=true\/∃ e,m1=.arr e:=by
 cases m <;> cases m1 <;> simp_all [fits,Md.own,Md.e,Md.eB]
theorem u9:∀ {m m1:Md},fits m m1=true->m.eB=true->m1.eB=true:=by
 intro m
 induction m with
 | leaf=>grind [fits]
 | pair a b fQ fI=>
  intro m1 h hn
  cases m1 <;> grind [fits,Md.eB]
 | arr e ih=>
  intro m1 h hn
  cases m1 <;> grind [fits,Md.eB]
 | ae o e ih=>
  intro m1 h hn
  cases m1 <;> grind [fits,Md.eB]
 | ptr o e ih=>
  intro m1 h hn
  cases m1 <;> grind [fits,Md.eB]
section
variable {P:Program} {w:World} {A:Cells}
theorem Ro.rep:∀ (t:Ty) {m:Md} {v:t.den} {cs:List Value} (F:FP),m.eB=true->Ro P w A t v cs->ah P w A t m [] v cs F:=by
 intro t
 induction t with
 | pair a b fQ fI=>
  intro m v cs F hm h
  exact ⟨rfl,λ_ _=>0,λ_ _=>0,λ_ _=>Nat.zero_le _,fQ _ (Gc hm) h.1,fI _ (Gd hm) h.2⟩
 | ae e ih=>grind [ah,hole,oL,Bh]
 | ptr e ih=>grind [ah,hole,oL,Bh]
 | arr n e ih=>intro m v cs F hm h;exact ⟨rfl,h⟩
 | map k v=>grind [ah,hole,oL,Bh]
 | _=>intro m v cs F hm h;exact h
theorem ah.ro:∀ (t:Ty) {m:Md} {v:t.den} {cs:List Value} {F:FP},m.eB=true->ah P w A t m [] v cs F->Ro P w A t v cs:=by
 intro t
 induction t with
 | pair a b fQ fI=>
  intro m v cs F hm h
  obtain ⟨_,F1,F2,_,h1,U⟩:=h
  exact ⟨fQ (Gc hm) h1,fI (Gd hm) U⟩
 | ae e ih=>grind [ah,hole,oL]
 | ptr e ih=>grind [ah,hole,oL]
 | arr n e ih=>intro m v cs F hm h;exact h.2
 | map k v=>grind [ah,hole,oL]
 | _=>intro m v cs F hm h;exact h
theorem Ro.flat:∀ (t:Ty) {m:Md} {v:t.den} {cs:List Value} (F:FP),t.flat=true->Ro P w A t v cs->ah P w A t m [] v cs F:=by
 intro t
 induction t with
 | pair a b fQ fI=>
  intro m v cs F hm h
  simp only[Ty.flat,Bool.and_eq_true] at hm
  exact ⟨rfl,λ_ _=>0,λ_ _=>0,λ_ _=>Nat.zero_le _,fQ _ hm.1 h.1,fI _ hm.2 h.2⟩
 | ae e ih=>grind [Ty.flat]
 | ptr e ih=>grind [Ty.flat]
 | arr n e ih=>intro m v cs F hm h;exact ⟨rfl,h⟩
 | map k v=>grind [Ty.flat]
 | _=>intro m v cs F hm h;exact h
theorem ah.flat:∀ (t:Ty) {m:Md} {H:List Path} {v:t.den} {cs:List Value} {F:FP},t.flat=true->ah P w A t m H v cs F->Ro P w A t v cs:=by
 intro t
 induction t with
 | pair a b fQ fI=>
  intro m H v cs F hm h
  simp only[Ty.flat,Bool.and_eq_true] at hm
  obtain ⟨_,F1,F2,_,h1,U⟩:=h
  exact ⟨fQ hm.1 h1,fI hm.2 U⟩
 | ae e ih=>grind [Ty.flat]
 | ptr e ih=>grind [Ty.flat]
 | arr n e ih=>intro m H v cs F hm h;exact h.2
 | map k v=>grind [Ty.flat]
 | _=>intro m H v cs F hm h;exact h
theorem ah.fits:∀ (t:Ty) {m m1:Md} {v:t.den} {cs:List Value} {F:FP},fits m m1=true->ah P w A t m [] v cs F->(∀ b i,F b i<=1) ->
  ∃ F1:FP,(∀ b i,F1 b i<=F b i)/\∀ A':Cells,(∀ b i,A b i->A' b i)->(∀ b i,1<=F b i->F1 b i=0->A' b i)->ah P w A' t m1 [] v cs F1:=by
 intro t
 induction t with
 | pair a b fQ fI=>
  intro m m1 v cs F hf h hF
  obtain ⟨_,Fa,Fb,hs,h1,U⟩:=h
  obtain ⟨G1,TW,k1⟩:=fQ (On hf) h1 (λb i=>by grind)
  obtain ⟨G2,I0,k2⟩:=fI (Oo hf) U (λb i=>by grind)
  refine ⟨λb i=>G1 b i+G2 b i,λb i=>by grind,λA' hA ez=>⟨rfl,G1,G2,λ_ _=>Nat.le_refl _,k1 A' hA λb i hp hz=>?_,k2 A' hA λb i hp hz=>?_⟩⟩
  ·have:=hs b i;have:=hF b i;have:=I0 b i
   exact ez b i (by omega) (by grind)
  ·have:=hs b i;have:=hF b i;have:=TW b i
   exact ez b i (by omega) (by grind)
 | ae e ih=>
  intro m m1 v cs F hf h hF
  by_cases wi:m1.own=true
  ·have hm:=yN hf wi
   simp only[ah,hole,List.any_nil,Bool.false_eq_true,if_false,hm,if_true] at h
   obtain ⟨a,cap,h1,U,h3,h4,h5⟩:=h
   cases a with
   | none=>
    refine ⟨λ_ _=>0,λ_ _=>Nat.zero_le _,λA' hA ez=>?_⟩
    grind [ah,hole]
   | some ad=>
    obtain ⟨g1,g2,g3,Fi,g4,g5⟩:=h5 ad rfl
    have each:∀ i,∃ Gi:FP,(∀ b k,Gi b k<=Fi i b k)/\∀ A':Cells,(∀ b i,A b i->A' b i)->(∀ b k,1<=Fi i b k->Gi b k=0->A' b k) ->
      ∀ x,v[i]?=some x->∃ L:List Value,L.length=e.sz/\Has w ad.block (i*e.sz) L/\ah P w A' e m1.e (([]:List Path).filterMap (fm i)) x L Gi:=by
     intro i
     cases hx:(v:List e.den)[i]? with
     | none=>exact ⟨λ_ _=>0,λ_ _=>Nat.zero_le _,λA' _ _ x I1=>by cases I1⟩
     | some x=>
      obtain ⟨L,hl,hL,hr⟩:=g5 i x hx
      have hi:i < List.length v:=(List.getElem?_eq_some_iff.1 hx).1
      obtain ⟨G,hG,k⟩:=ih (IZ hf) hr (λb k=>by have:=bu Fi hi b k;grind)
      exact ⟨G,hG,λA' hA ez x' I1=>by injection I1 with I1;subst I1;exact ⟨L,hl,hL,k A' hA ez⟩⟩
    have ⟨Gi,Oq⟩:=Classical.axiomOfChoice each
    refine ⟨λb k=>bP ad.block 0 (cap*e.sz) b k+aA (List.length v) Gi b k,λb k=>?_,λA' hA ez=>?_⟩
    ·have:=g4 b k;have:=Bg b k (f:=Gi) (g:=Fi) (n:=List.length v) λj _=>(Oq j).1 b k
     grind
    ·simp only[ah,hole,List.any_nil,Bool.false_eq_true,if_false,wi,if_true]
     refine ⟨some ad,cap,h1,U,h3,h4,λbl Hh=>?_⟩
     injection Hh with Hh;subst Hh
     refine ⟨g1,g2,g3,Gi,λ_ _=>Nat.le_refl _,λi x hx=>(Oq i).2 A' hA (λb k hp hz=>?_) x hx⟩
     have hi:i < List.length v:=(List.getElem?_eq_some_iff.1 hx).1
     have h1:=g4 b k;have U:=hF b k;have h3:=bu Fi hi b k
     refine ez b k (by omega) ?_
     show bP ad.block 0 (cap*e.sz) b k+aA (List.length v) Gi b k=0
     have:aA (List.length v) Gi b k=0:=by
      rcases Nat.eq_zero_or_pos (aA (List.length v) Gi b k) with h0 | h0
      ·exact h0
      ·obtain ⟨j,hj,RB⟩:=Dt h0
       have:=(Oq j).1 b k
       by_cases hJ:j=i
       all_goals grind [l9]
     omega
  ·have Du:m1.own=false:=by simpa using wi
   have iz:m1.e.eB=true:=by
    rcases Bi hf Du with h | ⟨e',rfl⟩
    ·exact h
    ·cases m <;> simp[OT.fits] at hf
     simp only[ah,hole,List.any_nil,Bool.false_eq_true,if_false,Md.own] at h
     exact u9 hf h.2.1
   refine ⟨λ_ _=>0,λ_ _=>Nat.zero_le _,λA' hA ez=>?_⟩
   grind [ah.o7,ah]
 | ptr e ih=>
  intro m m1 v cs F hf h hF
  by_cases wi:m1.own=true
  ·have hm:=yN hf wi
   simp only[ah,hole,List.any_nil,Bool.false_eq_true,if_false,hm,if_true] at h
   obtain ⟨b,h1,U,L,F1,h3,h4,h5,h6⟩:=h
   obtain ⟨G,hG,k⟩:=ih (IZ hf) h6 (λb' i=>by grind)
   refine ⟨λb' k=>bP b 0 e.sz b' k+G b' k,λb' k=>by grind,λA' hA ez=>?_⟩
   simp only[ah,hole,List.any_nil,Bool.false_eq_true,if_false,wi,if_true]
   refine ⟨b,h1,U,L,G,h3,h4,λ_ _=>Nat.le_refl _,k A' hA λb' i hp hz=>ez b' i ?_ ?_⟩
   all_goals grind
  ·have Du:m1.own=false:=by simpa using wi
   have iz:m1.e.eB=true:=by
    rcases Bi hf Du with h | ⟨e',rfl⟩
    ·exact h
    ·cases m <;> simp[OT.fits] at hf
     simp only[ah,hole,List.any_nil,Bool.false_eq_true,if_false,Md.own] at h
     exact u9 hf h.2.1
   refine ⟨λ_ _=>0,λ_ _=>Nat.zero_le _,λA' hA ez=>?_⟩
   grind [ah.o7,ah]
 | arr n e ih=>intro m m1 v cs F hf h hF;exact ⟨λ_ _=>0,λ_ _=>Nat.zero_le _,λA' hA ez=>⟨rfl,Ro.mono (λ_ _ _ _ h=>h) hA _ h.2⟩⟩
 | map k v Ol Om=>
  intro m m1 x cs F hf h hF
  by_cases wi:m1.own=true
  ·have hm:=yN hf wi
   simp only[ah,hole,List.any_nil,Bool.false_eq_true,if_false,hm,if_true] at h
   obtain ⟨h1,U,r,mD,h3,h4,h5,h6,h7⟩:=h
   refine ⟨F,λ_ _=>Nat.le_refl _,λA' hA ez=>?_⟩
   grind [ah,hole,Ro.mono]
  ·have Du:m1.own=false:=by simpa using wi
   have iz:m1.e.eB=true:=by
    rcases Bi hf Du with h | ⟨e',rfl⟩
    ·exact h
    ·cases m <;> simp[OT.fits] at hf
     simp only[ah,hole,List.any_nil,Bool.false_eq_true,if_false,Md.own] at h
     exact u9 hf h.2.1
   refine ⟨λ_ _=>0,λ_ _=>Nat.zero_le _,λA' hA ez=>?_⟩
   grind [ah.o7,ah]
 | _=>intro m m1 v cs F hf h hF;exact ⟨λ_ _=>0,λ_ _=>Nat.zero_le _,λA' hA ez=>Ro.mono (λ_ _ _ _ h=>h) hA _ h⟩
end
end OT
set_option linter.unusedVariables false
set_option linter.unusedSimpArgs false
namespace OT
open Go
def rd (w:World) (b o n:Nat):List Value:=(List.range n).map λj=>(ce w b (o+j)).getD undef
theorem qG (w:World) (b o n:Nat):(rd w b o n).length=n:=by simp[rd]
theorem b9 {w:World} {b o:Nat} {L:List Value} {n:Nat} (h:Has w b o L) (hn:L.length=n):rd w b o n=L:=by
 subst hn
 apply List.ext_getElem?
 intro j
 unfold rd
 rw[List.getElem?_map]
 by_cases hj:j < L.length
 ·rw[List.getElem?_range hj]
  have:=h j L[j] (List.getElem?_eq_getElem hj)
  grind
 grind
structure Pl where
 t:Ty
 H:List Path
 cs:List Value
 ad:Option (Nat×Nat)
def cT (ad:Option (Nat×Nat)) (k:Nat):Option (Nat×Nat):=ad.map λx=>(x.1,x.2+k)
def aJ (w:World):Path->Ty->List Path->List Value->Option (Nat×Nat)->Option Pl
 | [],t,H,cs,ad=>some ⟨t,H,cs,ad⟩
 | .fst::p,.pair a _,H,cs,ad=>if hole H then none else aJ w p a (H.filterMap n7) (cs.take a.sz) ad
 | .snd::p,.pair a b,H,cs,ad=>if hole H then none else aJ w p b (H.filterMap n8) (cs.drop a.sz) (cT ad a.sz)
 | .idx i::p,.ae e,H,cs,_=>if hole H then none else match cs with
  | [.slice (some a) n _]=>if i < n then aJ w p e (H.filterMap (fm i)) (rd w a.block (a.off+i*e.sz) e.sz) (some (a.block,a.off+i*e.sz)) else none
  | _=>none
 | .jI i::p,.arr n e,H,cs,ad=>if H.isEmpty then (if i < n then aJ w p e [] ((cs.drop (i*e.sz)).take e.sz) (cT ad (i*e.sz)) else none) else none
 | _,_,_,_,_=>none
def o8:Ty->Bool
 | .ae _ | .map _ _=>true
 | _=>false
def kP (d:Nat) (full:Prop) (w:World) (t:Ty) (H:List Path) (cs:List Value) (ad:Option (Nat×Nat)) (w2:World) (H2:List Path) (bA:List Value):Prop:=
 ∀ q pl,bD q<=d->aJ w q t H cs ad=some pl->∃ H' aS,aJ w2 q t H2 bA ad=some ⟨pl.t,H',aS,pl.ad⟩/\((bD q < d/\o8 pl.t=true)\/full->aS=pl.cs)
theorem wH {R:Type} {H:List Path} {i:Nat} {K:List Path->Option R} {r:R} (h:p7 H i K=some r) :
  K (H.filterMap (fm i))=some r/\(∀ j,j≠i->H.filterMap (fm j)=[])/\hole H=false:=by
 unfold p7 at h
 split at h
 ·exact ⟨h,λ_ _=>rfl,rfl⟩
 ·rename_i j q
  split at h
  ·rename_i ng;subst ng
   refine ⟨by simpa [fm] using h,λj hj=>by simp[fm,hj],rfl⟩
  ·cases h
 ·cases h
theorem u_ {R S:Type} {H:List Path} {i:Nat} {K:List Path->Option R} {r:R} (h:p7 H i K=some r) (K2:List Path->Option S) :
  p7 H i K2=K2 (H.filterMap (fm i)):=by
 unfold p7 at h ⊢
 grind [fm]
theorem mE (H:List Path):(H.map (.fst::·)).filterMap n7=H:=by
 induction H <;> simp_all [n7]
theorem mF (H:List Path):(H.map (.snd::·)).filterMap n8=H:=by
 induction H <;> simp_all [n8]
theorem nh (H:List Path):(H.map (.snd::·)).filterMap n7=[]:=by
 simp_all [n7]
theorem ni (H:List Path):(H.map (.fst::·)).filterMap n8=[]:=by
 simp_all [n8]
theorem wj (i:Nat) (H:List Path):(H.map (.idx i::·)).filterMap (fm i)=H:=by
 induction H <;> simp_all [fm]
theorem sg {i j:Nat} (h:j≠i) (H:List Path):(H.map (.idx i::·)).filterMap (fm j)=[]:=by
 simp_all [fm]
theorem kt (s:Step) (H:List Path):hole (H.map (s::·))=false:=by
 grind [hole]
theorem lr (H1 H2:List Path):hole (H1++H2)=(hole H1||hole H2):=by simp[hole]
theorem Qv {w:World}:∀ (q:Path) (t:Ty) {H H2:List Path} {cs:List Value} {ad:Option (Nat×Nat)} {pl BQ:Pl},aJ w q t H cs ad=some pl->aJ w q t H2 cs ad=some BQ->BQ.t=pl.t/\BQ.cs=pl.cs/\BQ.ad=pl.ad:=by
 intro q
 induction q with
 | nil=>grind [aJ]
 | cons s q ih=>
  intro t H H2 cs ad pl BQ h U
  cases t with
  | pair a b=>
   cases s <;> grind [aJ]
  | ae e=>
   cases s with
   | idx i=>
    simp only[aJ] at h U
    grind
   | _=>simp[aJ] at h
  | arr n e=>
   cases s <;> grind [aJ]
  | _=>grind [aJ]
section
variable {P:Program}
theorem oM {w w2:World} {A:Cells} (hA:∀ b i,A b i->∀ u,ce w b i=some u->ce w2 b i=some u) :
  ∀ (q:Path) (t:Ty) {m:Md} {H:List Path} {v:t.den} {cs:List Value} {F:FP} {ad:Option (Nat×Nat)} {pl:Pl},ah P w A t m H v cs F->(∀ b i,1<=F b i->∀ u,ce w b i=some u->ce w2 b i=some u) ->
  aJ w q t H cs ad=some pl->aJ w2 q t H cs ad=some pl:=by
 intro q
 induction q with
 | nil=>intro t m H v cs F ad pl _ _ h;exact h
 | cons s q ih=>
  intro t m H v cs F ad pl hr hF h
  cases t with
  | pair a b=>
   obtain ⟨h0,F1,F2,hs,h1,U⟩:=hr
   cases s <;> grind [aJ]
  | ae e=>
   cases s with
   | fst=>simp[aJ] at h
   | snd=>simp[aJ] at h
   | jI i=>simp[aJ] at h
   | idx i=>
    simp only[ah] at hr
    simp only[aJ] at h ⊢
    split at h
    ·cases h
    ·rename_i hh
     rw[if_neg hh]
     rw[if_neg hh] at hr
     split at hr
     ·obtain ⟨a,cap,rfl,U,h3,h4,h5⟩:=hr
      cases a with
      | none=>cases h
      | some cO=>
       obtain ⟨g1,g2,g3,Fi,g4,g5⟩:=h5 cO rfl
       simp only at h ⊢
       split at h
       ·rename_i hi
        rw[if_pos hi]
        obtain ⟨L,hl,hL,dw⟩:=g5 i _ (List.getElem?_eq_getElem hi)
        have av:(i+1)*e.sz<=cap*e.sz:=Nat.mul_le_mul_right _ (by omega)
        rw[Nat.add_mul] at av
        have WK:Has w2 cO.block (i*e.sz) L:=λj u hu=>by
         have hj:j < e.sz:=hl ▸ (List.getElem?_eq_some_iff.1 hu).1
         refine hF _ _ ?_ u (hL j u hu)
         grind [bP]
        rw[g1,Nat.zero_add,b9 hL hl] at h
        grind [b9,bu]
       ·cases h
     ·obtain ⟨rfl,iz,a,cap,rfl,U,h3,h4⟩:=hr
      cases a with
      | none=>cases h
      | some cO=>
       simp only at h ⊢
       split at h
       ·rename_i hi
        rw[if_pos hi]
        obtain ⟨L,hl,hL,dw⟩:=(h4 cO rfl).2 i _ (List.getElem?_eq_getElem hi)
        rw[b9 (λj u hu=>(hL j u hu).1) hl] at h
        rw[b9 (λj u hu=>hA _ _ (hL j u hu).2 u (hL j u hu).1) hl]
        exact ih e (Ro.rep e (λ_ _=>0) iz dw) (λb k hp=>by simp at hp) h
       ·cases h
  | arr n e=>
   cases s with
   | fst=>simp[aJ] at h
   | snd=>simp[aJ] at h
   | idx i=>simp[aJ] at h
   | jI i=>
    obtain ⟨rfl,hf,hl,hlen,hr⟩:=hr
    simp only[aJ,List.isEmpty_nil,if_true] at h ⊢
    split at h
    ·rename_i hi
     rw[if_pos hi]
     exact ih e (Ro.flat e (m:=.leaf) (λ_ _=>0) hf (hr i _ (List.getElem?_eq_getElem (by grind)))) (λb k hp=>by simp at hp) h
    ·cases h
  | _=>grind [aJ]
theorem I2 {w:World} {A:Cells} {S:Nat->Nat->Prop} (hA:∀ b i,A b i->S b i) :
  ∀ (q:Path) (t:Ty) {m:Md} {H:List Path} {v:t.den} {cs:List Value} {F:FP} {ad:Option (Nat×Nat)} {pl:Pl},ah P w A t m H v cs F->(∀ b i,1<=F b i->S b i) ->
  (∀ b o,ad=some (b,o)->∀ j,j < t.sz->S b (o+j))->aJ w q t H cs ad=some pl->∀ b o,pl.ad=some (b,o)->∀ j,j < pl.t.sz->S b (o+j):=by
 intro q
 induction q with
 | nil=>grind [aJ]
 | cons s q ih=>
  intro t m H v cs F ad pl hr hF ey h
  cases t with
  | pair a b=>
   obtain ⟨h0,F1,F2,hs,h1,U⟩:=hr
   cases s with
   | fst=>grind [aJ,Ty.sz]
   | snd=>
    simp only[aJ,h0,if_false] at h
    refine ih b U (λb i hp=>hF b i (by grind)) (λb' o e j hj=>?_) h
    cases ad with
    | none=>cases e
    | some y=>
     simp only[cT,Option.map_some,Option.some.injEq,Prod.mk.injEq] at e
     obtain ⟨rfl,rfl⟩:=e
     grind [Ty.sz]
   | idx i=>simp[aJ] at h
   | jI i=>simp[aJ] at h
  | ae e=>
   cases s with
   | fst=>simp[aJ] at h
   | snd=>simp[aJ] at h
   | jI i=>simp[aJ] at h
   | idx i=>
    simp only[ah] at hr
    simp only[aJ] at h
    split at h
    ·cases h
    ·rename_i hh
     rw[if_neg hh] at hr
     split at hr
     ·obtain ⟨a,cap,rfl,U,h3,h4,h5⟩:=hr
      cases a with
      | none=>cases h
      | some cO=>
       obtain ⟨g1,g2,g3,Fi,g4,g5⟩:=h5 cO rfl
       simp only at h
       split at h
       ·rename_i hi
        obtain ⟨L,hl,hL,dw⟩:=g5 i _ (List.getElem?_eq_getElem hi)
        have av:(i+1)*e.sz<=cap*e.sz:=Nat.mul_le_mul_right _ (by omega)
        rw[Nat.add_mul] at av
        rw[g1,Nat.zero_add,b9 hL hl] at h
        grind [bu,bP]
       ·cases h
     ·obtain ⟨rfl,iz,a,cap,rfl,U,h3,h4⟩:=hr
      cases a with
      | none=>cases h
      | some cO=>
       simp only at h
       split at h
       ·rename_i hi
        obtain ⟨L,hl,hL,dw⟩:=(h4 cO rfl).2 i _ (List.getElem?_eq_getElem hi)
        rw[b9 (λj u hu=>(hL j u hu).1) hl] at h
        refine ih e (Ro.rep e (λ_ _=>0) iz dw) (λb k hp=>by simp at hp) (λb' o e' j hj=>?_) h
        simp only[Option.some.injEq,Prod.mk.injEq] at e'
        obtain ⟨rfl,rfl⟩:=e'
        exact hA _ _ (hL j _ (List.getElem?_eq_getElem (by omega))).2
       ·cases h
  | arr n e=>
   cases s with
   | fst=>simp[aJ] at h
   | snd=>simp[aJ] at h
   | idx i=>simp[aJ] at h
   | jI i=>
    obtain ⟨rfl,hf,hl,hlen,hr⟩:=hr
    simp only[aJ,List.isEmpty_nil,if_true] at h
    split at h
    ·rename_i hi
     refine ih e (Ro.flat e (m:=.leaf) (λ_ _=>0) hf (hr i _ (List.getElem?_eq_getElem (by grind)))) (λb k hp=>by simp at hp) (λb' o e' j hj=>?_) h
     cases ad with
     | none=>cases e'
     | some y=>
      simp only[cT,Option.map_some,Option.some.injEq,Prod.mk.injEq] at e'
      obtain ⟨rfl,rfl⟩:=e'
      have av:(i+1)*e.sz<=n*e.sz:=Nat.mul_le_mul_right _ hi
      rw[Nat.add_mul] at av
      have:=ey y.1 y.2 rfl (i*e.sz+j) (by grind [Ty.sz])
      rwa [Nat.add_assoc]
    ·cases h
  | _=>grind [aJ]
theorem Ge {w:World} {A:Cells} :
  ∀ (q:Path) (t:Ty) {m:Md} {H:List Path} {v:t.den} {cs:List Value} {F:FP} {ad:Option (Nat×Nat)} {pl:Pl},ah P w A t m H v cs F ->
  (∀ b o,ad=some (b,o)->Has w b o cs)->aJ w q t H cs ad=some pl->(∀ b o,pl.ad=some (b,o)->Has w b o pl.cs)/\∃ (m':Md) (v':pl.t.den) (F':FP),ah P w A pl.t m' pl.H v' pl.cs F':=by
 intro q
 induction q with
 | nil=>grind [aJ]
 | cons s q ih=>
  intro t m H v cs F ad pl hr ey h
  cases t with
  | pair a b=>
   obtain ⟨h0,F1,F2,hs,h1,U⟩:=hr
   cases s with
   | fst=>
    simp only[aJ,h0,if_false] at h
    exact ih a h1 (λb' o e j u hu=>ey b' o e j u (by grind)) h
   | snd=>
    simp only[aJ,h0,if_false] at h
    refine ih b U (λb' o e j u hu=>?_) h
    cases ad with
    | none=>cases e
    | some y=>
     simp only[cT,Option.map_some,Option.some.injEq,Prod.mk.injEq] at e
     obtain ⟨rfl,rfl⟩:=e
     rw[List.getElem?_drop] at hu
     have:=ey y.1 y.2 rfl (a.sz+j) u hu
     rwa [Nat.add_assoc]
   | idx i=>simp[aJ] at h
   | jI i=>simp[aJ] at h
  | ae e=>
   cases s with
   | fst=>simp[aJ] at h
   | snd=>simp[aJ] at h
   | jI i=>simp[aJ] at h
   | idx i=>
    simp only[ah] at hr
    simp only[aJ] at h
    split at h
    ·cases h
    ·rename_i hh
     rw[if_neg hh] at hr
     split at hr
     ·obtain ⟨a,cap,rfl,U,h3,h4,h5⟩:=hr
      cases a with
      | none=>cases h
      | some cO=>
       obtain ⟨g1,g2,g3,Fi,g4,g5⟩:=h5 cO rfl
       simp only at h
       split at h
       ·rename_i hi
        obtain ⟨L,hl,hL,dw⟩:=g5 i _ (List.getElem?_eq_getElem hi)
        grind [b9]
       ·cases h
     ·obtain ⟨rfl,iz,a,cap,rfl,U,h3,h4⟩:=hr
      cases a with
      | none=>cases h
      | some cO=>
       simp only at h
       split at h
       ·rename_i hi
        obtain ⟨L,hl,hL,dw⟩:=(h4 cO rfl).2 i _ (List.getElem?_eq_getElem hi)
        rw[b9 (λj u hu=>(hL j u hu).1) hl] at h
        refine ih e (Ro.rep e (λ_ _=>0) iz dw) (λb' o e'=>?_) h
        simp only[Option.some.injEq,Prod.mk.injEq] at e'
        obtain ⟨rfl,rfl⟩:=e'
        exact λj u hu=>(hL j u hu).1
       ·cases h
  | arr n e=>
   cases s with
   | fst=>simp[aJ] at h
   | snd=>simp[aJ] at h
   | idx i=>simp[aJ] at h
   | jI i=>
    obtain ⟨rfl,hf,hl,hlen,hr⟩:=hr
    simp only[aJ,List.isEmpty_nil,if_true] at h
    split at h
    ·rename_i hi
     refine ih e (Ro.flat e (m:=.leaf) (λ_ _=>0) hf (hr i _ (List.getElem?_eq_getElem (by grind)))) (λb' o e' j u hu=>?_) h
     cases ad with
     | none=>cases e'
     | some y=>
      simp only[cT,Option.map_some,Option.some.injEq,Prod.mk.injEq] at e'
      obtain ⟨rfl,rfl⟩:=e'
      rw[List.getElem?_take] at hu
      split at hu
      ·rw[List.getElem?_drop] at hu
       have:=ey y.1 y.2 rfl (i*e.sz+j) u hu
       rwa [Nat.add_assoc]
      ·cases hu
    ·cases h
  | _=>grind [aJ]
theorem tq {w w2:World} {A A2:Cells} :
  ∀ (q:Path) (t:Ty) {m m2:Md} {H H2:List Path} {v v2:t.den} {cs bA:List Value} {F F2:FP} {ad:Option (Nat×Nat)} {pl:Pl},
  ah P w2 A2 t m2 H2 v2 bA F2->(bD q=0\/t.flat=true) ->
  aJ w q t H cs ad=some pl->∃ H' aS,aJ w2 q t H2 bA ad=some ⟨pl.t,H',aS,pl.ad⟩/\(t.flat=true->o8 pl.t=false):=by
 intro q
 induction q with
 | nil=>
  intro t m m2 H H2 v v2 cs bA F F2 ad pl hr hq h
  simp only[aJ,Option.some.injEq] at h
  subst h
  exact ⟨_,_,rfl,λhf=>by cases t <;> simp_all [Ty.flat,o8]⟩
 | cons s q ih=>
  intro t m m2 H H2 v v2 cs bA F F2 ad pl hr hq h
  cases t with
  | pair a b=>
   obtain ⟨h0,F1,F2,hs,h1,U⟩:=hr
   simp only[Ty.flat,Bool.and_eq_true] at hq ⊢
   cases s with
   | fst=>
    simp only[aJ,h0,if_false] at h ⊢
    split at h
    ·cases h
    ·obtain ⟨H',aS,h3,h4⟩:=ih a (v:=v.1) (m:=.leaf) (F:=F) h1 (hq.imp (λh=>by simpa [bD] using h) (·.1)) h
     grind
   | snd=>
    simp only[aJ,h0,if_false] at h ⊢
    split at h
    ·cases h
    ·obtain ⟨H',aS,h3,h4⟩:=ih b (v:=v.2) (m:=.leaf) (F:=F) U (hq.imp (λh=>by simpa [bD] using h) (·.2)) h
     grind
   | idx i=>simp[aJ] at h
   | jI i=>simp[aJ] at h
  | ae e=>
   cases s <;> grind [aJ,bD,Ty.flat]
  | arr n e=>
   cases s with
   | fst=>simp[aJ] at h
   | snd=>simp[aJ] at h
   | idx i=>simp[aJ] at h
   | jI i=>
    obtain ⟨rfl,hf,hl,hlen,hr⟩:=hr
    simp only[aJ,List.isEmpty_nil,if_true] at h ⊢
    split at h
    ·split at h
     ·rename_i hi
      rw[if_pos hi]
      obtain ⟨H',aS,h3,h4⟩:=ih e (v:=e.zero) (m:=.leaf) (F:=F) (Ro.flat e (m:=.leaf) (λ_ _=>0) hf (hr i _ (List.getElem?_eq_getElem (by grind)))) (.inr hf) h
      grind
     ·cases h
    ·cases h
  | _=>grind [aJ]
theorem kP.zero {w w2:World} {A A2:Cells} {t:Ty} {m2:Md} {H H2:List Path} {v2:t.den} {cs bA:List Value} {F2:FP} (ad:Option (Nat×Nat)) (h:ah P w2 A2 t m2 H2 v2 bA F2):kP 0 False w t H cs ad w2 H2 bA:=by
 intro q pl hq hp
 obtain ⟨H',aS,h1,_⟩:=tq (A:=A) (m:=m2) (v:=v2) (F:=F2) q t h (.inl (by omega)) hp
 grind
theorem kP.flat {w w2:World} {A A2:Cells} {t:Ty} {m2:Md} {H H2:List Path} {v2:t.den} {cs bA:List Value} {F2:FP} (ad:Option (Nat×Nat)) (h:ah P w2 A2 t m2 H2 v2 bA F2) (hf:t.flat=true) (d:Nat):kP d False w t H cs ad w2 H2 bA:=by
 intro q pl hq hp
 obtain ⟨H',aS,h1,U⟩:=tq (A:=A) (m:=m2) (v:=v2) (F:=F2) q t h (.inr hf) hp
 grind
theorem kP.same {w w2:World} {A:Cells} {t:Ty} {m:Md} {H:List Path} {v:t.den} {cs:List Value} {F:FP} (ad:Option (Nat×Nat)) (h:ah P w A t m H v cs F)
  (hA:∀ b i,A b i->∀ u,ce w b i=some u->ce w2 b i=some u) (hF:∀ b i,1<=F b i->∀ u,ce w b i=some u->ce w2 b i=some u) (d:Nat) (full:Prop):kP d full w t H cs ad w2 H cs:=by
 intro q pl hq hp
 exact ⟨pl.H,pl.cs,oM hA q t h hF hp,λ_=>rfl⟩
end
end OT
set_option linter.unusedVariables false
set_option linter.unusedSimpArgs false
namespace OT
open Go
def sh (cs:List Value) (off:Nat) (n:Nat) (c2:List Value):List Value:=cs.take off++c2++cs.drop (off+n)
def fd (loc:Option Nat) (cs:List Value) (n:Nat) (c2:List Value):List Value:=match loc with
 | some off=>sh cs off n c2
 | none=>cs
theorem nH {cs c2:List Value} {off n:Nat} (h:off+n<=cs.length) (U:c2.length=n):(sh cs off n c2).length=cs.length:=by
 simp[sh];omega
theorem si {cs:List Value} {off n:Nat} (h:off+n<=cs.length):sh cs off n ((cs.drop off).take n)=cs:=by
 unfold sh
 rw[List.append_assoc]
 have:(cs.drop off).take n++cs.drop (off+n)=cs.drop off:=by
  rw[<-List.drop_drop];exact List.take_append_drop n (cs.drop off)
 rw[this];exact List.take_append_drop off cs
theorem uA {cs c2:List Value} {off n:Nat} (h:off+n<=cs.length) (U:c2.length=n) (j:Nat):(sh cs off n c2)[j]?=if off<=j/\j < off+n then c2[j - off]? else cs[j]?:=by
 unfold sh
 rw[List.getElem?_append,List.getElem?_append]
 simp only[List.length_append,List.length_take]
 have h1:min off cs.length=off:=by omega
 rw[h1,U]
 split
 ·split
  ·rw[if_neg (by omega),List.getElem?_take,if_pos (by omega)]
  ·rw[if_pos (by omega)]
 ·rw[if_neg (by omega),List.getElem?_drop]
  congr 1;omega
theorem ND {cs c2:List Value} {k n' off n:Nat} (h:off+n<=n') (h':k+n'<=cs.length) (U:c2.length=n) :
  sh cs k n' (sh ((cs.drop k).take n') off n c2)=sh cs (k+off) n c2:=by
 have hl:((cs.drop k).take n').length=n':=by simp;omega
 apply List.ext_getElem?
 intro j
 rw[uA h' (by rw[nH (by omega) U,hl]),uA (by omega) U,uA (by omega) U]
 by_cases h3:k<=j/\j < k+n'
 ·rw[if_pos h3]
  by_cases h4:off<=j - k/\j - k < off+n
  ·rw[if_pos h4,if_pos (by omega)];congr 1;omega
  ·rw[if_neg h4,if_neg (by omega),List.getElem?_take,if_pos (by omega),List.getElem?_drop];congr 1;omega
 ·rw[if_neg h3,if_neg (by omega)]
theorem Gf {w2:World} {b o:Nat} {cs c2:List Value} {off n:Nat} (h:off+n<=cs.length) (U:c2.length=n)
  (hc:Has w2 b (o+off) c2) (hk:∀ j u,cs[j]?=some u->¬ (off<=j/\j < off+n)->ce w2 b (o+j)=some u):Has w2 b o (sh cs off n c2):=by
 intro j u hu
 rw[uA h U] at hu
 split at hu
 ·have:=hc _ u hu
  rw[show o+off+(j - off)=o+j by omega] at this
  exact this
 ·exact hk j u hu (by assumption)
section
variable {P:Program} {R:Type}
theorem Ot {w:World} {A:Cells} {r:R}:∀ (p:Path) (t:Ty) {m:Md} {H:List Path} {v:t.den} {cs:List Value} {F:FP} {ad:Option (Nat×Nat)} {K:(t':Ty)->Md->List Path->t'.den->Option R},
  gX p t m H v K=some r->ah P w A t m H v cs F->(∀ b o,ad=some (b,o)->Has w b o cs) ->
  ∃ (t':Ty) (m':Md) (H':List Path) (v':t'.den) (aS:List Value) (bl:Option (Nat×Nat)) (F':FP),K t' m' H' v'=some r/\(∀ {S:Type} (K0:(t:Ty)->Md->List Path->t.den->Option S),gX p t m H v K0=K0 t' m' H' v')/\aJ w p t H cs ad=some ⟨t',H',aS,bl⟩/\ah P w A t' m' H' v' aS F' /\
   (∀ b i,F' b i<=F b i)/\(∀ b o,bl=some (b,o)->Has w b o aS)/\(ad.isSome=true->bl.isSome=true):=by
 intro p
 induction p with
 | nil=>intro t m H v cs F ad K h hr ey;exact ⟨t,m,H,v,cs,ad,F,h,λ_=>rfl,rfl,hr,λ_ _=>Nat.le_refl _,ey,λh=>h⟩
 | cons s p ih=>
  intro t m H v cs F ad K h hr ey
  cases t with
  | pair a b=>
   obtain ⟨h0,F1,F2,hs,h1,U⟩:=hr
   have hle:=ah.length a h1
   have Dv:=ah.length b U
   simp only[List.length_take,List.length_drop] at hle Dv
   cases s with
   | fst=>
    have yk:H.any (·.isEmpty)=false:=h0
    simp only[gX,yk] at h
    obtain ⟨t',m',H',v',aS,bl,F',k1,kn,k2,k3,k4,k5,k6⟩:=ih a h h1 (ad:=ad) (λb o hb j u hu=>by
     rw[List.getElem?_take] at hu;split at hu;exact ey b o hb j u hu;cases hu)
    exact ⟨t',m',H',v',aS,bl,F',k1,λK0=>by simp only[gX,yk];exact kn K0,by simp only[aJ,h0];exact k2,k3,λb i=>by have:=hs b i;have:=k4 b i;omega,k5,k6⟩
   | snd=>
    have yk:H.any (·.isEmpty)=false:=h0
    simp only[gX,yk] at h
    obtain ⟨t',m',H',v',aS,bl,F',k1,kn,k2,k3,k4,k5,k6⟩:=ih b h U (ad:=cT ad a.sz) (λb' o hb j u hu=>by
     cases ad with
     | none=>cases hb
     | some x=>
      simp only[cT,Option.map_some,Option.some.injEq,Prod.mk.injEq] at hb
      obtain ⟨rfl,rfl⟩:=hb
      rw[List.getElem?_drop] at hu
      have:=ey x.1 x.2 rfl _ u hu
      rwa [Nat.add_assoc])
    exact ⟨t',m',H',v',aS,bl,F',k1,λK0=>by simp only[gX,yk];exact kn K0,by simp only[aJ,h0];exact k2,k3,λb i=>by have:=hs b i;have:=k4 b i;omega,k5,λh=>k6 (by cases ad <;> simp_all [cT])⟩
   | idx i=>simp[gX] at h
   | jI i=>simp[gX] at h
  | ae e=>
   cases s with
   | fst=>simp[gX] at h
   | snd=>simp[gX] at h
   | jI i=>simp[gX] at h
   | idx i=>
    simp only[gX] at h
    obtain ⟨h1,U,h3⟩:=wH h
    cases hx:(v:List e.den)[i]? with
    | none=>rw[hx] at h1;cases h1
    | some x=>
     rw[hx] at h1
     simp only[Option.bind_some] at h1
     have hi:i < List.length v:=(List.getElem?_eq_some_iff.1 hx).1
     simp only[ah,h3,Bool.false_eq_true,if_false] at hr
     split at hr
     ·obtain ⟨a,cap,rfl,g2,g3,g4,g5⟩:=hr
      cases a with
      | none=>have:=g4 rfl;omega
      | some cO=>
       obtain ⟨q1,q2,q3,Fi,q4,q5⟩:=g5 cO rfl
       obtain ⟨L,hl,hL,dw⟩:=q5 i x hx
       obtain ⟨t',m',H',v',aS,bl,F',k1,kn,k2,k3,k4,k5,k6⟩:=ih e h1 dw (ad:=some (cO.block,i*e.sz)) (λb o hb=>by
        simp only[Option.some.injEq,Prod.mk.injEq] at hb;obtain ⟨rfl,rfl⟩:=hb;exact hL)
       refine ⟨t',m',H',v',aS,bl,F',k1,λK0=>by simp only[gX];rw[u_ h,hx];exact kn K0,?_,k3,λb k=>?_,k5,λ_=>k6 rfl⟩
       ·simp only[aJ,h3,Bool.false_eq_true,if_false,hi,if_true,q1,Nat.zero_add,b9 hL hl];exact k2
       ·have:=k4 b k;have:=q4 b k;have:=bu Fi hi b k;omega
     ·obtain ⟨rfl,iz,a,cap,rfl,g2,g3,g4⟩:=hr
      cases a with
      | none=>have:=g3 rfl;omega
      | some cO=>
       obtain ⟨L,hl,hL,dw⟩:=(g4 cO rfl).2 i x hx
       have Gg:Has w cO.block (cO.off+i*e.sz) L:=λj u hu=>(hL j u hu).1
       obtain ⟨t',m',H',v',aS,bl,F',k1,kn,k2,k3,k4,k5,k6⟩:=ih e h1 (Ro.rep e (λ_ _=>0) iz dw) (ad:=some (cO.block,cO.off+i*e.sz)) (λb o hb=>by
        simp only[Option.some.injEq,Prod.mk.injEq] at hb;obtain ⟨rfl,rfl⟩:=hb;exact Gg)
       refine ⟨t',m',H',v',aS,bl,F',k1,λK0=>by simp only[gX];rw[u_ h,hx];exact kn K0,?_,k3,λb k=>?_,k5,λ_=>k6 rfl⟩
       ·simp only[aJ,h3,Bool.false_eq_true,if_false,hi,if_true,b9 Gg hl];exact k2
       ·have:=k4 b k;omega
  | arr n e=>
   cases s with
   | fst=>simp[gX] at h
   | snd=>simp[gX] at h
   | idx i=>simp[gX] at h
   | jI i=>
    obtain ⟨rfl,hf,hl,hlen,hr⟩:=hr
    simp only[gX,List.isEmpty_nil,if_true] at h
    cases hx:(v:List e.den)[i]? with
    | none=>rw[hx] at h;cases h
    | some x=>
     rw[hx] at h
     simp only[Option.bind_some] at h
     have hi:i < n:=hl ▸ (List.getElem?_eq_some_iff.1 hx).1
     obtain ⟨t',m',H',v',aS,bl,F',k1,kn,k2,k3,k4,k5,k6⟩:=ih e h (Ro.flat e (λ_ _=>0) hf (hr i x hx)) (ad:=cT ad (i*e.sz)) (λb' o hb j u hu=>by
      cases ad with
      | none=>cases hb
      | some y=>
       simp only[cT,Option.map_some,Option.some.injEq,Prod.mk.injEq] at hb
       obtain ⟨rfl,rfl⟩:=hb
       rw[List.getElem?_take] at hu
       split at hu
       ·rw[List.getElem?_drop] at hu
        have:=ey y.1 y.2 rfl _ u hu
        rwa [Nat.add_assoc]
       ·cases hu)
     exact ⟨t',m',H',v',aS,bl,F',k1,λK0=>by simp only[gX,List.isEmpty_nil,if_true,hx,Option.bind_some];exact kn K0,by simp only[aJ,List.isEmpty_nil,if_true,hi];exact k2,k3,λb k=>by have:=k4 b k;omega,k5,λh=>k6 (by cases ad <;> simp_all [cT])⟩
  | _=>cases s <;> simp[gX] at h
structure Qw (P:Program) (w:World) (A:Cells) {R:Type} (r:R) (p:Path) (t:Ty) (m:Md) (H:List Path) (v:t.den) (cs:List Value) (F:FP) (ad:Option (Nat×Nat))
  (f:(t':Ty)->Md->List Path->t'.den->(Md->List Path->t'.den->Option R)->Option R) (K:Md->List Path->t.den->Option R)
  (t':Ty) (m':Md) (H':List Path) (v':t'.den) (aS:List Value) (bl:Option (Nat×Nat)) (F' G:FP) (kk:Md->List Path->t'.den->Option R) (loc:Option Nat):Prop where
 run:f t' m' H' v' kk=some r
 I3:∀ {S:Type} (K0:(t':Ty)->Md->List Path->t'.den->Option S),gX p t m H v K0=K0 t' m' H' v'
 place:aJ w p t H cs ad=some ⟨t',H',aS,bl⟩
 rep:ah P w A t' m' H' v' aS F'
 sum:∀ b i,F' b i+G b i<=F b i
 has:∀ b o,bl=some (b,o)->Has w b o aS
 mG:∀ off,loc=some off->off+t'.sz<=t.sz/\aS=(cs.drop off).take t'.sz/\bl=cT ad off
 Hj:1<=bD p->loc=none
 out:loc=none->∃ b o,bl=some (b,o)/\∀ j,j < t'.sz->1<=G b (o+j)/\w.frozen? ⟨b,o+j,none⟩=false
 back:∀ m2 H2 (v2:t'.den),kk m2 H2 v2=some r->∀ (w2:World) (A2:Cells) (bA:List Value) (F2:FP),
  (∀ b n,dg w b n->dg w2 b n)->(∀ b i,A b i->A2 b i)->(∀ b i,A b i->∀ u,ce w b i=some u->ce w2 b i=some u) ->
  (∀ b i,1<=G b i->(∀ o,bl=some (b,o)->¬ (o<=i/\i < o+t'.sz))->∀ u,ce w b i=some u->ce w2 b i=some u) ->
  (∀ b o,bl=some (b,o)->Has w2 b o bA)->ah P w2 A2 t' m2 H2 v2 bA F2->(∀ b i,F2 b i+G b i<=1) ->
  ∃ m3 H3 v3 F3,K m3 H3 v3=some r/\(∀ b i,F3 b i<=F2 b i+G b i) /\
   (∀ A3:Cells,(∀ b i,A2 b i->A3 b i)->(∀ b i,1<=F2 b i+G b i->F3 b i=0->A3 b i)->ah P w2 A3 t m3 H3 v3 (fd loc cs t'.sz bA) F3) /\
   (∀ d full,kP d full w t' H' aS bl w2 H2 bA->kP (d+bD p) full w t H cs ad w2 H3 (fd loc cs t'.sz bA))
theorem dg.frozen {w:World} {b:Nat} {n:Nat×Bool} (h:dg w b n) {i:Nat} (hi:i < n.1):w.frozen? ⟨b,i,none⟩=false:=by
 obtain ⟨c,e,fr,h1,U,h3,_⟩:=h
 obtain ⟨lo,mH⟩:=fr
 have:=h3 i hi
 simp only[World.frozen?,h1]
 simp only[Bool.and_eq_false_iff,decide_eq_false_iff_not]
 simp only at this
 omega
theorem Ou {w:World} {A:Cells} {r:R}:∀ (p:Path) (t:Ty) {m:Md} {H:List Path} {v:t.den} {cs:List Value} {F:FP} {ad:Option (Nat×Nat)}
  {f:(t':Ty)->Md->List Path->t'.den->(Md->List Path->t'.den->Option R)->Option R} {K:Md->List Path->t.den->Option R},
  kq p t m H v f K=some r->ah P w A t m H v cs F->(∀ b i,F b i<=1)->(∀ b o,ad=some (b,o)->Has w b o cs)->(∀ b o,ad=some (b,o)->∀ j,j < t.sz->F b (o+j)=0) ->
  ∃ t' m' H' v' aS bl F' G kk loc,Qw P w A r p t m H v cs F ad f K t' m' H' v' aS bl F' G kk loc:=by
 intro p
 induction p with
 | nil=>
  intro t m H v cs F ad f K h hr hF ey va
  have hlen:=ah.length t hr
  refine ⟨t,m,H,v,cs,ad,F,λ_ _=>0,K,some 0,h,λ_=>rfl,rfl,hr,λ_ _=>by simp,ey,?_,(λh=>by simp[bD] at h),(λh=>by cases h),?_⟩
  ·intro off ho
   injection ho with ho;subst ho
   refine ⟨by omega,?_,?_⟩
   ·rw[List.drop_zero,<- hlen,List.take_length]
   ·cases ad <;> simp[cT]
  ·intro m2 H2 v2 hk w2 A2 bA F2 hb hA lM hG vd nV hs
   have rq:=ah.length t nV
   have SO:fd (some 0) cs t.sz bA=bA:=by
    simp[fd,sh,List.drop_eq_nil_of_le (show cs.length<=t.sz by omega)]
   rw[SO]
   refine ⟨m2,H2,v2,F2,hk,λ_ _=>by simp,λA3 ku _=>ah.mono ku (λ_ _ _ _ h=>h) (λ_ _ h=>h) t nV (λ_ _=>Nat.le_refl _) (λ_ _ _ _ h=>h),λd full hd=>hd⟩
 | cons s p ih=>
  intro t m H v cs F ad f K h hr hF ey va
  cases t with
  | pair a b=>
   obtain ⟨h0,F1,F2,hs,h1,U⟩:=hr
   have hle:=ah.length a h1
   have Dv:=ah.length b U
   simp only[List.length_take,List.length_drop] at hle Dv
   have yk:H.any (·.isEmpty)=false:=h0
   have Qx:∀ b o,ad=some (b,o)->Has w b o (cs.take a.sz):=λb o hb j u hu=>by
    rw[List.getElem?_take] at hu;split at hu;exact ey b o hb j u hu;cases hu
   have Qy:∀ b' o,cT ad a.sz=some (b',o)->Has w b' o (cs.drop a.sz):=λb' o hb j u hu=>by
    cases ad with
    | none=>cases hb
    | some x=>
     simp only[cT,Option.map_some,Option.some.injEq,Prod.mk.injEq] at hb
     obtain ⟨rfl,rfl⟩:=hb
     rw[List.getElem?_drop] at hu
     have:=ey x.1 x.2 rfl _ u hu
     rwa [Nat.add_assoc]
   cases s with
   | fst=>
    simp only[kq,yk] at h
    obtain ⟨t',m',H',v',aS,bl,F',G,kk,loc,M⟩:=ih a h h1 (λb i=>by have:=hs b i;have:=hF b i;omega) Qx (λb' o hb j hj=>by
     have:=va b' o hb j (by simp only[Ty.sz];omega);have:=hs b' (o+j);omega)
    refine ⟨t',m',H',v',aS,bl,F',λb i=>G b i+F2 b i,kk,loc,M.run,λK0=>by simp only[gX,yk];exact M.I3 K0,by simp only[aJ,h0];exact M.place,M.rep,λb i=>by have:=hs b i;have:=M.sum b i;omega,M.has,?_,(λh=>M.Hj (by simpa [bD] using h)),?_,?_⟩
    ·intro off ho
     obtain ⟨q1,q2,q3⟩:=M.mG off ho
     refine ⟨by simp only[Ty.sz];omega,?_,q3⟩
     rw[q2,List.drop_take,List.take_take]
     congr 1;omega
    ·intro ho
     obtain ⟨b',o,q1,q2⟩:=M.out ho
     exact ⟨b',o,q1,λj hj=>⟨by have:=(q2 j hj).1;omega,(q2 j hj).2⟩⟩
    ·intro m2 H2 v2 hk w2 A2 bA BR hb hA lM hG vd nV jq
     obtain ⟨m3,H3,v3,F3,k1,k2,k3,k4⟩:=M.back m2 H2 v2 hk w2 A2 bA BR hb hA lM (λb' i hp hn=>hG b' i (by omega) hn) vd nV (λb' i=>by have:=jq b' i;omega)
     have rq:=ah.length t' nV
     have mX:fd loc cs t'.sz bA=fd loc (cs.take a.sz) t'.sz bA++cs.drop a.sz:=by
      cases loc with
      | none=>simp[fd]
      | some off=>
       have:=(M.mG off rfl).1
       simp only[fd,sh]
       rw[List.take_take,show min off a.sz=off by omega,List.append_assoc,List.append_assoc,List.append_assoc]
       congr 2
       rw[List.drop_take]
       have e:cs.drop a.sz=(cs.drop (off+t'.sz)).drop (a.sz - (off+t'.sz)):=by rw[List.drop_drop];congr 1;omega
       rw[e,List.take_append_drop]
     have rr:(fd loc (cs.take a.sz) t'.sz bA).length=a.sz:=by
      cases loc with
      | none=>simp[fd];omega
      | some off=>have:=(M.mG off rfl).1;simp only[fd];rw[nH (by simp;omega) rq];simp;omega
     have rB:∀ d full,kP d full w t' H' aS bl w2 H2 bA->full->fd loc cs t'.sz bA=cs:=λd full hd o9=>by
      obtain ⟨H5,c5,e1,e2⟩:=hd [] ⟨t',H',aS,bl⟩ (Nat.zero_le _) rfl
      simp only[aJ,Option.some.injEq,Pl.mk.injEq] at e1
      have e3:bA=aS:=e1.2.2.1.trans (e2 (.inr o9))
      cases loc with
      | none=>rfl
      | some off=>
       have:=M.mG off rfl
       rw[e3,this.2.1,List.drop_take,List.take_take,show min t'.sz (a.sz - off)=t'.sz by omega]
       exact si (by omega)
     have jx:(fd loc cs t'.sz bA).take a.sz=fd loc (cs.take a.sz) t'.sz bA:=by rw[mX];exact List.take_left' rr
     have zD:(fd loc cs t'.sz bA).drop a.sz=cs.drop a.sz:=by rw[mX];exact List.drop_left' rr
     have BS:∀ b' i,1<=F2 b' i->∀ u,ce w b' i=some u->ce w2 b' i=some u:=λb' i hp u hu=>by
      refine hG b' i (by omega) (λo fe sj=>?_) u hu
      have TX:=hs b' i;have TY:=hF b' i
      cases loc with
      | none=>
       obtain ⟨b0,o0,q1,q2⟩:=M.out rfl
       rw[q1] at fe
       simp only[Option.some.injEq,Prod.mk.injEq] at fe
       obtain ⟨rfl,rfl⟩:=fe
       have:=(q2 (i - o0) (by omega)).1
       rw[show o0+(i - o0)=i by omega] at this
       have:=M.sum b0 i
       omega
      | some off=>
       obtain ⟨q1,q2,q3⟩:=M.mG off rfl
       cases ad with
       | none=>rw[q3] at fe;cases fe
       | some x=>
        rw[q3] at fe
        simp only[cT,Option.map_some,Option.some.injEq,Prod.mk.injEq] at fe
        obtain ⟨rfl,rfl⟩:=fe
        have:=va x.1 x.2 rfl (i - x.2) (by simp only[Ty.sz];omega)
        rw[show x.2+(i - x.2)=i by omega] at this
        omega
     refine ⟨_,_,_,λb' i=>F3 b' i+F2 b' i,k1,λb' i=>by have:=k2 b' i;show F3 b' i+F2 b' i<=_;omega,λA3 ku ez=>?_,λd full hd=>?_⟩
     ·refine ⟨by rw[lr,kt,kt];rfl,F3,F2,λ_ _=>Nat.le_refl _,?_,?_⟩
      ·rw[jx,List.filterMap_append,mE,nh,List.append_nil]
       refine k3 A3 ku λb' i hp hz=>ez b' i (by omega) ?_
       have:=jq b' i
       show F3 b' i+F2 b' i=0;omega
      ·rw[zD,List.filterMap_append,ni,mF,List.nil_append]
       exact ah.mono (λb' i ha=>ku b' i (hA b' i ha)) lM hb b U (λ_ _=>Nat.le_refl _) BS
     ·intro q pl hq hp
      cases q with
      | nil=>
       simp only[aJ,Option.some.injEq] at hp;subst hp
       refine ⟨_,_,rfl,λh=>?_⟩
       rcases h with ⟨_,hs⟩ | o9
       ·simp[o8] at hs
       ·exact rB d full hd o9
      | cons s q=>
       cases s with
       | fst=>
        simp only[aJ,h0,Bool.false_eq_true,if_false] at hp
        obtain ⟨H4,Mf,e1,e2⟩:=k4 d full hd q pl (by simpa [bD] using hq) hp
        refine ⟨H4,Mf,?_,λlN=>e2 (by simpa [bD] using lN)⟩
        simp only[aJ,lr,kt,Bool.or_self,Bool.false_eq_true,if_false]
        rw[jx,List.filterMap_append,mE,nh,List.append_nil]
        exact e1
       | snd=>
        simp only[aJ,h0,Bool.false_eq_true,if_false] at hp
        refine ⟨pl.H,pl.cs,?_,λ_=>rfl⟩
        simp only[aJ,lr,kt,Bool.or_self,Bool.false_eq_true,if_false]
        rw[zD,List.filterMap_append,ni,mF,List.nil_append]
        exact oM lM q b U BS hp
       | idx i=>simp[aJ] at hp
       | jI i=>simp[aJ] at hp
   | snd=>
    simp only[kq,yk] at h
    obtain ⟨t',m',H',v',aS,bl,F',G,kk,loc,M⟩:=ih b h U (λb i=>by have:=hs b i;have:=hF b i;omega) Qy (λb' o hb j hj=>by
     cases ad with
     | none=>cases hb
     | some x=>
      simp only[cT,Option.map_some,Option.some.injEq,Prod.mk.injEq] at hb
      obtain ⟨rfl,rfl⟩:=hb
      have:=va x.1 x.2 rfl (a.sz+j) (by simp only[Ty.sz];omega);have:=hs x.1 (x.2+(a.sz+j))
      rw[Nat.add_assoc];omega)
    refine ⟨t',m',H',v',aS,bl,F',λb i=>G b i+F1 b i,kk,loc.map (a.sz+·),M.run,λK0=>by simp only[gX,yk];exact M.I3 K0,by simp only[aJ,h0];exact M.place,M.rep,λb i=>by have:=hs b i;have:=M.sum b i;omega,M.has,?_,(λh=>by rw[M.Hj (by simpa [bD] using h)];rfl),?_,?_⟩
    ·intro Ov ho
     obtain ⟨off,Ow,rfl⟩:=Option.map_eq_some_iff.1 ho
     obtain ⟨q1,q2,q3⟩:=M.mG off Ow
     refine ⟨by simp only[Ty.sz];omega,by rw[q2,List.drop_drop],?_⟩
     rw[q3];cases ad <;> simp[cT,Nat.add_assoc]
    ·intro ho
     obtain ⟨b',o,q1,q2⟩:=M.out (by simpa using ho)
     exact ⟨b',o,q1,λj hj=>⟨by have:=(q2 j hj).1;omega,(q2 j hj).2⟩⟩
    ·intro m2 H2 v2 hk w2 A2 bA BR hb hA lM hG vd nV jq
     obtain ⟨m3,H3,v3,F3,k1,k2,k3,k4⟩:=M.back m2 H2 v2 hk w2 A2 bA BR hb hA lM (λb' i hp hn=>hG b' i (by omega) hn) vd nV (λb' i=>by have:=jq b' i;omega)
     have rq:=ah.length t' nV
     have mX:fd (loc.map (a.sz+·)) cs t'.sz bA=cs.take a.sz++fd loc (cs.drop a.sz) t'.sz bA:=by
      cases loc with
      | none=>simp[fd]
      | some off=>
       have:=(M.mG off rfl).1
       simp only[fd,sh,Option.map_some]
       rw[List.take_add,List.drop_drop,List.append_assoc,List.append_assoc,List.append_assoc,Nat.add_assoc]
     have rr:(cs.take a.sz).length=a.sz:=by simp;omega
     have rB:∀ d full,kP d full w t' H' aS bl w2 H2 bA->full->fd (loc.map (a.sz+·)) cs t'.sz bA=cs:=λd full hd o9=>by
      obtain ⟨H5,c5,e1,e2⟩:=hd [] ⟨t',H',aS,bl⟩ (Nat.zero_le _) rfl
      simp only[aJ,Option.some.injEq,Pl.mk.injEq] at e1
      have e3:bA=aS:=e1.2.2.1.trans (e2 (.inr o9))
      cases loc with
      | none=>rfl
      | some off=>
       have:=M.mG off rfl
       rw[e3,this.2.1,List.drop_drop]
       exact si (show a.sz+off+t'.sz<=cs.length by omega)
     have jx:(fd (loc.map (a.sz+·)) cs t'.sz bA).take a.sz=cs.take a.sz:=by rw[mX];exact List.take_left' rr
     have zD:(fd (loc.map (a.sz+·)) cs t'.sz bA).drop a.sz=fd loc (cs.drop a.sz) t'.sz bA:=by rw[mX];exact List.drop_left' rr
     have BS:∀ b' i,1<=F1 b' i->∀ u,ce w b' i=some u->ce w2 b' i=some u:=λb' i hp u hu=>by
      refine hG b' i (by omega) (λo fe sj=>?_) u hu
      have TX:=hs b' i;have TY:=hF b' i
      cases loc with
      | none=>
       obtain ⟨b0,o0,q1,q2⟩:=M.out rfl
       rw[q1] at fe
       simp only[Option.some.injEq,Prod.mk.injEq] at fe
       obtain ⟨rfl,rfl⟩:=fe
       have:=(q2 (i - o0) (by omega)).1
       rw[show o0+(i - o0)=i by omega] at this
       have:=M.sum b0 i
       omega
      | some off=>
       obtain ⟨q1,q2,q3⟩:=M.mG off rfl
       cases ad with
       | none=>rw[q3] at fe;cases fe
       | some x=>
        rw[q3] at fe
        simp only[cT,Option.map_some,Option.some.injEq,Prod.mk.injEq] at fe
        obtain ⟨rfl,rfl⟩:=fe
        have:=va x.1 x.2 rfl (i - x.2) (by simp only[Ty.sz];omega)
        rw[show x.2+(i - x.2)=i by omega] at this
        omega
     refine ⟨_,_,_,λb' i=>F3 b' i+F1 b' i,k1,λb' i=>by have:=k2 b' i;show F3 b' i+F1 b' i<=_;omega,λA3 ku ez=>?_,λd full hd=>?_⟩
     ·refine ⟨by rw[lr,kt,kt];rfl,F1,F3,λb' i=>by show F1 b' i+F3 b' i<=F3 b' i+F1 b' i;omega,?_,?_⟩
      ·rw[jx,List.filterMap_append,mE,nh,List.append_nil]
       exact ah.mono (λb' i ha=>ku b' i (hA b' i ha)) lM hb a h1 (λ_ _=>Nat.le_refl _) BS
      ·rw[zD,List.filterMap_append,ni,mF,List.nil_append]
       refine k3 A3 ku λb' i hp hz=>ez b' i (by omega) ?_
       have:=jq b' i
       show F3 b' i+F1 b' i=0;omega
     ·intro q pl hq hp
      cases q with
      | nil=>
       simp only[aJ,Option.some.injEq] at hp;subst hp
       refine ⟨_,_,rfl,λh=>?_⟩
       rcases h with ⟨_,hs⟩ | o9
       ·simp[o8] at hs
       ·exact rB d full hd o9
      | cons s q=>
       cases s with
       | snd=>
        simp only[aJ,h0,Bool.false_eq_true,if_false] at hp
        obtain ⟨H4,Mf,e1,e2⟩:=k4 d full hd q pl (by simpa [bD] using hq) hp
        refine ⟨H4,Mf,?_,λlN=>e2 (by simpa [bD] using lN)⟩
        simp only[aJ,lr,kt,Bool.or_self,Bool.false_eq_true,if_false]
        rw[zD,List.filterMap_append,ni,mF,List.nil_append]
        exact e1
       | fst=>
        simp only[aJ,h0,Bool.false_eq_true,if_false] at hp
        refine ⟨pl.H,pl.cs,?_,λ_=>rfl⟩
        simp only[aJ,lr,kt,Bool.or_self,Bool.false_eq_true,if_false]
        rw[jx,List.filterMap_append,mE,nh,List.append_nil]
        exact oM lM q a h1 BS hp
       | idx i=>simp[aJ] at hp
       | jI i=>simp[aJ] at hp
   | idx i=>simp[kq] at h
   | jI i=>simp[kq] at h
  | ae e=>
   cases s with
   | fst=>simp[kq] at h
   | snd=>simp[kq] at h
   | jI i=>simp[kq] at h
   | idx i=>
    simp only[kq] at h
    split at h
    ·rename_i dj
     obtain ⟨h1,U,h3⟩:=wH h
     cases hx:(v:List e.den)[i]? with
     | none=>rw[hx] at h1;cases h1
     | some x=>
      rw[hx] at h1
      simp only[Option.bind_some] at h1
      have hi:i < List.length v:=(List.getElem?_eq_some_iff.1 hx).1
      simp only[ah,h3,Bool.false_eq_true,if_false,dj,if_true] at hr
      obtain ⟨a,cap,rfl,g2,g3,g4,g5⟩:=hr
      cases a with
      | none=>have:=g4 rfl;omega
      | some cO=>
       obtain ⟨q1,q2,q3,Fi,q4,q5⟩:=g5 cO rfl
       obtain ⟨L,hl,hL,dw⟩:=q5 i x hx
       have av:∀ k,k < List.length v->∀ j,j < e.sz->k*e.sz+j < cap*e.sz:=λk hk j hj=>by
        have av:(k+1)*e.sz<=cap*e.sz:=Nat.mul_le_mul_right _ (by omega)
        rw[Nat.add_mul] at av;omega
       have Dw:∀ k,k < cap*e.sz->bP cO.block 0 (cap*e.sz) cO.block k=1:=λk hk=>by simp[bP,hk]
       obtain ⟨t',m',H',v',aS,bl,F',G,kk,loc,M⟩:=ih e h1 dw (λb k=>by have:=q4 b k;have:=hF b k;have:=bu Fi hi b k;omega)
        (ad:=some (cO.block,i*e.sz)) (λb o hb=>by simp only[Option.some.injEq,Prod.mk.injEq] at hb;obtain ⟨rfl,rfl⟩:=hb;exact hL)
        (λb o hb j hj=>by
         simp only[Option.some.injEq,Prod.mk.injEq] at hb;obtain ⟨rfl,rfl⟩:=hb
         have:=q4 cO.block (i*e.sz+j);have:=hF cO.block (i*e.sz+j);have:=bu Fi hi cO.block (i*e.sz+j)
         have:=Dw _ (av i hi j hj);omega)
       have ve:∀ b k,aA (List.length v) (cx Fi i G) b k+Fi i b k=aA (List.length v) Fi b k+G b k:=l8 Fi hi G
       have tZ:∀ b k,G b k<=aA (List.length v) (cx Fi i G) b k:=λb k=>by
        have:=bu (cx Fi i G) hi b k;simpa [cx] using this
       refine ⟨t',m',H',v',aS,bl,F',λb k=>bP cO.block 0 (cap*e.sz) b k+aA (List.length v) (cx Fi i G) b k,kk,none,M.run,λK0=>by simp only[gX];rw[u_ h,hx];exact M.I3 K0,?_,M.rep,λb k=>by have:=ve b k;have:=M.sum b k;have:=q4 b k;omega,M.has,(λoff ho=>by cases ho),(λ_=>rfl),?_,?_⟩
       ·simp only[aJ,h3,Bool.false_eq_true,if_false,hi,if_true,q1,Nat.zero_add,b9 hL hl];exact M.place
       ·intro _
        cases loc with
        | none=>
         obtain ⟨b',o,e1,e2⟩:=M.out rfl
         exact ⟨b',o,e1,λj hj=>⟨by have:=(e2 j hj).1;have:=tZ b' (o+j);omega,(e2 j hj).2⟩⟩
        | some off=>
         obtain ⟨e1,e2,e3⟩:=M.mG off rfl
         refine ⟨cO.block,i*e.sz+off,e3,λj hj=>?_⟩
         have rt:=av i hi (off+j) (by omega)
         rw[<-Nat.add_assoc] at rt
         exact ⟨by have:=Dw _ rt;omega,q3.frozen rt⟩
       ·intro m2 H2 v2 hk w2 A2 bA BR hb hA lM hG vd nV jq
        obtain ⟨m3,H3,v3,F3,k1,k2,k3,k4⟩:=M.back m2 H2 v2 hk w2 A2 bA BR hb hA lM (λb' i hp hn=>hG b' i (by have:=tZ b' i;omega) hn) vd nV
         (λb' i=>by have:=jq b' i;have:=tZ b' i;omega)
        have rq:=ah.length t' nV
        have apart:∀ b' k,(∀ o,bl=some (b',o)->o<=k/\k < o+t'.sz->1<=Fi i b' k\/(b'=cO.block/\i*e.sz<=k/\k < i*e.sz+e.sz)):=λb' k o fe sj=>by
         cases loc with
         | none=>
          obtain ⟨b0,o0,e1,e2⟩:=M.out rfl
          rw[e1] at fe
          simp only[Option.some.injEq,Prod.mk.injEq] at fe
          obtain ⟨rfl,rfl⟩:=fe
          have:=(e2 (k - o0) (by omega)).1
          rw[show o0+(k - o0)=k by omega] at this
          have:=M.sum b0 k
          left;omega
         | some off=>
          obtain ⟨e1,e2,e3⟩:=M.mG off rfl
          rw[e3] at fe
          simp only[cT,Option.map_some,Option.some.injEq,Prod.mk.injEq] at fe
          obtain ⟨rfl,rfl⟩:=fe
          exact .inr ⟨rfl,by omega,by omega⟩
        have BS:∀ j,j < List.length v->j≠i->∀ b' k,1<=Fi j b' k->∀ u,ce w b' k=some u->ce w2 b' k=some u:=λj hj hJ b' k hp u hu=>by
         have h1:=bu (cx Fi i G) hj b' k
         have e1:cx Fi i G j=Fi j:=by simp[cx,hJ]
         rw[e1] at h1
         refine hG b' k (by omega) (λo fe sj=>?_) u hu
         have U:=q4 b' k;have h3:=hF b' k;have h4:=l9 Fi hj hi hJ b' k
         rcases apart b' k o fe sj with h | ⟨rfl,I4,Ox⟩
         ·omega
         ·have:=Dw (i*e.sz+(k - i*e.sz)) (av i hi _ (by omega))
          rw[show i*e.sz+(k - i*e.sz)=k by omega] at this
          omega
        have cell:∀ j,j < List.length v->j≠i->∀ k,k < e.sz->∀ u,ce w cO.block (j*e.sz+k)=some u->ce w2 cO.block (j*e.sz+k)=some u:=λj hj hJ k hk u hu=>by
         have p5:=Dw _ (av j hj k hk)
         refine hG _ _ (by omega) (λo fe sj=>?_) u hu
         have U:=q4 cO.block (j*e.sz+k);have h3:=hF cO.block (j*e.sz+k)
         rcases apart _ _ o fe sj with h | ⟨_,I4,Ox⟩
         ·have:=bu Fi hi cO.block (j*e.sz+k);omega
         ·have dI:j < i\/i < j:=by omega
          rcases dI with vf | vf
          ·have:(j+1)*e.sz<=i*e.sz:=Nat.mul_le_mul_right _ vf
           rw[Nat.add_mul] at this;omega
          ·have:(i+1)*e.sz<=j*e.sz:=Nat.mul_le_mul_right _ vf
           rw[Nat.add_mul] at this;omega
        have Oy:Has w2 cO.block (i*e.sz) (fd loc L t'.sz bA):=by
         have qX:∀ j u,L[j]?=some u->(∀ off,loc=some off->¬ (off<=j/\j < off+t'.sz))->ce w2 cO.block (i*e.sz+j)=some u:=λj u hu hn=>by
          have hj:j < e.sz:=hl ▸ (List.getElem?_eq_some_iff.1 hu).1
          have p5:=Dw _ (av i hi j hj)
          refine hG _ _ (by omega) (λo fe sj=>?_) u (hL j u hu)
          cases loc with
          | none=>
           obtain ⟨b0,o0,e1,e2⟩:=M.out rfl
           rw[e1] at fe
           simp only[Option.some.injEq,Prod.mk.injEq] at fe
           obtain ⟨rfl,rfl⟩:=fe
           have:=(e2 (i*e.sz+j - o0) (by omega)).1
           rw[show o0+(i*e.sz+j - o0)=i*e.sz+j by omega] at this
           have U:=q4 cO.block (i*e.sz+j);have h3:=hF cO.block (i*e.sz+j);have:=tZ cO.block (i*e.sz+j);have:=ve cO.block (i*e.sz+j);have:=M.sum cO.block (i*e.sz+j)
           have:=bu Fi hi cO.block (i*e.sz+j)
           omega
          | some off=>
           obtain ⟨e1,e2,e3⟩:=M.mG off rfl
           rw[e3] at fe
           simp only[cT,Option.map_some,Option.some.injEq,Prod.mk.injEq] at fe
           obtain ⟨_,rfl⟩:=fe
           exact hn off rfl (by omega)
         cases loc with
         | none=>exact λj u hu=>qX j u hu (λoff ho=>by cases ho)
         | some off=>
          obtain ⟨e1,e2,e3⟩:=M.mG off rfl
          exact Gf (by omega) rq (vd _ _ e3) (λj u hu hn=>qX j u hu (λOv ho=>by injection ho with ho;subst ho;exact hn))
        have I5:(fd loc L t'.sz bA).length=e.sz:=by
         cases loc with
         | none=>exact hl
         | some off=>have:=(M.mG off rfl).1;simp only[fd];rw[nH (by omega) rq,hl]
        have t_:∀ (j:Nat) (y:e.den),(List.set v i v3)[j]?=some y->(j=i/\y=v3)\/(j≠i/\(v:List e.den)[j]?=some y):=λj y hy=>by
         rw[List.getElem?_set] at hy
         split at hy
         ·rename_i ng
          subst ng
          injection hy with hy
          exact .inl ⟨rfl,hy.symm⟩
         ·rename_i ng;exact .inr ⟨λh=>ng h.symm,hy⟩
        have others:∀ A3:Cells,(∀ b i,A2 b i->A3 b i)->∀ (j:Nat) (y:e.den),j≠i->(v:List e.den)[j]?=some y->∃ L:List Value,L.length=e.sz/\Has w2 cO.block (j*e.sz) L/\Has w cO.block (j*e.sz) L/\ah P w A e m.e [] y L (Fi j)/\ah P w2 A3 e m.e [] y L (Fi j):=λA3 ku j y hJ hy=>by
         have hj:j < List.length v:=(List.getElem?_eq_some_iff.1 hy).1
         obtain ⟨Lj,zE,Mg,I6⟩:=q5 j y hy
         rw[U j hJ] at I6
         exact ⟨Lj,zE,λk u hu=>cell j hj hJ k (zE ▸ (List.getElem?_eq_some_iff.1 hu).1) u (Mg k u hu),Mg,I6,ah.mono (λb' i ha=>ku b' i (hA b' i ha)) lM hb e I6 (λ_ _=>Nat.le_refl _) (BS j hj hJ)⟩
        have Oz:∀ H4:List Path,hole H4=false->H4.filterMap (fm i)=H3->(∀ j,j≠i->H4.filterMap (fm j)=[])->∀ d full,kP d full w t' H' aS bl w2 H2 bA->kP (d+bD (.idx i::p)) full w (.ae e) H [.slice (some cO) (List.length v) cap] ad w2 H4 [.slice (some cO) (List.length v) cap]:=by
         intro H4 RD TZ T5 d full hd q pl hq hp
         cases q with
         | nil=>
          simp only[aJ,Option.some.injEq] at hp;subst hp
          exact ⟨_,_,rfl,λ_=>rfl⟩
         | cons s q=>
          cases s with
          | fst=>simp[aJ] at hp
          | snd=>simp[aJ] at hp
          | jI j=>simp[aJ] at hp
          | idx j=>
           simp only[aJ,h3,Bool.false_eq_true,if_false] at hp
           split at hp
           ·rename_i hj
            by_cases hJ:j=i
            ·subst hJ
             rw[q1,Nat.zero_add,b9 hL hl] at hp
             obtain ⟨H5,OA,e1,e2⟩:=k4 d full hd q pl (by simp only[bD] at hq;omega) hp
             refine ⟨H5,OA,?_,λlN=>e2 (lN.imp (λh=>⟨by have:=h.1;simp only[bD] at this;omega,h.2⟩) id)⟩
             simp only[aJ,RD,Bool.false_eq_true,if_false,hj,if_true,q1,Nat.zero_add,b9 Oy I5,TZ]
             exact e1
            ·obtain ⟨Lj,zE,Dx,Mg,I6,_⟩:=others A2 (λ_ _ h=>h) j _ hJ (List.getElem?_eq_getElem hj)
             rw[q1,Nat.zero_add,b9 Mg zE,U j hJ] at hp
             refine ⟨pl.H,pl.cs,?_,λ_=>rfl⟩
             simp only[aJ,RD,Bool.false_eq_true,if_false,hj,if_true,q1,Nat.zero_add,b9 Dx zE,T5 j hJ]
             exact oM lM q e I6 (BS j hj hJ) hp
           ·cases hp
        simp only[fd]
        by_cases wk:m3=m.e
        ·rw[if_pos wk] at k1
         subst wk
         refine ⟨_,_,_,λb' k=>bP cO.block 0 (cap*e.sz) b' k+aA (List.length v) (cx Fi i F3) b' k,k1,λb' k=>?_,λA3 ku ez=>?_,Oz _ (kt _ _) (wj _ _) (λj hj=>sg hj _)⟩
         ·have:=l8 Fi hi F3 b' k;have:=ve b' k;have:=k2 b' k
          show bP cO.block 0 (cap*e.sz) b' k+aA (List.length v) (cx Fi i F3) b' k<=_
          omega
         ·simp only[ah,kt,Bool.false_eq_true,if_false,Md.own,if_true]
          refine ⟨some cO,cap,by simp,by simpa using g2,g3,(λhn=>by cases hn),λym yO=>?_⟩
          injection yO with yO;subst yO
          refine ⟨q1,q2,hb _ _ q3,cx Fi i F3,λb' k=>by simp,λj y hy=>?_⟩
          rcases t_ j y hy with ⟨rfl,rfl⟩ | ⟨hJ,yn⟩
          ·refine ⟨_,I5,Oy,?_⟩
           rw[wj]
           simp only[Md.e,cx,if_true]
           refine k3 A3 ku λb' k hp hz=>ez b' k ?_ ?_
           ·have:=tZ b' k;omega
           ·have h5:=jq b' k;have h6:=l8 Fi hi F3 b' k;have h7:=ve b' k;have:=tZ b' k
            have h8:=q4 b' k;have h9:=M.sum b' k
            have:=k2 b' k
            show bP cO.block 0 (cap*e.sz) b' k+aA (List.length v) (cx Fi j F3) b' k=0
            omega
          ·obtain ⟨Lj,zE,Dx,_,_,KQ⟩:=others A3 ku j y hJ yn
           refine ⟨Lj,zE,Dx,?_⟩
           rw[sg hJ]
           simp only[cx,if_neg hJ]
           exact KQ
        ·rw[if_neg wk] at k1
         split at k1
         ·rename_i BT
          have BT:H3=[]:=List.isEmpty_iff.1 BT
          refine ⟨_,_,_,λb' k=>bP cO.block 0 (cap*e.sz) b' k,k1,λb' k=>by show bP cO.block 0 (cap*e.sz) b' k<=_;omega,λA3 ku ez=>?_,Oz _ rfl (by rw[BT];rfl) (λj hj=>rfl)⟩
          simp only[ah,hole,List.any_nil,Bool.false_eq_true,if_false,Md.own,if_true]
          refine ⟨some cO,cap,by simp,by simpa using g2,g3,(λhn=>by cases hn),λym yO=>?_⟩
          injection yO with yO;subst yO
          refine ⟨q1,q2,hb _ _ q3,λ_ _ _=>0,λb' k=>by rw[f7];simp,λj y hy=>?_⟩
          have fz:∀ b' k,1<=BR b' k+(bP cO.block 0 (cap*e.sz) b' k+aA (List.length v) (cx Fi i G) b' k)->bP cO.block 0 (cap*e.sz) b' k=0->A3 b' k:=ez
          rcases t_ j y hy with ⟨rfl,rfl⟩ | ⟨hJ,yn⟩
          ·refine ⟨_,I5,Oy,?_⟩
           have OB:=k3 A3 ku λb' k hp hz=>fz b' k (by have:=tZ b' k;omega) (by
            have h5:=jq b' k;have:=tZ b' k;omega)
           rw[BT] at OB
           refine Ro.rep e _ (cN e) (ah.o7 (λ_ _ h=>h) e OB λb' k hp=>fz b' k ?_ ?_)
           ·have:=k2 b' k;have:=tZ b' k;omega
           ·have h5:=jq b' k;have:=tZ b' k;have:=k2 b' k;omega
          ·obtain ⟨Lj,zE,Dx,_,_,KQ⟩:=others A3 ku j y hJ yn
           have hj:j < List.length v:=(List.getElem?_eq_some_iff.1 yn).1
           refine ⟨Lj,zE,Dx,Ro.rep e _ (cN e) (ah.o7 (λ_ _ h=>h) e KQ λb' k hp=>?_)⟩
           have h1:=bu (cx Fi i G) hj b' k
           have e1:cx Fi i G j=Fi j:=by simp[cx,hJ]
           rw[e1] at h1
           have h5:=jq b' k
           exact fz b' k (by omega) (by omega)
         ·cases k1
    ·cases h
  | arr n e=>
   cases s with
   | fst=>simp[kq] at h
   | snd=>simp[kq] at h
   | idx i=>simp[kq] at h
   | jI i=>
    obtain ⟨rfl,hf,hl,hlen,hr⟩:=hr
    simp only[kq,List.isEmpty_nil,if_true] at h
    cases hx:(v:List e.den)[i]? with
    | none=>rw[hx] at h;cases h
    | some x=>
     rw[hx] at h
     simp only[Option.bind_some] at h
     have hi:i < n:=hl ▸ (List.getElem?_eq_some_iff.1 hx).1
     have gB:∀ j,j < n->j*e.sz+e.sz<=cs.length:=λj hj=>by
      have:(j+1)*e.sz<=n*e.sz:=Nat.mul_le_mul_right _ hj
      rw[Nat.add_mul] at this;omega
     have fJ:∀ j,j < n->((cs.drop (j*e.sz)).take e.sz).length=e.sz:=λj hj=>by have:=gB j hj;simp;omega
     obtain ⟨t',m',H',v',aS,bl,F',G,kk,loc,M⟩:=ih e h (Ro.flat e (λ_ _=>0) hf (hr i x hx)) (λ_ _=>Nat.zero_le _) (ad:=cT ad (i*e.sz)) (λb' o hb j u hu=>by
      cases ad with
      | none=>cases hb
      | some y=>
       simp only[cT,Option.map_some,Option.some.injEq,Prod.mk.injEq] at hb
       obtain ⟨rfl,rfl⟩:=hb
       rw[List.getElem?_take] at hu
       split at hu
       ·rw[List.getElem?_drop] at hu
        have:=ey y.1 y.2 rfl _ u hu
        rwa [Nat.add_assoc]
       ·cases hu) (λ_ _ _ _ _=>rfl)
     have Gh:∀ b k,G b k=0:=λb k=>by have:=M.sum b k;omega
     have yo:∀ b k,F' b k=0:=λb k=>by have:=M.sum b k;omega
     have Hk:∀ h:loc=none,t'.sz=0:=λh=>by
      obtain ⟨b',o,e1,e2⟩:=M.out h
      rcases Nat.eq_zero_or_pos t'.sz with h0 | h0
      ·exact h0
      ·have:=(e2 0 h0).1;rw[Gh] at this;omega
     refine ⟨t',m',H',v',aS,bl,F',F,kk,loc.map (i*e.sz+·),M.run,λK0=>by simp only[gX,List.isEmpty_nil,if_true,hx,Option.bind_some];exact M.I3 K0,by simp only[aJ,List.isEmpty_nil,if_true,hi];exact M.place,M.rep,λb k=>by rw[yo];omega,M.has,?_,(λh=>by rw[M.Hj (by simpa [bD] using h)];rfl),?_,?_⟩
     ·intro Ov ho
      obtain ⟨off,Ow,rfl⟩:=Option.map_eq_some_iff.1 ho
      obtain ⟨q1,q2,q3⟩:=M.mG off Ow
      have:=gB i hi
      refine ⟨by simp only[Ty.sz];omega,?_,by rw[q3];cases ad <;> simp[cT,Nat.add_assoc]⟩
      rw[q2,List.drop_take,List.take_take,List.drop_drop]
      congr 1;omega
     ·intro ho
      obtain ⟨b',o,q1,q2⟩:=M.out (by simpa using ho)
      have:=Hk (by simpa using ho)
      exact ⟨b',o,q1,λj hj=>by omega⟩
     ·intro m2 H2 v2 hk w2 A2 bA BR hb hA lM hG vd nV jq
      obtain ⟨m3,H3,v3,F3,k1,k2,k3,k4⟩:=M.back m2 H2 v2 hk w2 A2 bA BR hb hA lM (λb' i hp hn=>by rw[Gh] at hp;omega) vd nV (λb' i=>by have:=jq b' i;rw[Gh];omega)
      have rq:=ah.length t' nV
      split at k1
      ·rename_i BT
       have BT:H3=[]:=List.isEmpty_iff.1 BT
       have mX:fd (loc.map (i*e.sz+·)) cs t'.sz bA=sh cs (i*e.sz) e.sz (fd loc ((cs.drop (i*e.sz)).take e.sz) t'.sz bA):=by
        cases loc with
        | none=>simp only[fd,Option.map_none];exact (si (gB i hi)).symm
        | some off=>
         have:=(M.mG off rfl).1
         exact (ND this (gB i hi) rq).symm
       have rr:(fd loc ((cs.drop (i*e.sz)).take e.sz) t'.sz bA).length=e.sz:=by
        cases loc with
        | none=>exact fJ i hi
        | some off=>have:=(M.mG off rfl).1;simp only[fd];rw[nH (by rw[fJ i hi];omega) rq,fJ i hi]
       have Hl:∀ j,j < n->((fd (loc.map (i*e.sz+·)) cs t'.sz bA).drop (j*e.sz)).take e.sz=if j=i then fd loc ((cs.drop (i*e.sz)).take e.sz) t'.sz bA else (cs.drop (j*e.sz)).take e.sz:=λj hj=>by
        rw[mX]
        apply List.ext_getElem?
        intro k
        rw[List.getElem?_take]
        split
        ·rename_i hk
         rw[List.getElem?_drop,uA (gB i hi) rr]
         by_cases hJ:j=i
         ·subst hJ
          rw[if_pos (by omega),if_pos rfl];congr 1;omega
         ·rw[if_neg hJ,List.getElem?_take,if_pos hk,List.getElem?_drop,if_neg]
          have dI:j < i\/i < j:=by omega
          rcases dI with vf | vf
          ·have:(j+1)*e.sz<=i*e.sz:=Nat.mul_le_mul_right _ vf
           rw[Nat.add_mul] at this;omega
          ·have:(i+1)*e.sz<=j*e.sz:=Nat.mul_le_mul_right _ vf
           rw[Nat.add_mul] at this;omega
        ·rename_i hk
         by_cases hJ:j=i
         ·rw[if_pos hJ,List.getElem?_eq_none (by omega)]
         ·rw[if_neg hJ,List.getElem?_eq_none (by rw[fJ j hj];omega)]
       have rB:∀ d full,kP d full w t' H' aS bl w2 H2 bA->full->fd (loc.map (i*e.sz+·)) cs t'.sz bA=cs:=λd full hd o9=>by
        obtain ⟨H5,c5,e1,e2⟩:=hd [] ⟨t',H',aS,bl⟩ (Nat.zero_le _) rfl
        simp only[aJ,Option.some.injEq,Pl.mk.injEq] at e1
        have e3:bA=aS:=e1.2.2.1.trans (e2 (.inr o9))
        cases loc with
        | none=>rfl
        | some off=>
         have:=M.mG off rfl
         have:=gB i hi
         rw[e3,(M.mG off rfl).2.1,List.drop_take,List.take_take,show min t'.sz (e.sz - off)=t'.sz by omega,List.drop_drop]
         exact si (show i*e.sz+off+t'.sz<=cs.length by omega)
       have Mh:(fd (loc.map (i*e.sz+·)) cs t'.sz bA).length=n*e.sz:=by rw[mX,nH (gB i hi) rr,hlen]
       refine ⟨_,_,_,λb' k=>F3 b' k+F b' k,k1,λb' k=>by have:=k2 b' k;have:=Gh b' k;show F3 b' k+F b' k<=_;omega,λA3 ku ez=>?_,λd full hd=>?_⟩
       ·refine ⟨rfl,hf,by simpa using hl,Mh,λj y hy=>?_⟩
        have hj:j < n:=by have:=(List.getElem?_eq_some_iff.1 hy).1;rw[List.length_set] at this;omega
        rw[Hl j hj]
        rw[List.getElem?_set] at hy
        split at hy
        ·rename_i ng
         subst ng
         have hy:some v3=some y:=by
          split at hy
          ·exact hy
          ·cases hy
         injection hy with hy
         rw[if_pos rfl,<- hy]
         exact ah.flat e hf (k3 A3 ku λb' k hp hz=>ez b' k (by have:=Gh b' k;omega) (by have:=jq b' k;have:=Gh b' k;show F3 b' k+F b' k=0;omega))
        ·rename_i ng
         rw[if_neg (λh=>ng h.symm)]
         exact Ro.mono lM (λb' k ha=>ku b' k (hA b' k ha)) e (hr j y hy)
       ·intro q pl hq hp
        cases q with
        | nil=>
         simp only[aJ,Option.some.injEq] at hp;subst hp
         refine ⟨_,_,rfl,λh=>?_⟩
         rcases h with ⟨_,hs⟩ | o9
         ·simp[o8] at hs
         ·exact rB d full hd o9
        | cons s q=>
         cases s with
         | fst=>simp[aJ] at hp
         | snd=>simp[aJ] at hp
         | idx j=>simp[aJ] at hp
         | jI j=>
          simp only[aJ,List.isEmpty_nil,if_true] at hp
          split at hp
          ·rename_i hj
           by_cases hJ:j=i
           ·subst hJ
            obtain ⟨H5,OA,e1,e2⟩:=k4 d full hd q pl (by simp only[bD] at hq;omega) hp
            refine ⟨H5,OA,?_,λlN=>e2 (lN.imp (λh=>⟨by have:=h.1;simp only[bD] at this;omega,h.2⟩) id)⟩
            simp only[aJ,List.isEmpty_nil,if_true,hj]
            rw[Hl j hj,if_pos rfl]
            rw[BT] at e1
            exact e1
           ·refine ⟨pl.H,pl.cs,?_,λ_=>rfl⟩
            simp only[aJ,List.isEmpty_nil,if_true,hj]
            rw[Hl j hj,if_neg hJ]
            exact oM lM q e (Ro.flat e (m:=.leaf) (λ_ _=>0) hf (hr j _ (List.getElem?_eq_getElem (by rw[hl];exact hj)))) (λb k hp=>by simp at hp) hp
          ·cases hp
      ·cases k1
  | _=>cases s <;> simp[kq] at h
end
end OT
set_option linter.unusedVariables false
set_option linter.unusedSimpArgs false
namespace OT
open Go
def tmp (a:Act) (i:Nat):Value:=a.tmps.getD i undef
section
variable {P:Program} {w:World} {A:Cells}
theorem Ro.one:∀ (t:Ty) {v:t.den} {cs:List Value},Ro P w A t v cs->∀ x ∈ cs,x.oneCell'=true:=by
 intro t
 induction t with
 | pair a b fQ fI=>
  intro v cs h x hx
  rw[<-List.take_append_drop a.sz cs] at hx
  rcases List.mem_append.1 hx with hx | hx
  ·exact fQ h.1 x hx
  ·exact fI h.2 x hx
 | arr n e ih=>
  intro v cs h x hx
  obtain ⟨hf,hl,hlen,hr⟩:=h
  obtain ⟨k,hk,rfl⟩:=List.mem_iff_getElem.1 hx
  rw[hlen] at hk
  have gn:0 < e.sz:=by
   grind
  have hi:k / e.sz < n:=(Nat.div_lt_iff_lt_mul gn).2 hk
  refine ih (hr (k / e.sz) _ (List.getElem?_eq_getElem (by grind))) _ ?_
  rw[List.mem_iff_getElem?]
  refine ⟨k % e.sz,?_⟩
  grind [Nat.mod_lt,Nat.div_add_mod]
 | ae e ih=>rintro v cs ⟨a,cap,rfl,_⟩ x hx;simp at hx;subst hx;rfl
 | ptr e ih=>rintro v cs ⟨a,rfl,_⟩ x hx;simp at hx;subst hx;rfl
 | fn=>rintro v cs ⟨a,rfl,_⟩ x hx;simp at hx;subst hx;rfl
 | map k v=>rintro v cs ⟨_,_,r,mD,rfl,_⟩ x hx;simp at hx;subst hx;rfl
 | unit=>grind [Ro]
 | _=>intro v cs h x hx;simp only[Ro] at h;subst h;simp at hx;subst hx;rfl
theorem ah.one:∀ (t:Ty) {m:Md} {H:List Path} {v:t.den} {cs:List Value} {F:FP},ah P w A t m H v cs F->∀ x ∈ cs,x.oneCell'=true:=by
 intro t
 induction t with
 | pair a b fQ fI=>
  intro m H v cs F h x hx
  obtain ⟨_,F1,F2,_,h1,U⟩:=h
  grind [List.take_append_drop]
 | ae e ih=>
  intro m H v cs F h x hx
  simp only[ah] at h
  split at h
  ·grind
  ·split at h
   ·obtain ⟨a,cap,rfl,_⟩:=h;simp at hx;subst hx;rfl
   grind [Ro.one]
 | ptr e ih=>
  intro m H v cs F h x hx
  simp only[ah] at h
  split at h
  ·grind
  ·split at h
   ·obtain ⟨a,rfl,_⟩:=h;simp at hx;subst hx;rfl
   grind [Ro.one]
 | arr n e ih=>intro m H v cs F h;exact Ro.one _ h.2
 | map k v=>
  intro m H v cs F h x hx
  simp only[ah] at h
  split at h
  ·grind
  ·split at h
   ·obtain ⟨_,_,r,mD,rfl,_⟩:=h;simp at hx;subst hx;rfl
   grind [Ro.one]
 | _=>intro m H v cs F h;exact Ro.one _ h
end
theorem eH {t:Ty} {cs:List Value} (hl:cs.length=t.sz) (h1:∀ x ∈ cs,x.oneCell'=true):(bq t cs).cells.toList=cs:=by
 unfold bq
 split
 ·simp[Value.cells]
 ·rename_i h
  have:t.sz=1:=by cases t <;> simp_all [isAgg,Ty.sz]
  match cs,hl with
  | [x],_=>
   have:=h1 x (by simp)
   cases x <;> simp_all [Value.cells,Value.oneCell']
  | [],hl=>grind
  | _::_::_,hl=>grind
def Below (snap v:List Nat):Prop:=∀ (j x:Nat),snap[j]?=some x->∃ y,v[j]?=some y/\x<=y
theorem yP:∀ (s v:List Nat),preB s v=true↔∀ (j x:Nat),s[j]?=some x->v[j]?=some x
 | [],v=>by simp[preB]
 | a::s,[]=>by
  simp only[preB,Bool.false_eq_true,false_iff]
  intro h
  have:=h 0 a rfl
  cases this
 | a::s,b::v=>by
  simp only[preB,Bool.and_eq_true,Nat.beq_eq,yP s v]
  constructor
  ·grind
  ·intro h
   refine ⟨by have:=h 0 a rfl;simpa using this.symm,λj x hj=>h (j+1) x hj⟩
theorem xT {s v v':List Nat} (hs:Below s v) (hv:Below v v') (h:preB s v'=true):preB s v=true/\∀ (j:Nat),j < s.length->v[j]?=v'[j]?:=by
 have key:∀ (j x:Nat),s[j]?=some x->v[j]?=some x/\v'[j]?=some x:=λj x hj=>by
  obtain ⟨y,hy,mI⟩:=hs j x hj
  obtain ⟨z,hz,T6⟩:=hv j y hy
  grind [yP]
 grind [yP]
theorem Below.trans {s v v':List Nat} (h1:Below s v) (U:Below v v'):Below s v':=λj x hj=>by
 obtain ⟨y,hy,mI⟩:=h1 j x hj
 obtain ⟨z,hz,T6⟩:=U j y hy
 grind
theorem Below.refl (s:List Nat):Below s s:=λj x hj=>⟨x,hj,Nat.le_refl _⟩
def bC (w:World) (tv:Value):Slot->Option Pl
 | .own t _ H _=>some ⟨t,H,tv.cells.toList,none⟩
 | .box t _ H _=>match tv with
  | .pointer (some a)=>some ⟨t,H,rd w a.block a.off t.sz,some (a.block,a.off)⟩
  | _=>none
 | _=>none
def place (σ:St) (a:Act) (w:World) (r:Nat) (p:Path):Option Pl:=
 (bC w (tmp a r) (σ.get r)).bind λR=>aJ w p R.t R.H R.cs R.ad
def kw (σ:St) (a:Act) (w:World) (tv:Value) (r:Nat) (p:Path) (snap:List Nat):Prop:=
 Below snap (σ.eR r)/\(σ.ok r snap=true->∃ pl,place σ a w r p=some pl/\tv=bq pl.t pl.cs/\((o8 pl.t=true/\snap.length=min 5 (2+bD p))\/snap.length=5))
def uB (σ:St) (a:Act) (w:World) (tv:Value) (r:Nat) (p:Path) (snap:List Nat):Prop:=
 Below snap (σ.eR r)/\(σ.ok r snap=true->∃ pl b o,place σ a w r p=some pl/\pl.ad=some (b,o)/\tv=.pointer (some ⟨b,o,none⟩)/\snap.length=min 5 (1+bD p))
def wI (σ:St) (a:Act) (w:World) (tv:Value) (r:Nat) (p:Path) (snap:List Nat) (lo hi:Nat):Prop:=
 Below snap (σ.eR r)/\(σ.ok r snap=true->∃ pl e x n cap x' cap',place σ a w r p=some pl/\pl.t=.ae e/\pl.cs=[.slice x n cap]/\lo<=hi/\hi<=n/\tv=.slice x' (hi - lo) cap'/\cap'+lo=cap/\(lo=0->x'=x) /\
  (x=none->x'=none)/\(∀ ad,x=some ad->∃ bl,x'=some bl/\bl.spot=ad.spot/\bl.block=ad.block/\(lo < hi->bl.off=ad.off+lo*e.sz))/\(snap.length=min 5 (2+bD p)\/snap.length=5))
section
variable (P:Program) (A:Cells)
def OC (w:World) (x:zs) (tv:Value) (F:FP):Prop:=x.t=.unit\/∃ cs,tv=bq x.t cs/\ah P w A x.t x.m [] x.v cs F
def bj (σ:St) (a:Act) (w:World) (tv:Value):Slot->FP->Prop
 | .dead,_=>True
 | .oU,_=>tv=.slice none 0 0
 | .val t v,_=>∃ cs,tv=bq t cs/\Ro P w A t v cs
 | .cp t v,_=>Ro P w A (.ptr t) v [tv]
 | .own t m H v,F=>∃ cs,tv=bq t cs/\ah P w A t m H v cs F
 | .box t m H v,F=>∃ b o L F1,tv=.pointer (some ⟨b,o,none⟩)/\L.length=t.sz/\Has w b o L/\(∀ j,j < t.sz->w.frozen? ⟨b,o+j,none⟩=false) /\
   (∀ x i,bP b o t.sz x i+F1 x i<=F x i)/\ah P w A t m H v L F1
 | .ref r p snap,_=>kw σ a w tv r p snap
 | .ptr r p snap,_=>uB σ a w tv r p snap
 | .sub r p snap lo hi,_=>wI σ a w tv r p snap lo hi
 | .kM xs,F=>∃ (vs:Array Value) (Fi:Nat->FP),tv=.tuple vs/\(∀ b i,aA xs.length Fi b i<=F b i)/\∀ j x,xs[j]?=some x->∃ v,vs[j]?=some v/\OC P A w x v (Fi j)
end
structure Ext (w w':World) (F:FP):Prop where
 size:w.heap.size<=w'.heap.size
 cell:∀ b i,b < w.heap.size->F b i=0->∀ u,ce w b i=some u->ce w' b i=some u
 pZ:∀ b n,dg w b n->dg w' b n
 qZ:∀ b i,b < w.heap.size->w'.frozen? ⟨b,i,none⟩=w.frozen? ⟨b,i,none⟩
 os:w'.os=w.os
 tape:w'.tape=w.tape
 output:w'.output=w.output
 obj:∀ b,b < w.heap.size->(∀ i,F b i=0)->w'.heap[b]?=w.heap[b]?
 drawn:w.drawn<=w'.drawn
def I7 (P:Program):Bool:=(P.globalNamed "internal/strconv.uint64pow10").isSome||(P.globalNamed "internal/bytealg.MaxLen").isSome
def ox (P:Program) (w:World) (F0:FP):Prop:=I7 P=true->(∃ w0:World,(w0.ShapedOpen P/\((P.globalNamed "internal/strconv.uint64pow10").isSome=true->Go.Lib.TabIs P w0 "internal/strconv.uint64pow10" .u64 Go.Lib.pow10Tab))/\∀ b,b < P.globals.size->w.heap[b]?=w0.heap[b]?) /\
 P.globals.size<=w.heap.size/\∀ b i,b < P.globals.size->F0 b i=0
theorem Qz {P:Program} {w:World} {F0:FP} (h:I7 P=false):ox P w F0:=λe=>by grind
theorem ox.ext {P:Program} {w w':World} {F0 G:FP} (h:ox P w F0) (he:Ext w w' F0) (hG:∀ b i,1<=G b i->1<=F0 b i\/w.heap.size<=b):ox P w' G:=λe=>by
 obtain ⟨⟨w0,g,hw⟩,hs,hf⟩:=h e
 refine ⟨⟨w0,g,λb hb=>?_⟩,Nat.le_trans hs he.size,λb i hb=>?_⟩
 ·rw[he.obj b (by omega) (λi=>hf b i hb)];exact hw b hb
 grind
structure Ctx where
 w0:World
 A0:Cells
 F0:FP
 args:Array Value
structure Rel (P:Program) (C:Ctx) (A:Cells) (X:FP) (σ:St) (a:Act) (w:World) (F:Nat->FP):Prop where
 size:a.tmps.size=σ.n
 defers:a.defers=[]
 cY:∀ i,i < σ.n->bj P A σ a w (tmp a i) (σ.get i) (F i)
 gh:∀ d r p snap,(d,r,p,snap) ∈ σ.gh->kw σ a w (tmp a d) r p snap
 iQ:∀ b i,X b i+aA σ.n F b i<=1
 jr:∀ b i,1<=X b i+aA σ.n F b i->¬ A b i
 eI:∀ b i,1<=X b i+aA σ.n F b i\/A b i->b < w.heap.size
 fG:∀ i,(σ.eR i).length=5
 ext:Ext C.w0 w C.F0
 own:∀ b i,1<=X b i+aA σ.n F b i->1<=C.F0 b i\/C.w0.heap.size<=b
 a0:∀ b i,C.A0 b i->A b i
 J:∀ b i,A b i->C.A0 b i\/1<=C.F0 b i\/C.w0.heap.size<=b
 il:∀ j k,(j,k,false) ∈ σ.aF->tmp a j=C.args.getD k undef
 whole:∀ r t m H v,σ.get r=.box t m H v->(∀ k,(r,k,false) ∉ σ.aF)->∃ b,tmp a r=.pointer (some ⟨b,0,none⟩)/\dg w b (t.sz,false)
 gC:∀ j k,(j,k,true) ∈ σ.aF->∀ R,bC w (tmp a j) (σ.get j)=some R->bq R.t R.cs=C.args.getD k undef
 o_:ox P C.w0 C.F0
theorem Rel.vg {P:Program} {C:Ctx} {A:Cells} {X:FP} {σ:St} {a:Act} {w:World} {F:Nat->FP} (h:Rel P C A X σ a w F) {G:FP} (hG:∀ b i,1<=G b i->1<=X b i+aA σ.n F b i):ox P w G:=
 h.o_.ext h.ext λb i hp=>h.own b i (hG b i hp)
def qb (σ:St) (a:Act) (w:World) (σ':St) (a':Act) (w':World):Prop:=
 ∀ r p snap,Below snap (σ.eR r)->Below snap (σ'.eR r)/\(σ'.ok r snap=true->σ.ok r snap=true /\
  (snap.length=min 5 (1+bD p)\/snap.length=min 5 (2+bD p)\/snap.length=5->∀ pl,place σ a w r p=some pl->∃ H' aS,place σ' a' w' r p=some ⟨pl.t,H',aS,pl.ad⟩ /\
   ((o8 pl.t=true/\snap.length=min 5 (2+bD p))\/snap.length=5->aS=pl.cs)))
section
variable {P:Program} {A A':Cells} {σ σ':St} {a a':Act} {w w':World} {tv:Value} {F:FP}
theorem kw.ge (hp:qb σ a w σ' a' w') {r:Nat} {p:Path} {snap:List Nat} (h:kw σ a w tv r p snap):kw σ' a' w' tv r p snap:=by
 obtain ⟨h1,U⟩:=h
 obtain ⟨h3,h4⟩:=hp r p snap h1
 refine ⟨h3,λao=>?_⟩
 grind
theorem uB.ge (hp:qb σ a w σ' a' w') {r:Nat} {p:Path} {snap:List Nat} (h:uB σ a w tv r p snap):uB σ' a' w' tv r p snap:=by
 obtain ⟨h1,U⟩:=h
 obtain ⟨h3,h4⟩:=hp r p snap h1
 refine ⟨h3,λao=>?_⟩
 grind
theorem wI.ge (hp:qb σ a w σ' a' w') {r:Nat} {p:Path} {snap:List Nat} {lo hi:Nat} (h:wI σ a w tv r p snap lo hi):wI σ' a' w' tv r p snap lo hi:=by
 obtain ⟨h1,U⟩:=h
 obtain ⟨h3,h4⟩:=hp r p snap h1
 refine ⟨h3,λao=>?_⟩
 grind [o8]
theorem bj.ge (hp:qb σ a w σ' a' w') (hA:∀ b i,A b i->A' b i) (hc:∀ b i,A b i->∀ u,ce w b i=some u->ce w' b i=some u) (hb:∀ b n,dg w b n->dg w' b n)
  (hF:∀ b i,1<=F b i->(∀ u,ce w b i=some u->ce w' b i=some u)/\w'.frozen? ⟨b,i,none⟩=w.frozen? ⟨b,i,none⟩) {s:Slot} (h:bj P A σ a w tv s F):bj P A' σ' a' w' tv s F:=by
 cases s with
 | dead=>trivial
 | oU=>exact h
 | val t v=>obtain ⟨cs,h1,U⟩:=h;exact ⟨cs,h1,Ro.mono hc hA t U⟩
 | cp t v=>exact Ro.mono hc hA (.ptr t) h
 | own t m H v=>obtain ⟨cs,h1,U⟩:=h;exact ⟨cs,h1,ah.mono hA hc hb t U (λ_ _=>Nat.le_refl _) (λb i hp=>(hF b i hp).1)⟩
 | box t m H v=>
  obtain ⟨b,o,L,F1,h1,U,h3,h4,h5,h6⟩:=h
  have hr:∀ j,j < t.sz->1<=F b (o+j):=λj hj=>by
   grind [bP]
  exact ⟨b,o,L,F1,h1,U,λj u hu=>(hF _ _ (hr j (U ▸ (List.getElem?_eq_some_iff.1 hu).1))).1 u (h3 j u hu),λj hj=>by grind,h5,
   ah.mono hA hc hb t h6 (λ_ _=>Nat.le_refl _) (λb i hp=>(hF b i (by grind)).1)⟩
 | ref r p snap=>exact kw.ge hp h
 | ptr r p snap=>exact uB.ge hp h
 | sub r p snap lo hi=>exact wI.ge hp h
 | kM xs=>
  obtain ⟨vs,Fi,h1,U,h3⟩:=h
  refine ⟨vs,Fi,h1,U,λj x hx=>?_⟩
  obtain ⟨v,h4,h5⟩:=h3 j x hx
  refine ⟨v,h4,h5.imp id λ⟨cs,h6,h7⟩=>⟨cs,h6,ah.mono hA hc hb x.t h7 (λ_ _=>Nat.le_refl _) (λb i hp=>(hF b i ?_).1)⟩⟩
  grind [bu]
end
end OT
set_option linter.unusedVariables false
set_option linter.unusedSimpArgs false
namespace OT
open Go
theorem rC {α:Type} (k:Nat) (x:α) (l:List (Nat×α)) (i:Nat):gI ((k,x)::l) i=if k=i then some x else gI l i:=by
 simp_all [gI]
theorem qc (σ:St) (d:Nat) (s:Slot) (i:Nat):(σ.put d s).get i=if d=i/\i < σ.n then s else σ.get i:=by
 grind [St.get,St.put,rC,Nat.blt_eq]
theorem xU (σ:St) (d:Nat) (s:Slot) (i:Nat):(σ.eF d s).get i=if d=i/\i < σ.n then s else σ.get i:=by
 grind [St.get,St.eF,rC,Nat.blt_eq]
theorem rS (σ:St) (d:Nat) (s:Slot) (i:Nat):(σ.put d s).eR i=if d=i then lm (σ.eR d) else σ.eR i:=by
 grind [St.eR,St.put,rC]
theorem jL (σ:St) (d:Nat) (f:List Nat->List Nat) (i:Nat):(σ.gc d f).eR i=if d=i then f (σ.eR d) else σ.eR i:=by
 grind [St.eR,St.gc,rC]
theorem rD {l:List (Nat×Nat×Bool)} {d:Nat} {e:Nat×Nat×Bool} (h:e ∈ r_ l d):e ∈ l/\e.1≠d:=by
 induction l with
 | nil=>cases h
 | cons x l ih=>
  obtain ⟨k,b⟩:=x
  simp only[r_] at h
  split at h
  ·grind
  ·rename_i hk
   rcases List.mem_cons.1 h with rfl | h
   all_goals simp_all
theorem zF {l:List (Nat×Nat×Bool)} {d:Nat} {e:Nat×Nat×Bool} (h:e ∈ l) (hd:e.1≠d):e ∈ r_ l d:=by
 induction l with
 | nil=>cases h
 | cons x l ih=>
  obtain ⟨k,b⟩:=x
  simp only[r_]
  rcases List.mem_cons.1 h with rfl | h
  ·simp_all
  grind
theorem Hm {l:List (Nat×Nat×Bool)} {d j k:Nat} (h:(j,k,false) ∈ l):(j,k,false) ∈ sa l d:=by
 induction l <;> grind [sa]
theorem zG {l:List (Nat×Nat×Bool)} {d:Nat} {e:Nat×Nat×Bool} (h:e ∈ sa l d):e ∈ l/\¬ (e.1=d/\e.2.2=true):=by
 induction l with
 | nil=>cases h
 | cons x l ih=>
  obtain ⟨k,n,b⟩:=x
  simp only[sa] at h
  split at h
  ·grind
  ·rename_i hk
   rcases List.mem_cons.1 h with rfl | h
   all_goals simp_all
theorem Dy {l:List (Nat×Nat×Path×List Nat)} {d:Nat} {e:Nat×Nat×Path×List Nat} (h:e ∈ De l d):e ∈ l/\e.1≠d:=by
 induction l with
 | nil=>cases h
 | cons x l ih=>
  obtain ⟨k,b⟩:=x
  simp only[De] at h
  split at h
  ·grind
  ·rename_i hk
   rcases List.mem_cons.1 h with rfl | h
   all_goals simp_all
theorem lO (v:List Nat):Below v (lm v):=λj x hj=>⟨x+1,by simp[lm,hj],by omega⟩
theorem wJ {v:List Nat} (h:v.length=5):∃ b x y z w,v=[b,x,y,z,w]:=by
 match v,h with
 | [b,x,y,z,w],_=>grind
theorem I8 {b x y z w b' x' y' z' w':Nat} (h0:b<=b') (h1:x<=x') (U:y<=y') (h3:z<=z') (h4:w<=w'):Below [b,x,y,z,w] [b',x',y',z',w']:=by
 intro j n hj
 grind
theorem nj (d:Nat) {v:List Nat} (h:v.length=5):Below v (mC d v):=by
 obtain ⟨b,x,y,z,w,rfl⟩:=wJ h
 match d with
 | 0 | 1 | 2 | n+3=>exact I8 (by omega) (by omega) (by omega) (by omega) (by omega)
theorem qt {v:List Nat} (h:v.length=5):Below v (oV v):=by
 obtain ⟨b,x,y,z,w,rfl⟩:=wJ h
 exact I8 (by omega) (by omega) (by omega) (by omega) (by omega)
theorem wK {v:List Nat}:(lm v).length=v.length:=by simp[lm]
theorem vh (d:Nat) {v:List Nat} (h:v.length=5):(mC d v).length=5:=by
 obtain ⟨b,x,y,z,w,rfl⟩:=wJ h
 match d with
 | 0 | 1 | 2 | n+3=>rfl
theorem wL {v:List Nat} (h:v.length=5):(oV v).length=5:=by
 obtain ⟨b,x,y,z,w,rfl⟩:=wJ h
 rfl
theorem zH {s v v':List Nat} (hs:Below s v) (hv:Below v v') (h:preB s v'=true) {j:Nat} (hj:v[j]?≠v'[j]?):s.length<=j:=by
 rcases Nat.lt_or_ge j s.length with h' | h'
 ·exact absurd ((xT hs hv h).2 j h') hj
 ·exact h'
theorem yp {s v:List Nat} (hl:v.length=5) (hs:Below s v) (h:preB s (lm v)=true):s.length=0:=by
 obtain ⟨b,x,y,z,w,rfl⟩:=wJ hl
 have:=zH hs (lO _) h (j:=0) (by simp[lm])
 omega
theorem wM {s v:List Nat} (d:Nat) (hl:v.length=5) (hs:Below s v) (h:preB s (mC d v)=true):s.length<=min 4 (1+d):=by
 have h4:s.length<=4:=by
  refine zH hs (nj d hl) h ?_
  obtain ⟨b,x,y,z,w,rfl⟩:=wJ hl
  match d with
  | 0 | 1 | 2 | n+3=>simp[mC]
 have hd:s.length<=1+d:=by
  rcases Nat.lt_or_ge d 3 with hd | hd
  ·refine zH hs (nj d hl) h ?_
   obtain ⟨b,x,y,z,w,rfl⟩:=wJ hl
   match d,hd with
   | 0,_ | 1,_ | 2,_=>simp[mC]
  ·omega
 omega
theorem yQ {s v:List Nat} (hl:v.length=5) (hs:Below s v) (h:preB s (oV v)=true):s.length<=4:=by
 refine zH hs (qt hl) h ?_
 grind [wJ,oV]
section
variable {P:Program} {C:Ctx} {A A2:Cells} {X:FP} {σ:St} {a:Act} {w w2:World} {F:Nat->FP}
theorem hK (a:Act) (d:Nat) (v:Value) (i:Nat):tmp (a.put (some d) v) i=if d=i/\i < a.tmps.size then v else tmp a i:=by
 simp only[tmp,Act.put,Array.getD_eq_getD_getElem?,Array.getElem?_setIfInBounds]
 grind
theorem pa {tv:Value} {s:Slot} {G:FP} {R:Pl} (h:bj P A σ a w tv s G) (hR:bC w tv s=some R) :
  ∃ (m:Md) (v:R.t.den) (F1:FP),ah P w A R.t m R.H v R.cs F1/\(∀ b i,F1 b i<=G b i) /\
   (∀ b o,R.ad=some (b,o)->Has w b o R.cs/\(∀ x i,bP b o R.t.sz x i+F1 x i<=G x i)/\∀ j,j < R.t.sz->w.frozen? ⟨b,o+j,none⟩=false) /\
   ((∃ v',s=.own R.t m R.H v'/\HEq v v'/\R.ad=none)\/(∃ v',s=.box R.t m R.H v'/\HEq v v'/\R.ad.isSome=true)):=by
 cases s with
 | own t m H v=>
  simp only[bC,Option.some.injEq] at hR
  subst hR
  obtain ⟨cs,h1,U⟩:=h
  refine ⟨m,v,G,?_,λ_ _=>Nat.le_refl _,(λb o h=>by cases h),.inl ⟨v,rfl,HEq.rfl,rfl⟩⟩
  grind [eH,ah.length,ah.one]
 | box t m H v=>
  obtain ⟨b,o,L,F1,h1,U,h3,h4,h5,h6⟩:=h
  grind [bC,b9]
 | _=>simp[bC] at hR
theorem pc {tv:Value} {s:Slot} {G:FP} {R:Pl} (h:bj P A σ a w tv s G) (hc:∀ b i,1<=G b i->∀ u,ce w b i=some u->ce w2 b i=some u)
  (hR:bC w tv s=some R):bC w2 tv s=some R:=by
 cases s with
 | own t m H v=>exact hR
 | box t m H v=>
  obtain ⟨b,o,L,F1,h1,U,h3,h4,h5,h6⟩:=h
  subst h1
  simp only[bC,Option.some.injEq] at hR ⊢
  have:Has w2 b o L:=λj u hu=>hc _ _ (by
   grind [bP]) u (h3 j u hu)
  grind [b9]
 | _=>simp[bC] at hR
theorem n9 {σ':St} {a':Act} {r:Nat} {p:Path} {G:FP} {pl:Pl} (h:bj P A σ a w (tmp a r) (σ.get r) G) (hg:σ'.get r=σ.get r) (ht:tmp a' r=tmp a r)
  (hA:∀ b i,A b i->∀ u,ce w b i=some u->ce w2 b i=some u) (hc:∀ b i,1<=G b i->∀ u,ce w b i=some u->ce w2 b i=some u)
  (hp:place σ a w r p=some pl):place σ' a' w2 r p=some pl:=by
 unfold place at hp ⊢
 rw[hg,ht]
 cases hR:bC w (tmp a r) (σ.get r) <;> grind [pc,pa,oM]
theorem fL {σ:St} {i:Nat} (h:¬ i < σ.n):σ.get i=.dead:=by simp[St.get,h]
theorem l_ {r:Nat} {p:Path} {pl:Pl} (h:place σ a w r p=some pl):r < σ.n:=by
 grind [place,fL,bC]
theorem Rel.put (h:Rel P C A X σ a w F) {d:Nat} (hd:d < σ.n) {s:Slot} {v:Value} {Fd X':FP} (hs:bj P A σ a w v s Fd) (ht:∀ b i,X' b i+Fd b i<=X b i+F d b i)
  (Mi:∀ t m H v',s=.box t m H v'->∃ b,v=.pointer (some ⟨b,0,none⟩)/\dg w b (t.sz,false)) :
  Rel P C A X' (σ.put d s) (a.put (some d) v) w (cx F d Fd):=by
 have gn:=h.size
 have gJ:qb σ a w (σ.put d s) (a.put (some d) v) w:=by
  intro r p snap hb
  rw[rS,St.ok,rS]
  by_cases hr:d=r
  ·subst hr
   simp only[if_true]
   refine ⟨hb.trans (lO _),λao=>?_⟩
   have h0:=yp (h.fG d) hb ao
   exact ⟨(xT hb (lO _) ao).1,λhl=>by omega⟩
  ·simp only[if_neg hr]
   refine ⟨hb,λao=>⟨ao,λhl pl dh=>⟨pl.H,pl.cs,?_,λ_=>rfl⟩⟩⟩
   exact n9 (h.cY r (l_ dh)) (by grind [qc]) (by grind [hK]) (λ_ _ _ _ h=>h) (λ_ _ _ _ h=>h) dh
 have pe:∀ b i,X' b i+aA σ.n (cx F d Fd) b i<=X b i+aA σ.n F b i:=λb i=>by
  grind [l8]
 refine ⟨by simp[Act.put,gn,St.put],by simpa [Act.put] using h.defers,λi hi=>?_,?_,λb i=>Nat.le_trans (pe b i) (h.iQ b i),λb i hp=>h.jr b i (Nat.le_trans hp (pe b i)),
  λb i hp=>h.eI b i (hp.imp (λhp=>Nat.le_trans hp (pe b i)) id),λi=>?_,h.ext,λb i hp=>h.own b i (Nat.le_trans hp (pe b i)),h.a0,h.J,?_,?_,?_,h.o_⟩
 ·have hi:i < σ.n:=hi
  rw[qc,hK,gn]
  by_cases Mj:d=i
  ·subst Mj
   rw[if_pos ⟨rfl,hi⟩,if_pos ⟨rfl,hi⟩]
   simp only[cx,if_true]
   exact bj.ge gJ (λ_ _ h=>h) (λ_ _ _ _ h=>h) (λ_ _ h=>h) (λ_ _ _=>⟨λ_ h=>h,rfl⟩) hs
  ·rw[if_neg (λh=>Mj h.1),if_neg (λh=>Mj h.1)]
   simp only[cx,if_neg (λh:i=d=>Mj h.symm)]
   exact bj.ge gJ (λ_ _ h=>h) (λ_ _ _ _ h=>h) (λ_ _ h=>h) (λ_ _ _=>⟨λ_ h=>h,rfl⟩) (h.cY i hi)
 ·intro d' r p snap hm
  obtain ⟨hm,dI⟩:=Dy hm
  rw[hK,if_neg (λh=>dI h.1.symm)]
  exact kw.ge gJ (h.gh d' r p snap hm)
 ·rw[rS]
  split
  ·rw[wK];exact h.fG d
  ·exact h.fG i
 ·intro j k hm
  obtain ⟨hm,dI⟩:=rD hm
  rw[hK,if_neg (λh=>dI h.1.symm)]
  exact h.il j k hm
 ·intro r t m H v' hg hl
  rw[qc] at hg
  rw[hK,gn]
  by_cases zD:d=r/\r < σ.n
  ·grind
  ·rw[if_neg zD] at hg ⊢
   refine h.whole r t m H v' hg λk hm=>hl k (zF hm λe=>zD ⟨e.symm,?_⟩)
   grind
 ·intro j k hm R hR
  obtain ⟨hm,dI⟩:=rD hm
  rw[hK,if_neg (λh=>dI h.1.symm),qc,if_neg (λh=>dI h.1.symm)] at hR
  exact h.gC j k hm R hR
theorem Rel.less (h:Rel P C A X σ a w F) {X':FP} (ht:∀ b i,X' b i<=X b i):Rel P C A X' σ a w F:=
 { h with
  iQ:=λb i=>by have:=h.iQ b i;grind
  jr:=λb i hp=>h.jr b i (by grind)
  eI:=λb i hp=>h.eI b i (hp.imp (λhp=>by grind) id)
  own:=λb i hp=>h.own b i (by grind) }
theorem Ext.refl (w:World) (F:FP):Ext w w F:=⟨Nat.le_refl _,λ_ _ _ _ _ h=>h,λ_ _ h=>h,λ_ _ _=>rfl,rfl,rfl,rfl,λ_ _ _=>rfl,Nat.le_refl _⟩
theorem Ext.mono {F F':FP} (h:Ext w w2 F) (hF:∀ b i,F' b i=0->F b i=0):Ext w w2 F':={ h with cell:=λb i hb hz=>h.cell b i hb (hF b i hz),obj:=λb hb hz=>h.obj b hb λi=>hF b i (hz i) }
theorem Ext.trans {w3:World} {F G:FP} (h:Ext w w2 F) (U:Ext w2 w3 G) (hG:∀ b i,b < w.heap.size->F b i=0->G b i=0):Ext w w3 F:=
 ⟨Nat.le_trans h.size U.size,λb i hb hz u hu=>U.cell b i (Nat.lt_of_lt_of_le hb h.size) (hG b i hb hz) u (h.cell b i hb hz u hu),λb n hn=>U.pZ b n (h.pZ b n hn),
  λb i hb=>(U.qZ b i (Nat.lt_of_lt_of_le hb h.size)).trans (h.qZ b i hb),U.os.trans h.os,U.tape.trans h.tape,U.output.trans h.output,
  λb hb hz=>(U.obj b (Nat.lt_of_lt_of_le hb h.size) λi=>hG b i hb (hz i)).trans (h.obj b hb hz),Nat.le_trans h.drawn U.drawn⟩
theorem Rel.jt (h:Rel P C A X σ a w F) {r:Nat} (hr:r < σ.n) {σ':St} (hn:σ'.n=σ.n) (pg:∀ i,i≠r->σ'.get i=σ.get i) (OD:∀ i,i≠r->σ'.eR i=σ.eR i)
  (RF:Below (σ.eR r) (σ'.eR r)) (Gj:(σ'.eR r).length=5) (vj:∀ e,e ∈ σ'.aF->e ∈ σ.aF) (OE:∀ j k,(j,k,false) ∈ σ.aF->(j,k,false) ∈ σ'.aF) (Mk:∀ e,e ∈ σ'.gh->e ∈ σ.gh)
  {X2 I9:FP} {R:Pl} {H2:List Path} {bA:List Value} (hs:bj P A2 σ' a w2 (tmp a r) (σ'.get r) I9) (hR:bC w (tmp a r) (σ.get r)=some R)
  (RG:bC w2 (tmp a r) (σ'.get r)=some ⟨R.t,H2,bA,R.ad⟩)
  (bk:∀ (p:Path) (snap:List Nat),Below snap (σ.eR r)->σ'.ok r snap=true->(snap.length=min 5 (1+bD p)\/snap.length=min 5 (2+bD p)\/snap.length=5) ->
   ∃ D full,bD p<=D/\(snap.length=min 5 (2+bD p)->bD p < D\/full)/\(snap.length=5->full)/\kP D full w R.t R.H R.cs R.ad w2 H2 bA)
  (hA:∀ b i,A b i->A2 b i) (wN:∀ b i,A2 b i->A b i\/(1<=X b i+F r b i/\X2 b i+I9 b i=0))
  (hx:∀ b i,X2 b i+I9 b i<=X b i+F r b i) (hw:Ext w w2 λb i=>X b i+F r b i) (OF:∀ t m H v,σ'.get r=.box t m H v->∃ m0 H0 v0,σ.get r=.box t m0 H0 v0) (sk:∀ k,(r,k,true) ∈ σ'.aF->bA=R.cs) :
  Rel P C A2 X2 σ' a w2 (cx F r I9):=by
 have hle:∀ b i,X b i+F r b i<=X b i+aA σ.n F b i:=λb i=>by grind [bu]
 have lM:∀ b i,A b i->∀ u,ce w b i=some u->ce w2 b i=some u:=λb i ha u hu=>by
  refine hw.cell b i (h.eI b i (.inr ha)) ?_ u hu
  rcases Nat.eq_zero_or_pos (X b i+F r b i) with h0 | h0
  ·exact h0
  ·exact absurd ha (h.jr b i (Nat.le_trans h0 (hle b i)))
 have wO:∀ j,j < σ.n->j≠r->∀ b i,1<=F j b i->(∀ u,ce w b i=some u->ce w2 b i=some u)/\w2.frozen? ⟨b,i,none⟩=w.frozen? ⟨b,i,none⟩:=λj hj I_ b i hp=>by
  have h1:=l9 F hj hr I_ b i
  have U:=h.iQ b i
  have hb:=h.eI b i (.inl (by grind))
  exact ⟨λu hu=>hw.cell b i hb (by grind) u hu,hw.qZ b i hb⟩
 have gJ:qb σ a w σ' a w2:=by
  intro r' p snap hb
  by_cases Ml:r'=r
  ·subst Ml
   refine ⟨hb.trans RF,λao=>?_⟩
   refine ⟨(xT hb RF ao).1,λhl pl dh=>?_⟩
   obtain ⟨D,full,h1,U,h3,h4⟩:=bk p snap hb ao hl
   unfold place at dh ⊢
   rw[hR] at dh
   rw[RG]
   obtain ⟨H',aS,h5,h6⟩:=h4 p pl h1 dh
   grind
  ·rw[St.ok,OD r' Ml]
   refine ⟨hb,λao=>⟨ao,λhl pl dh=>⟨pl.H,pl.cs,?_,λ_=>rfl⟩⟩⟩
   have av:=l_ dh
   exact n9 (h.cY r' av) (pg r' Ml) rfl lM (λb i hp=>(wO r' av Ml b i hp).1) dh
 have pe:∀ b i,X2 b i+aA σ.n (cx F r I9) b i<=X b i+aA σ.n F b i:=λb i=>by
  grind [l8]
 refine ⟨by rw[hn];exact h.size,h.defers,λi hi=>?_,λd r' p snap hm=>kw.ge gJ (h.gh d r' p snap (Mk _ hm)),λb i=>by rw[hn];exact Nat.le_trans (pe b i) (h.iQ b i),λb i hp ha=>?_,
  λb i hp=>?_,λi=>?_,h.ext.trans hw λb i hb hz=>?_,λb i hp=>by rw[hn] at hp;exact h.own b i (Nat.le_trans hp (pe b i)),λb i ha=>hA b i (h.a0 b i ha),λb i ha=>?_,
  λj k hm=>h.il j k (vj _ hm),λr' t m H v hg hl=>?_,λj k hm R' iR=>?_,h.o_⟩
 ·rw[hn] at hi
  by_cases Gk:i=r
  ·grind [cx]
  ·simp only[cx,if_neg Gk]
   rw[pg i Gk]
   exact bj.ge gJ hA lM hw.pZ (wO i hi Gk) (h.cY i hi)
 ·rw[hn] at hp
  rcases wN b i ha with ha | ⟨h1,U⟩
  ·exact h.jr b i (Nat.le_trans hp (pe b i)) ha
  ·have h3:=h.iQ b i
   grind [l8]
 ·rw[hn] at hp
  refine Nat.lt_of_lt_of_le (h.eI b i ?_) hw.size
  grind
 ·by_cases Gk:i=r
  ·grind
  ·rw[OD i Gk];exact h.fG i
 ·rcases Nat.eq_zero_or_pos (X b i+F r b i) with h0 | h0
  ·exact h0
  ·have:=h.own b i (Nat.le_trans h0 (hle b i));omega
 ·rcases wN b i ha with ha | ⟨h1,_⟩
  ·exact h.J b i ha
  ·exact .inr (h.own b i (Nat.le_trans h1 (hle b i)))
 ·have:∃ m0 H0 v0,σ.get r'=.box t m0 H0 v0:=by
   grind
  obtain ⟨m0,H0,v0,OG⟩:=this
  obtain ⟨b,h1,U⟩:=h.whole r' t m0 H0 v0 OG λk hm=>hl k (OE _ _ hm)
  exact ⟨b,h1,hw.pZ _ _ U⟩
 ·by_cases I_:j=r
  ·subst I_
   rw[RG] at iR
   injection iR with iR
   subst iR
   show bq R.t bA=_
   rw[sk k hm]
   exact h.gC j k (vj _ hm) R hR
  ·rcases Nat.lt_or_ge j σ.n with hj | hj
   ·rw[pg j I_] at iR
    have fJ:=h.cY j hj
    cases ru:bC w (tmp a j) (σ.get j) with
    | none=>exfalso;cases hg:σ.get j <;> rw[hg] at ru iR <;> simp only[bC] at ru iR <;> first | grind | grind | grind
    | some R0=>
     rw[pc fJ (λb i hp=>(wO j hj I_ b i hp).1) ru] at iR
     injection iR with iR
     subst iR
     exact h.gC j k (vj _ hm) _ ru
   ·rw[fL (by rw[hn];omega)] at iR;cases iR
end
end OT
set_option linter.unusedVariables false
set_option linter.unusedSimpArgs false
namespace OT
open Go
def eV (ad:Option (Nat×Nat)) (n:Nat):FP:=λb i=>match ad with
 | some (b',o)=>bP b' o n b i
 | none=>0
section
variable {P:Program} {C:Ctx} {A:Cells} {X:FP} {σ:St} {a:Act} {w:World} {F:Nat->FP} {R:Type} {x:R}
theorem zI {r:Nat} {K:(t:Ty)->Md->List Path->t.den->Option R} (h:oW σ r K=some x) :
  r < σ.n/\∃ t m H v,(σ.get r=.own t m H v\/σ.get r=.box t m H v)/\K t m H v=some x:=by
 grind [oW,fL]
structure OH (P:Program) (A:Cells) (σ:St) (a:Act) (w:World) (r:Nat) (G:FP) (t:Ty) (m:Md) (H:List Path) (v:t.den) (cs:List Value) (ad:Option (Nat×Nat)) (F1:FP):Prop where
 root:bC w (tmp a r) (σ.get r)=some ⟨t,H,cs,ad⟩
 rep:ah P w A t m H v cs F1
 le:∀ b i,eV ad t.sz b i+F1 b i<=G b i
 has:∀ b o,ad=some (b,o)->Has w b o cs
 qZ:∀ b o,ad=some (b,o)->∀ j,j < t.sz->w.frozen? ⟨b,o+j,none⟩=false
 val:ad=none->tmp a r=bq t cs/\σ.get r=.own t m H v
 ptr:∀ b o,ad=some (b,o)->tmp a r=.pointer (some ⟨b,o,none⟩)/\σ.get r=.box t m H v
theorem bj.root {r:Nat} {G:FP} (h:bj P A σ a w (tmp a r) (σ.get r) G) {t:Ty} {m:Md} {H:List Path} {v:t.den} (hg:σ.get r=.own t m H v\/σ.get r=.box t m H v) :
  ∃ cs ad F1,OH P A σ a w r G t m H v cs ad F1:=by
 rcases hg with hg | hg
 ·rw[hg] at h
  obtain ⟨cs,h1,U⟩:=h
  refine ⟨cs,none,G,by grind [bC,eH,ah.length,ah.one],U,λb i=>by simp[eV],(λb o h=>by cases h),(λb o h=>by cases h),λ_=>⟨h1,hg⟩,(λb o h=>by cases h)⟩
 ·rw[hg] at h
  obtain ⟨b,o,L,F1,h1,U,h3,h4,h5,h6⟩:=h
  refine ⟨L,some (b,o),F1,by grind [bC,b9],h6,λb i=>h5 b i,?_,?_,(λh=>by cases h),?_⟩
  all_goals grind
theorem fk (h:Rel P C A X σ a w F) {r:Nat} {p:Path} {K:(t:Ty)->Md->List Path->t.den->Option R} (hk:i9 σ r p K=some x) :
  r < σ.n/\∃ (t':Ty) (m':Md) (H':List Path) (v':t'.den) (aS:List Value) (bl:Option (Nat×Nat)) (F':FP),K t' m' H' v'=some x/\(∀ {S:Type} (K0:(t:Ty)->Md->List Path->t.den->Option S),i9 σ r p K0=K0 t' m' H' v')/\place σ a w r p=some ⟨t',H',aS,bl⟩/\ah P w A t' m' H' v' aS F' /\
   (∀ b i,F' b i<=F r b i)/\(∀ b o,bl=some (b,o)->Has w b o aS):=by
 obtain ⟨hr,t,m,H,v,hg,hk⟩:=zI hk
 obtain ⟨cs,ad,F1,RO⟩:=(h.cY r hr).root hg
 obtain ⟨t',m',H',v',aS,bl,F',h1,hn,U,h3,h4,h5,_⟩:=Ot p t hk RO.rep (ad:=ad) RO.has
 refine ⟨hr,t',m',H',v',aS,bl,F',h1,λK0=>?_,?_,h3,λb i=>by have:=h4 b i;have:=RO.le b i;omega,h5⟩
 ·grind [i9,oW]
 unfold place
 rw[RO.root];exact U
theorem qu (r:Nat) (t:Ty) (m:Md) (H:List Path) (v:t.den) (i:Nat) (h:i≠r):(σ.en r t m H v).get i=σ.get i:=by
 grind [St.en,xU]
theorem ph {r:Nat} (hr:r < σ.n) {t t0:Ty} {m m0:Md} {H H0:List Path} {v0:t0.den} (v:t.den) (h:σ.get r=.own t0 m0 H0 v0):(σ.en r t m H v).get r=.own t m H v:=by
 grind [St.en,xU]
theorem pi {r:Nat} (hr:r < σ.n) {t t0:Ty} {m m0:Md} {H H0:List Path} {v0:t0.den} (v:t.den) (h:σ.get r=.box t0 m0 H0 v0):(σ.en r t m H v).get r=.box t m H v:=by
 grind [St.en,xU]
theorem nk (r:Nat) (t:Ty) (m:Md) (H:List Path) (v:t.den):(σ.en r t m H v).n=σ.n:=by unfold St.en;split <;> rfl
theorem jY (r:Nat) (t:Ty) (m:Md) (H:List Path) (v:t.den) (i:Nat):(σ.en r t m H v).eR i=σ.eR i:=by unfold St.en;split <;> rfl
theorem pj (r:Nat) (t:Ty) (m:Md) (H:List Path) (v:t.den):(σ.en r t m H v).aF=σ.aF:=by unfold St.en;split <;> rfl
theorem vk (r:Nat) (t:Ty) (m:Md) (H:List Path) (v:t.den):(σ.en r t m H v).gh=σ.gh:=by unfold St.en;split <;> rfl
def jM (σ σ':St):Prop:=∀ (w:World) (tv:Value) (i:Nat) (R:Pl),bC w tv (σ'.get i)=some R->∃ H,bC w tv (σ.get i)=some ⟨R.t,H,R.cs,R.ad⟩
theorem jM.refl (σ:St):jM σ σ:=λw tv i R h=>⟨R.H,h⟩
theorem jM.trans {σ σ' qd:St} (h:jM σ σ') (h':jM σ' qd):jM σ qd:=by
 intro w tv i R0 hR
 obtain ⟨H,h1⟩:=h' w tv i R0 hR
 exact h w tv i ⟨R0.t,H,R0.cs,R0.ad⟩ h1
theorem q9 {r:Nat} (hr:r < σ.n) {t:Ty} {m m0:Md} {H H0:List Path} {v0:t.den} (v:t.den) (h:σ.get r=.own t m0 H0 v0\/σ.get r=.box t m0 H0 v0) {σ':St} (hg:∀ i,σ'.get i=(σ.en r t m H v).get i):jM σ σ':=by
 intro w tv i R hR
 rw[hg] at hR
 by_cases hi:i=r
 ·subst hi
  rcases h with h | h
  ·grind [ph,bC]
  ·rw[pi hr v h] at hR
   rw[h]
   simp only[bC] at hR ⊢
   grind
 ·rw[qu r t m H v i hi] at hR
  exact ⟨R.H,hR⟩
structure KR (σ:St) (r:Nat) (s:Slot) (OI:Prop) (σ':St):Prop where
 n:σ'.n=σ.n
 get:∀ i,i≠r->σ'.get i=σ.get i
 root:σ'.get r=s
 eR:∀ i,i≠r->σ'.eR i=σ.eR i
 below:Below (σ.eR r) (σ'.eR r)
 fG:(σ'.eR r).length=5
 aF:∀ e,e ∈ σ'.aF->e ∈ σ.aF
 Mm:∀ j k,(j,k,false) ∈ σ.aF->(j,k,false) ∈ σ'.aF
 gh:∀ e,e ∈ σ'.gh->e ∈ σ.gh
 head:∀ k,(r,k,true) ∈ σ'.aF->OI
theorem Rel.q_ (h:Rel P C A X σ a w F) {r:Nat} {p:Path} {f:(t':Ty)->Md->List Path->t'.den->(Md->List Path->t'.den->Option R)->Option R}
  {Kf:(t:Ty)->Md->List Path->t.den->Option R} (hk:oW σ r (λt0 m0 H0 v0=>kq p t0 m0 H0 v0 f λm' H' v'=>Kf t0 m' H' v')=some x) :
  r < σ.n/\∃ (t':Ty) (m':Md) (H':List Path) (v':t'.den) (aS:List Value) (bl:Option (Nat×Nat)) (F':FP) (kk:Md->List Path->t'.den->Option R),
   f t' m' H' v' kk=some x/\(∀ {S:Type} (K0:(t:Ty)->Md->List Path->t.den->Option S),i9 σ r p K0=K0 t' m' H' v')/\place σ a w r p=some ⟨t',H',aS,bl⟩/\ah P w A t' m' H' v' aS F' /\
   (∀ b i,eV bl t'.sz b i+F' b i<=F r b i)/\(∀ b o,bl=some (b,o)->Has w b o aS)/\(∀ b o,bl=some (b,o)->∀ j,j < t'.sz->w.frozen? ⟨b,o+j,none⟩=false) /\
   ∀ m2 H2 (v2:t'.den),kk m2 H2 v2=some x->∀ (w2:World) (A2:Cells) (bA:List Value) (F2 X2:FP),
    Ext w w2 (λb i=>X b i+(F' b i+eV bl t'.sz b i))->(∀ b i,A b i->A2 b i)->(∀ b i,A2 b i->A b i\/(1<=X b i+F' b i/\X2 b i+F2 b i=0)) ->
    (∀ b i,X2 b i+F2 b i<=X b i+F' b i)->(∀ b o,bl=some (b,o)->Has w2 b o bA)->(bl=none->bA=aS)->ah P w2 A2 t' m2 H2 v2 bA F2 ->
    ∃ (t0:Ty) (m3:Md) (H3:List Path) (v3:t0.den) (Fr:FP) (A3:Cells),Kf t0 m3 H3 v3=some x/\(∃ (m0:Md) (H0:List Path) (v0:t0.den),σ.get r=.own t0 m0 H0 v0\/σ.get r=.box t0 m0 H0 v0)/\(∀ b i,A2 b i->A3 b i)/\(∀ b i,Fr b i<=F r b i+X b i) /\
     ∀ σ',KR σ r ((σ.en r t0 m3 H3 v3).get r) (1<=bD p\/bA=aS) σ' ->
      (∀ (p':Path) (snap:List Nat),Below snap (σ.eR r)->σ'.ok r snap=true->(snap.length=min 5 (1+bD p')\/snap.length=min 5 (2+bD p')\/snap.length=5) ->
       ∃ D full,bD p'<=D+bD p/\(snap.length=min 5 (2+bD p')->bD p' < D+bD p\/full)/\(snap.length=5->full)/\kP D full w t' H' aS bl w2 H2 bA) ->
      Rel P C A3 X2 σ' a w2 (cx F r Fr):=by
 obtain ⟨hr,t,m,H,v,hg,hk⟩:=zI hk
 obtain ⟨cs,ad,F1,RO⟩:=(h.cY r hr).root hg
 have yq:∀ b i,X b i+F r b i<=1:=λb i=>by have:=h.iQ b i;grind [bu]
 have va:∀ b o,ad=some (b,o)->∀ j,j < t.sz->F1 b (o+j)=0:=λb o e j hj=>by
  have h1:=RO.le b (o+j);grind [eV,bP]
 obtain ⟨t',m',H',v',aS,bl,F',G,kk,loc,M⟩:=Ou p t hk RO.rep (λb i=>by have:=yq b i;have:=RO.le b i;omega) RO.has va
 have hlen:=ah.length t RO.rep
 have Dz:∀ b i,eV bl t'.sz b i+F' b i<=F r b i/\(1<=eV bl t'.sz b i->1<=G b i\/1<=eV ad t.sz b i)/\eV bl t'.sz b i<=1:=λb i=>by
  have h1:=M.sum b i;have U:=RO.le b i;have h3:=yq b i
  cases ey:bl with
  | none=>grind [eV]
  | some bo=>
   obtain ⟨b0,o0⟩:=bo
   simp only[eV,bP]
   split
   ·rename_i gB
    obtain ⟨rfl,Wo,Wp⟩:=gB
    cases loc with
    | none=>
     obtain ⟨b',o',e1,e2⟩:=M.out rfl
     rw[ey] at e1
     simp only[Option.some.injEq,Prod.mk.injEq] at e1
     obtain ⟨rfl,rfl⟩:=e1
     have:=(e2 (i - o0) (by omega)).1
     grind
    | some off=>
     obtain ⟨e1,e2,e3⟩:=M.mG off rfl
     grind [cT,bP,eV]
   ·omega
 refine ⟨hr,t',m',H',v',aS,bl,F',kk,M.run,λK0=>?_,by unfold place;rw[RO.root];exact M.place,M.rep,λb i=>(Dz b i).1,M.has,λb o e j hj=>?_,?_⟩
 ·unfold i9 oW
  rcases hg with hg | hg <;> rw[hg] <;> exact M.I3 K0
 ·cases loc with
  | none=>
   obtain ⟨b',o',e1,e2⟩:=M.out rfl
   grind
  | some off=>
   obtain ⟨e1,e2,e3⟩:=M.mG off rfl
   cases sm:ad with
   | none=>rw[e,sm] at e3;cases e3
   | some y=>
    rw[e,sm] at e3
    simp only[cT,Option.map_some,Option.some.injEq,Prod.mk.injEq] at e3
    obtain ⟨rfl,rfl⟩:=e3
    have:=RO.qZ y.1 y.2 sm (off+j) (by omega)
    grind
 intro m2 H2 v2 Gl w2 A2 bA F2 X2 cr hA wN hX pk Hk xV
 have rq:=ah.length t' xV
 have lM:∀ b i,A b i->∀ u,ce w b i=some u->ce w2 b i=some u:=λb i ha u hu=>by
  refine cr.cell b i (h.eI b i (.inr ha)) ?_ u hu
  have h1:=(Dz b i).1
  have U:=bu F hr b i
  have h3:=h.jr b i
  grind
 have RH:∀ b i,1<=G b i\/1<=eV ad t.sz b i->(∀ o,bl=some (b,o)->¬ (o<=i/\i < o+t'.sz))->∀ u,ce w b i=some u->ce w2 b i=some u:=λb i hp hn u hu=>by
  have h1:=Dz b i;have U:=yq b i;have h3:=M.sum b i;have h4:=RO.le b i
  refine cr.cell b i (h.eI b i (.inl (by grind [bu]))) ?_ u hu
  show X b i+(F' b i+eV bl t'.sz b i)=0
  have h5:eV bl t'.sz b i=0:=by
   cases ey:bl <;> grind [eV,bP]
  omega
 have QA:∀ b i,F2 b i+G b i<=1:=λb i=>by
  have:=hX b i;have:=M.sum b i;have:=RO.le b i;grind
 obtain ⟨m3,H3,v3,F3,k1,k2,k3,k4⟩:=M.back m2 H2 v2 Gl w2 A2 bA F2 cr.pZ hA lM (λb i hp hn=>RH b i (.inl hp) hn) pk xV QA
 have OJ:(fd loc cs t'.sz bA).length=t.sz:=by
  cases loc with
  | none=>exact hlen
  | some off=>have:=(M.mG off rfl).1;grind [fd,nH]
 have rB:bA=aS->fd loc cs t'.sz bA=cs:=λe=>by
  cases loc with
  | none=>rfl
  | some off=>
   obtain ⟨e1,e2,_⟩:=M.mG off rfl
   rw[e,e2];exact si (by omega)
 have Hn:∀ b o,ad=some (b,o)->Has w2 b o (fd loc cs t'.sz bA):=λb o e=>by
  have cells:∀ j u,cs[j]?=some u->(∀ o',bl=some (b,o')->¬ (o'<=o+j/\o+j < o'+t'.sz))->ce w2 b (o+j)=some u:=λj u hu hn=>by
   have hj:j < t.sz:=hlen ▸ (List.getElem?_eq_some_iff.1 hu).1
   exact RH b (o+j) (.inr (by grind [eV,bP])) hn u (RO.has b o e j u hu)
  cases DA:loc with
  | none=>
   intro j u hu
   refine cells j u hu λo' he gB=>?_
   have hj:j < t.sz:=hlen ▸ (List.getElem?_eq_some_iff.1 hu).1
   obtain ⟨b',WL,e1,e2⟩:=M.out DA
   rw[he] at e1
   simp only[Option.some.injEq,Prod.mk.injEq] at e1
   obtain ⟨rfl,rfl⟩:=e1
   have h1:=(e2 (o+j - o') (by omega)).1
   rw[show o'+(o+j - o')=o+j by omega] at h1
   have U:=RO.le b (o+j);have h3:=yq b (o+j);have h4:=M.sum b (o+j)
   grind
  | some off=>
   obtain ⟨e1,e2,e3⟩:=M.mG off DA
   rw[e] at e3
   simp only[cT,Option.map_some] at e3
   exact Gf (by omega) rq (pk b (o+off) e3) (λj u hu hn=>cells j u hu λo' he gB=>by
    grind)
 refine ⟨t,m3,H3,v3,λb i=>eV ad t.sz b i+F3 b i,λb i=>A2 b i\/(1<=F2 b i+G b i/\F3 b i=0),k1,⟨m,H,v,hg⟩,λ_ _ h=>.inl h,λb i=>?_,λσ' on bk=>?_⟩
 ·have h1:=k2 b i;have U:=hX b i;have h3:=M.sum b i;have h4:=RO.le b i
  grind
 have Ho:=k3 (λb i=>A2 b i\/(1<=F2 b i+G b i/\F3 b i=0)) (λ_ _ h=>.inl h) (λb i h1 U=>.inr ⟨h1,U⟩)
 have CZ:bj P (λb i=>A2 b i\/(1<=F2 b i+G b i/\F3 b i=0)) σ' a w2 (tmp a r) (σ'.get r) (λb i=>eV ad t.sz b i+F3 b i)/\bC w2 (tmp a r) (σ'.get r)=some ⟨t,H3,fd loc cs t'.sz bA,ad⟩:=by
  rw[on.root]
  cases sm:ad with
  | none=>
   obtain ⟨e1,e2⟩:=RO.val sm
   have e3:fd loc cs t'.sz bA=cs:=by
    cases DA:loc with
    | none=>rfl
    | some off=>
     have:=(M.mG off DA).2.2
     rw[sm] at this
     rw[<-DA];exact rB (Hk this)
   rw[ph hr v3 e2]
   rw[e3] at Ho ⊢
   exact ⟨⟨cs,e1,ah.le Ho (λb i=>by grind)⟩,by grind [bC,eH,ah.one]⟩
  | some bo=>
   obtain ⟨b,o⟩:=bo
   obtain ⟨e1,e2⟩:=RO.ptr b o sm
   rw[pi hr v3 e2,e1]
   have hh:=Hn b o sm
   refine ⟨⟨b,o,_,F3,rfl,OJ,hh,λj hj=>?_,λb' i=>?_,Ho⟩,by grind [bC,b9]⟩
   ·have hb:b < w.heap.size:=h.eI b (o+j) (.inl (by
     have h1:=RO.le b (o+j);grind [bu,eV,bP]))
    rw[cr.qZ b (o+j) hb]
    exact RO.qZ b o sm j hj
   ·exact Nat.le_refl _
 refine h.jt hr on.n on.get on.eR on.below on.fG on.aF on.Mm on.gh CZ.1 RO.root CZ.2 (λp' snap h1 U h3=>?_) (λb i ha=>.inl (hA b i ha)) (λb i ha=>?_) (λb i=>?_) (cr.mono λb i hz=>?_) (λt5 m5 H5 v5 T7=>?_) (λk hm=>?_)
 ·grind
 ·have h1:=hX b i;have U:=k2 b i;have h3:=M.sum b i;have h4:=RO.le b i;grind
 ·have h1:=hX b i;have U:=k2 b i;have h3:=M.sum b i;have h4:=RO.le b i
  grind
 ·grind
 ·rw[on.root] at T7
  grind [ph,pi]
 ·rcases on.head k hm with hp | he
  ·rw[M.Hj hp];rfl
  grind
end
end OT
set_option linter.unusedVariables false
set_option linter.unusedSimpArgs false
namespace OT
open Go
theorem ah.Mn {P:Program} {w:World} {A:Cells}:∀ (t:Ty) {m:Md} {H:List Path} {v:t.den} {cs:List Value} {F:FP},ah P w A t m H v cs F->ah P w A t m (mK t) v cs (λ_ _=>0):=by
 intro t
 induction t with
 | pair a b fQ fI=>
  intro m H v cs F h
  obtain ⟨_,F1,F2,hs,h1,U⟩:=h
  refine ⟨by grind [mK,lr,kt],λ_ _=>0,λ_ _=>0,λ_ _=>Nat.le_refl _,?_,?_⟩
  all_goals grind [mK,mE,nh,ni,mF]
 | ae e ih=>
  intro m H v cs F h
  have h1:=ah.length _ h
  have U:=ah.one _ h
  match cs,h1 with
  | [y],_=>grind [ah,mK,hole]
 | ptr e ih=>
  intro m H v cs F h
  have h1:=ah.length _ h
  have U:=ah.one _ h
  match cs,h1 with
  | [y],_=>grind [ah,mK,hole]
 | arr n e ih=>intro m H v cs F h;rw[mK,h.2.1];obtain ⟨rfl,h⟩:=h;exact ⟨rfl,h⟩
 | map k v=>
  intro m H v cs F h
  have h1:=ah.length _ h
  have U:=ah.one _ h
  match cs,h1 with
  | [y],_=>grind [ah,mK,hole]
 | _=>intro m H v cs F h;exact h
section
variable {P:Program} {C:Ctx} {A:Cells} {X:FP} {σ:St} {a:Act} {w:World} {F:Nat->FP} {R:Type} {x:R}
structure At (σ:St) (r:Nat) (p:Path) (t:Ty) (m:Md) (H:List Path) (v:t.den):Prop where
 eq:∀ {S:Type} (K0:(t:Ty)->Md->List Path->t.den->Option S),i9 σ r p K0=K0 t m H v
theorem At.inj {r:Nat} {p:Path} {t t':Ty} {m m':Md} {H H':List Path} {v:t.den} {v':t'.den} (h:At σ r p t m H v) (h':At σ r p t' m' H' v'):t=t'/\m=m'/\H=H'/\HEq v v':=by
 have h1:=h.eq (λt m H v=>some (⟨t,m,H,v⟩:(t:Ty)×Md×List Path×t.den))
 rw[h'.eq] at h1
 grind
theorem zJ (σ:St) (r d:Nat):(σ.head r d).n=σ.n:=by unfold St.head;split <;> rfl
theorem sn (σ:St) (r d i:Nat):(σ.head r d).get i=σ.get i:=by unfold St.head;split <;> rfl
theorem so (σ:St) (r d i:Nat):(σ.head r d).eR i=σ.eR i:=by unfold St.head;split <;> rfl
theorem Gm (σ:St) (r d:Nat):(σ.head r d).gh=σ.gh:=by unfold St.head;split <;> rfl
theorem DB {r d:Nat} {f:List Nat->List Nat} (h1:Below (σ.eR r) (f (σ.eR r))) (U:(f (σ.eR r)).length=5) {t:Ty} {m:Md} {H:List Path} {v:t.den} {q:Prop} (hq:1<=d->q) :
  KR σ r ((σ.en r t m H v).get r) q (((σ.en r t m H v).gc r f).head r d) where
 n:=by rw[zJ];exact nk r t m H v
 get i hi:=by rw[sn];exact qu r t m H v i hi
 root:=by rw[sn];rfl
 eR i hi:=by grind [so,jL,jY]
 below:=by grind [so,jL,jY]
 fG:=by grind [so,jL,jY]
 aF e he:=by
  unfold St.head at he
  grind [zG,St.gc,pj]
 Mm j k hm:=by
  unfold St.head
  grind [Hm,St.gc,pj]
 gh e he:=by grind [Gm,St.gc,vk]
 head k hm:=by
  unfold St.head at hm
  split at hm
  ·exact absurd ⟨rfl,rfl⟩ (zG hm).2
  grind
theorem DC (h:Rel P C A X σ a w F) {r:Nat} {p:Path} {K:St->Option R} (hk:rA σ r p K=some x) {t':Ty} {m':Md} {H':List Path} {v':t'.den} (hn:At σ r p t' m' H' v') :
  ∃ (A':Cells) (σ':St) (F':Nat->FP) (cs:List Value) (ad:Option (Nat×Nat)) (Fv:FP),K σ'=some x/\(∀ b i,A b i->A' b i)/\Rel P C A' (λb i=>X b i+Fv b i) σ' a w F'/\σ'.n=σ.n/\jM σ σ' /\
   place σ a w r p=some ⟨t',H',cs,ad⟩/\ah P w A t' m' H' v' cs Fv/\∀ b i,Fv b i<=F r b i:=by
 obtain ⟨hr,t1,m1,H1,v1,cs,ad,Fv,kk,h1,U,h3,h4,h5,h6,h7,h8⟩:=h.q_ hk
 obtain ⟨e1,e2,e3,e4⟩:=hn.inj ⟨U⟩
 subst e1;subst e2;subst e3
 have e4:=eq_of_heq e4
 subst e4
 obtain ⟨t0,m3,H3,v3,Fr,A3,k1,⟨m0,H0,v0,k0⟩,k2,k3,k4⟩:=h8 _ _ _ h1 w A cs (λ_ _=>0) (λb i=>X b i+Fv b i) (Ext.refl _ _) (λ_ _ h=>h) (λ_ _ h=>.inl h) (λb i=>Nat.le_refl _) h6 (λ_=>rfl) (ah.Mn _ h4)
 refine ⟨A3,_,_,cs,ad,Fv,k1,k2,k4 _ (DB (nj _ (h.fG r)) (vh _ (h.fG r)) .inl) (λp' snap hb ao hl=>?_),?_,q9 hr v3 k0 (λi=>by rw[sn];rfl),h3,h4,λb i=>by grind⟩
 ·refine ⟨0,False,?_,?_,?_,kP.zero (A:=A) ad (ah.Mn _ h4)⟩
  all_goals
   unfold St.ok at ao
   rw[so,jL,if_pos rfl,jY] at ao
   have:=wM (bD p) (h.fG r) hb ao
  all_goals omega
 ·rw[zJ];exact nk _ _ _ _ _
theorem Bj (h:Rel P C A X σ a w F) {r:Nat} {p:Path} {K:St->Option R} (hk:rA σ r p K=some x) {t':Ty} {m':Md} {v':t'.den} (hn:At σ r p t' m' [] v') :
  ∃ (A':Cells) (σ':St) (F':Nat->FP) (cs:List Value) (ad:Option (Nat×Nat)) (Fv:FP),K σ'=some x/\(∀ b i,A b i->A' b i)/\Rel P C A' (λb i=>X b i+Fv b i) σ' a w F'/\σ'.n=σ.n/\jM σ σ' /\
   place σ a w r p=some ⟨t',[],cs,ad⟩/\ah P w A t' m' [] v' cs Fv:=
 have ⟨A',σ',F',cs,ad,Fv,h1,U,h3,h4,h5,h6,h7,_⟩:=DC h hk hn
 ⟨A',σ',F',cs,ad,Fv,h1,U,h3,h4,h5,h6,h7⟩
theorem BU {r:Nat} (hv:(σ.eR r).length=5) {t:Ty} {m:Md} {H:List Path} {v:t.den} {q:Prop} (hq:q):KR σ r ((σ.en r t m H v).get r) q (σ.en r t m H v):=
 ⟨nk _ _ _ _ _,λi hi=>qu _ _ _ _ _ i hi,rfl,λi _=>jY _ _ _ _ _ i,by rw[jY];exact Below.refl _,by grind [jY],
  λe he=>by grind [pj],λj k hm=>by grind [pj],λe he=>by grind [vk],λ_ _=>hq⟩
theorem Fs (h:Rel P C A X σ a w F) {r:Nat} {p:Path} {m2:Md} {K:St->Option R} (hk:oJ σ r p m2 K=some x) :
  ∃ (A':Cells) (σ':St) (F':Nat->FP),K σ'=some x/\(∀ b i,A b i->A' b i)/\Rel P C A' X σ' a w F'/\σ'.n=σ.n/\jM σ σ':=by
 obtain ⟨hr,t1,m1,H1,v1,cs,ad,Fv,kk,h1,U,h3,h4,h5,h6,h7,h8⟩:=h.q_ hk
 have yq:∀ b i,X b i+F r b i<=1:=λb i=>by have:=h.iQ b i;grind [bu]
 split at h1
 ·rename_i hc
  simp only[Bool.and_eq_true,List.isEmpty_iff] at hc
  obtain ⟨rfl,hc⟩:=hc
  obtain ⟨F1,RI,dw⟩:=ah.fits _ hc h4 (λb i=>by grind)
  have Mo:=dw (λb i=>A b i\/(1<=Fv b i/\F1 b i=0)) (λ_ _ h=>.inl h) (λb i h1 U=>.inr ⟨h1,U⟩)
  obtain ⟨t0,m3,H3,v3,Fr,A3,k1,⟨m0,H0,v0,k0⟩,k2,k3,k4⟩:=h8 _ _ _ h1 w (λb i=>A b i\/(1<=Fv b i/\F1 b i=0)) cs F1 X (Ext.refl _ _) (λ_ _ h=>.inl h)
   (λb i ha=>ha.imp id λ⟨h1,U⟩=>⟨by omega,by grind⟩) (λb i=>by grind) h6 (λ_=>rfl) Mo
  exact ⟨A3,_,_,k1,λb i ha=>k2 b i (.inl ha),k4 _ (BU (h.fG r) (.inr rfl)) (λp' snap hb ao hl=>⟨bD p'+1,True,by omega,λ_=>.inr trivial,λ_=>trivial,
   kP.same ad h4 (λ_ _ _ _ h=>h) (λ_ _ _ _ h=>h) _ True⟩),nk _ _ _ _ _,q9 hr v3 k0 (λi=>rfl)⟩
 ·cases h1
theorem qH (h:Rel P C A X σ a w F) {r:Nat} {p:Path} {K:St->Option R} (hk:p_ σ r p K=some x) :
  ∃ (A':Cells) (σ':St) (F':Nat->FP) (t':Ty) (m':Md) (v':t'.den) (cs:List Value) (ad:Option (Nat×Nat)),K σ'=some x/\(∀ b i,A b i->A' b i)/\Rel P C A' X σ' a w F'/\σ'.n=σ.n/\jM σ σ' /\
   At σ r p t' m' [] v'/\place σ a w r p=some ⟨t',[],cs,ad⟩/\Ro P w A' t' v' cs:=by
 obtain ⟨hr,t1,m1,H1,v1,cs,ad,Fv,kk,h1,U,h3,h4,h5,h6,h7,h8⟩:=h.q_ hk
 have yq:∀ b i,X b i+F r b i<=1:=λb i=>by have:=h.iQ b i;grind [bu]
 split at h1
 ·rename_i hc
  simp only[Bool.and_eq_true,List.isEmpty_iff] at hc
  obtain ⟨rfl,hc⟩:=hc
  have nl:Ro P w (λb i=>A b i\/1<=Fv b i) t1 v1 cs:=ah.o7 (λ_ _ h=>.inl h) t1 h4 (λb i hp=>.inr hp)
  obtain ⟨t0,m3,H3,v3,Fr,A3,k1,⟨m0,H0,v0,k0⟩,k2,k3,k4⟩:=h8 _ _ _ h1 w (λb i=>A b i\/1<=Fv b i) cs (λ_ _=>0) X (Ext.refl _ _) (λ_ _ h=>.inl h)
   (λb i ha=>ha.imp id λh1=>⟨by omega,by grind⟩) (λb i=>by omega) h6 (λ_=>rfl) (Ro.rep _ _ (cN _) nl)
  exact ⟨A3,_,_,t1,m1,v1,cs,ad,k1,λb i ha=>k2 b i (.inl ha),k4 _ (BU (h.fG r) (.inr rfl)) (λp' snap hb ao hl=>⟨bD p'+1,True,by omega,λ_=>.inr trivial,λ_=>trivial,
   kP.same ad h4 (λ_ _ _ _ h=>h) (λ_ _ _ _ h=>h) _ True⟩),nk _ _ _ _ _,q9 hr v3 k0 (λi=>rfl),⟨U⟩,h3,Ro.mono (λ_ _ _ _ h=>h) k2 _ nl⟩
 ·cases h1
theorem bh {t t':Ty} {v:t.den} {K:t'.den->Option R} (h:dJ t t' v K=some x):∃ e:t=t',K (e ▸ v)=some x:=by
 grind [dJ]
theorem uC (h:Rel P C A X σ a w F) {r:Nat} {p:Path} {t:Ty} {m:Md} {v:t.den} {K:St->Option R} (hk:nX σ r p t m v K=some x) :
  r < σ.n/\∃ (m':Md) (H':List Path) (v':t.den) (cs:List Value) (ad:Option (Nat×Nat)) (F':FP),At σ r p t m' H' v'/\place σ a w r p=some ⟨t,H',cs,ad⟩/\ah P w A t m' H' v' cs F' /\
   (∀ b i,eV ad t.sz b i+F' b i<=F r b i)/\(∀ b o,ad=some (b,o)->Has w b o cs/\∀ j,j < t.sz->w.frozen? ⟨b,o+j,none⟩=false) /\
   ∀ (w2:World) (A2:Cells) (bA:List Value) (Fv X2:FP),Ext w w2 (λb i=>X b i+(F' b i+eV ad t.sz b i))->(∀ b i,A b i->A2 b i)->(∀ b i,A2 b i->A b i\/(1<=X b i+F' b i/\X2 b i+Fv b i=0)) ->
    (∀ b i,X2 b i+Fv b i<=X b i+F' b i)->(∀ b o,ad=some (b,o)->Has w2 b o bA)->(ad=none->bA=cs)->ah P w2 A2 t m [] v bA Fv ->
    ∃ (A3:Cells) (σ':St) (Fr:FP),K σ'=some x/\(∀ b i,A2 b i->A3 b i)/\Rel P C A3 X2 σ' a w2 (cx F r Fr)/\σ'.n=σ.n /\
     ∀ g:List Nat->List Nat,Below (σ.eR r) (g (σ.eR r))->(g (σ.eR r)).length=5->bA=cs ->
      (∀ (p':Path) (snap:List Nat),Below snap (σ.eR r)->preB snap (g (σ.eR r))=true->(snap.length=min 5 (1+bD p')\/snap.length=min 5 (2+bD p')\/snap.length=5) ->
       ∃ D full,bD p'<=D+bD p/\(snap.length=min 5 (2+bD p')->bD p' < D+bD p\/full)/\(snap.length=5->full)/\kP D full w t H' cs ad w2 [] bA) ->
      Rel P C A3 X2 { σ' with vr:=(σ.gc r g).vr,aF:=σ.aF } a w2 (cx F r Fr):=by
 obtain ⟨hr,t1,m1,H1,v1,cs,ad,Fv,kk,h1,U,h3,h4,h5,h6,h7,h8⟩:=h.q_ hk
 obtain ⟨e,h1⟩:=bh h1
 subst e
 refine ⟨hr,m1,H1,v1,cs,ad,Fv,⟨U⟩,h3,h4,h5,λb o e=>⟨h6 b o e,h7 b o e⟩,λw2 A2 bA T8 X2 g1 g2 g3 g4 g5 g6 g7=>?_⟩
 obtain ⟨t0,m3,H3,v3,Fr,A3,k1,⟨m0,H0,v0,k0⟩,k2,k3,k4⟩:=h8 m [] v h1 w2 A2 bA T8 X2 g1 g2 g3 g4 g5 g6 g7
 refine ⟨A3,_,Fr,k1,k2,k4 _ (DB ?_ ?_ .inl) (λp' snap hb ao hl=>?_),?_,λg WM WN mX bk=>?_⟩
 ·split
  ·exact qt (h.fG r)
  ·exact nj _ (h.fG r)
 ·split
  ·exact wL (h.fG r)
  ·exact vh _ (h.fG r)
 ·unfold St.ok at ao
  rw[so,jL,if_pos rfl,jY] at ao
  by_cases hf:t.flat=true
  ·rw[if_pos hf] at ao
   have:=yQ (h.fG r) hb ao
   exact ⟨bD p'+1,False,by omega,λ_=>.inl (by omega),λ_=>by omega,kP.flat (A:=A) ad g7 hf _⟩
  ·rw[if_neg hf] at ao
   have:=wM (bD p) (h.fG r) hb ao
   exact ⟨0,False,by omega,λ_=>.inl (by omega),λ_=>by omega,kP.zero (A:=A) ad g7⟩
 ·rw[zJ];exact nk _ _ _ _ _
 ·refine k4 _ ⟨by rw[zJ];exact nk _ _ _ _ _,λi hi=>?_,?_,λi hi=>?_,?_,?_,λe he=>he,λj k hm=>hm,λe he=>?_,λ_ _=>.inr mX⟩ (λp' snap hb ao hl=>bk p' snap hb ?_ hl)
  ·show (((σ.en r t0 m3 H3 v3).gc r _).head r _).get i=_
   rw[sn];exact qu r t0 m3 H3 v3 i hi
  ·show (((σ.en r t0 m3 H3 v3).gc r _).head r _).get r=_
   rw[sn];rfl
  ·show (σ.gc r g).eR i=σ.eR i
   grind [jL]
  ·show Below _ ((σ.gc r g).eR r)
   grind [jL]
  ·show ((σ.gc r g).eR r).length=5
   grind [jL]
  ·grind [Gm,St.gc,vk]
  ·have ao:preB snap ((σ.gc r g).eR r)=true:=ao
   grind [jL]
end
end OT
set_option linter.unusedVariables false
set_option linter.unusedSimpArgs false
namespace OT
open Go
section
variable {P:Program} {C:Ctx} {A:Cells} {X:FP} {σ:St} {a:Act} {w:World} {F:Nat->FP} {R:Type} {x:R}
theorem Rel.grow (h:Rel P C A X σ a w F) {w1:World} (hw:Ext w w1 (λ_ _=>0)) {A1:Cells} {X1:FP} (hA:∀ b i,A b i->A1 b i)
  (wP:∀ b i,A1 b i->A b i\/(w.heap.size<=b/\b < w1.heap.size/\X1 b i=0)) (hX:∀ b i,X1 b i<=X b i\/(w.heap.size<=b/\b < w1.heap.size/\X1 b i<=1)):Rel P C A1 X1 σ a w1 F:=by
 have lM:∀ b i,A b i->∀ u,ce w b i=some u->ce w1 b i=some u:=λb i ha u hu=>hw.cell b i (h.eI b i (.inr ha)) rfl u hu
 have Ja:∀ b i,w.heap.size<=b->aA σ.n F b i=0:=λb i hb=>by
  rcases Nat.eq_zero_or_pos (aA σ.n F b i) with h0 | h0
  ·exact h0
  ·have:=h.eI b i (.inl (by omega));omega
 have wO:∀ j,j < σ.n->∀ b i,1<=F j b i->(∀ u,ce w b i=some u->ce w1 b i=some u)/\w1.frozen? ⟨b,i,none⟩=w.frozen? ⟨b,i,none⟩:=λj hj b i hp=>by
  have hb:=h.eI b i (.inl (by grind [bu]))
  exact ⟨λu hu=>hw.cell b i hb rfl u hu,hw.qZ b i hb⟩
 have gJ:qb σ a w σ a w1:=λr p snap hb=>⟨hb,λao=>⟨ao,λhl pl dh=>⟨pl.H,pl.cs,by
  have av:=l_ dh
  exact n9 (h.cY r av) rfl rfl lM (λb i hp=>(wO r av b i hp).1) dh,λ_=>rfl⟩⟩⟩
 refine ⟨h.size,h.defers,λi hi=>bj.ge gJ hA lM hw.pZ (wO i hi) (h.cY i hi),λd r p snap hm=>kw.ge gJ (h.gh d r p snap hm),λb i=>?_,λb i hp ha=>?_,λb i hp=>?_,
  h.fG,h.ext.trans hw (λ_ _ _ _=>rfl),λb i hp=>?_,λb i ha=>hA b i (h.a0 b i ha),λb i ha=>?_,h.il,λr t m H v hg hl=>?_,λj k hm R' iR=>?_,h.o_⟩
 ·have h1:=h.iQ b i
  grind
 ·rcases wP b i ha with ha | ⟨h1,U,h3⟩
  ·have av:=h.eI b i (.inr ha)
   rcases hX b i with U | ⟨U,_⟩
   ·exact h.jr b i (by omega) ha
   ·omega
  grind
 ·rcases hp with hp | ha
  ·rcases hX b i with U | ⟨U,h3,_⟩
   ·exact Nat.lt_of_lt_of_le (h.eI b i (.inl (by omega))) hw.size
   ·exact h3
  ·rcases wP b i ha with ha | ⟨h1,U,h3⟩
   ·exact Nat.lt_of_lt_of_le (h.eI b i (.inr ha)) hw.size
   ·exact U
 ·rcases hX b i with U | ⟨U,_⟩
  ·exact h.own b i (by omega)
  ·exact .inr (Nat.le_trans h.ext.size U)
 ·rcases wP b i ha with ha | ⟨h1,_⟩
  ·exact h.J b i ha
  ·exact .inr (.inr (Nat.le_trans h.ext.size h1))
 ·obtain ⟨b,h1,U⟩:=h.whole r t m H v hg hl
  exact ⟨b,h1,hw.pZ _ _ U⟩
 ·rcases Nat.lt_or_ge j σ.n with hj | hj
  ·have fJ:=h.cY j hj
   cases ru:bC w (tmp a j) (σ.get j) with
   | none=>exfalso;cases hg:σ.get j <;> rw[hg] at ru iR <;> simp only[bC] at ru iR <;> first | grind | grind | grind
   | some R0=>
    rw[pc fJ (λb i hp=>(wO j hj b i hp).1) ru] at iR
    injection iR with iR
    subst iR
    exact h.gC j k hm _ ru
  ·rw[fL (Nat.not_lt.2 hj)] at iR;cases iR
def bv (P:Program):Operand->Bool
 | .func f=>(P.funcs[f]?).any (·.nfree == 0)
 | _=>true
theorem cc (h:Rel P C A X σ a w F) {o:Operand} (ho:bv P o=true):bj P A σ a w (a.eval o) (bz σ o) (λ_ _=>0)\/∃ xs,bz σ o=.kM xs:=by
 cases o with
 | tmp i=>
  show bj P A σ a w (tmp a i) _ _\/_
  rcases Nat.lt_or_ge i σ.n with hi | hi
  ·have hs:=h.cY i hi
   simp only[bz]
   cases hg:σ.get i with
   | own t m H v=>
    rw[hg] at hs
    obtain ⟨cs,h1,U⟩:=hs
    left
    have dh:place σ a w i []=some ⟨t,H,cs,none⟩:=by
     grind [place,bC,eH,ah.length,ah.one,aJ]
    have h5:=h.fG i
    refine ⟨?_,λ_=>⟨_,dh,h1,?_⟩⟩
    ·unfold nE
     split
     ·intro j y hj;grind
     ·intro j y hj;grind
     ·exact Below.refl _
    ·unfold nE
     grind [o8]
   | box t m H v=>
    rw[hg] at hs
    obtain ⟨b,o,L,F1,h1,U,h3,h4,h5,h6⟩:=hs
    left
    have WO:=h.fG i
    refine ⟨?_,λ_=>⟨⟨t,H,L,some (b,o)⟩,b,o,?_,rfl,h1,by grind [oK]⟩⟩
    ·unfold oK
     intro j y hj;grind
    grind [place,bC,b9,aJ]
   | kM xs=>grind
   | dead=>exact .inl trivial
   | oU=>rw[hg] at hs;exact .inl hs
   | val t v=>rw[hg] at hs;exact .inl hs
   | cp t v=>rw[hg] at hs;exact .inl hs
   | ref r p snap=>rw[hg] at hs;exact .inl hs
   | ptr r p snap=>rw[hg] at hs;exact .inl hs
   | sub r p snap lo hi=>rw[hg] at hs;exact .inl hs
  ·simp only[bz,fL (Nat.not_lt.2 hi)];exact .inl trivial
 | const v=>
  left
  show bj P A σ a w v (l5 v) _
  unfold l5
  split
  ·split
   ·rename_i hn;exact ⟨[_],rfl,by grind [Ro,iw]⟩
   ·trivial
  ·exact ⟨[_],rfl,rfl⟩
  ·exact ⟨[_],rfl,rfl⟩
  ·exact ⟨[_],rfl,rfl⟩
  ·exact ⟨[_],rfl,rfl⟩
  ·exact ⟨[_],rfl,rfl⟩
  ·exact ⟨[_],rfl,by simp[Ro]⟩
  ·rfl
  ·trivial
 | func f=>
  left
  simp only[bv,Option.any_eq_true,beq_iff_eq] at ho
  obtain ⟨fn,h1,U⟩:=ho
  exact ⟨[_],rfl,#[],rfl,fn,h1,.inl ⟨U,rfl⟩⟩
 | global g=>exact .inl trivial
def AO (A:Cells) (σ:St) (F:Nat->FP):Cells:=λb i=>A b i\/1<=aA σ.n F b i
theorem bL (t:Ty) (y:Value) (h:isAgg t=false):bq t [y]=y:=by simp[bq,h]
theorem Ro.piece {e:Ty} {v:List e.den} {xa:Option Addr} {n cap lo hi cap':Nat} {n_:Option Addr} (h:Ro P w A (.ae e) v [.slice xa n cap]) (h1:lo<=hi) (U:hi<=n) (h3:cap'+lo=cap) (h4:xa=none->n_=none)
  (h5:∀ ad,xa=some ad->∃ bl,n_=some bl/\bl.spot=ad.spot/\bl.block=ad.block/\(lo < hi->bl.off=ad.off+lo*e.sz)) :
  Ro P w A (.ae e) ((v.take hi).drop lo) [.slice n_ (hi - lo) cap']:=by
 obtain ⟨a0,SP,g1,g2,g3,g4⟩:=h
 simp only[List.cons.injEq,Value.slice.injEq,and_true] at g1
 obtain ⟨rfl,rfl,rfl⟩:=g1
 have hlen:List.length ((v.take hi).drop lo)=hi - lo:=by simp;omega
 refine ⟨n_,cap',by rw[hlen],by grind,λhn=>?_,λbl Hh=>?_⟩
 ·rw[hlen]
  cases Jb:xa <;> grind
 ·cases Jb:xa <;> grind
def AR (A:Cells) (F:Nat->FP) (rs:List Nat):Cells:=λb i=>A b i\/∃ r ∈ rs,1<=F r b i
theorem BV (h:Rel P C A X σ a w F) {s:Slot} {tv:Value} {G:FP} (hs:bj P A σ a w tv s G) {t:Ty} {K:t.den->Option R} (hk:lH σ s t K=some x) :
  ∃ (v:t.den) (cs:List Value),K v=some x/\tv=bq t cs/\Ro P w (AR A F (gk s)) t v cs:=by
 have Jc:∀ b i,A b i->AR A F (gk s) b i:=λb i ha=>.inl ha
 have rB:∀ b i,A b i->∀ u,ce w b i=some u->ce w b i=some u:=λ_ _ _ _ h=>h
 cases s with
 | val t' v=>
  obtain ⟨e,hk⟩:=bh hk;subst e
  obtain ⟨cs,h1,U⟩:=hs
  grind [Ro.mono]
 | cp t' v=>
  obtain ⟨e,hk⟩:=bh hk;subst e
  exact ⟨v,[tv],hk,(bL _ _ rfl).symm,Ro.mono rB Jc _ hs⟩
 | oU=>
  simp only[lH] at hk
  split at hk
  ·rename_i t e
   have hs:tv=.slice none 0 0:=hs
   subst hs
   exact ⟨[],_,hk,(bL _ _ rfl).symm,none,0,rfl,Nat.le_refl _,λ_=>rfl,λad ey=>by cases ey⟩
  ·cases hk
 | ref r p snap=>
  simp only[lH] at hk
  split at hk
  ·rename_i ao
   obtain ⟨hr,t',m',H',v',aS,bl,F',h1,U,h3,h4,h5,h6⟩:=fk h hk
   obtain ⟨pl,g1,g2,g3⟩:=hs.2 ao
   rw[h3] at g1
   injection g1 with g1
   subst g1
   split at h1
   ·rename_i hH
    have hH:=List.isEmpty_iff.1 hH;subst hH
    obtain ⟨e,h1⟩:=bh h1;subst e
    exact ⟨v',aS,h1,g2,ah.o7 Jc _ h4 (λb i hp=>.inr ⟨r,List.mem_singleton.2 rfl,by grind⟩)⟩
   ·cases h1
  ·cases hk
 | sub r p snap lo hi=>
  simp only[lH] at hk
  split at hk
  ·rename_i ao
   obtain ⟨hr,t',m',H',v',aS,bl,F',h1,U,h3,h4,h5,h6⟩:=fk h hk
   obtain ⟨pl,e,xa,n,cap,n_,cap',g1,g2,g3,g4,g5,g6,g7,Gn,g8,g9,g10⟩:=hs.2 ao
   rw[h3] at g1
   injection g1 with g1
   subst g1
   simp only at g2 g3
   subst g2;subst g3
   split at h1
   ·rename_i hH
    have hH:=List.isEmpty_iff.1 hH;subst hH
    obtain ⟨e',h1⟩:=bh h1;subst e'
    exact ⟨_,_,h1,by rw[bL _ _ rfl];exact g6,Ro.piece (ah.o7 Jc _ h4 (λb i hp=>.inr ⟨r,List.mem_singleton.2 rfl,by grind⟩)) g4 g5 g7 g8 g9⟩
   ·cases h1
  ·cases hk
 | ptr r p snap=>
  simp only[lH] at hk
  split at hk
  ·rename_i ao
   obtain ⟨hr,t',m',H',v',aS,bl,F',h1,U,h3,h4,h5,h6⟩:=fk h hk
   obtain ⟨pl,b,o,g1,g2,g3,g4⟩:=hs.2 ao
   rw[h3] at g1
   injection g1 with g1
   subst g1
   split at h1
   ·rename_i hH
    have hH:=List.isEmpty_iff.1 hH;subst hH
    obtain ⟨e',h1⟩:=bh h1;subst e'
    simp only at g2
    subst g2
    refine ⟨v',[tv],h1,(bL _ _ rfl).symm,⟨b,o,none⟩,by rw[g3],rfl,aS,ah.length _ h4,λj u hu=>⟨h6 b o rfl j u hu,?_⟩,
     ah.o7 Jc _ h4 (λb i hp=>.inr ⟨r,List.mem_singleton.2 rfl,by grind⟩)⟩
    have hj:j < t'.sz:=ah.length _ h4 ▸ (List.getElem?_eq_some_iff.1 hu).1
    unfold place at h3
    cases hR:bC w (tmp a r) (σ.get r) with
    | none=>grind
    | some R0=>
     rw[hR] at h3
     obtain ⟨m0,v0,F1,q1,q2,q3,_⟩:=pa (h.cY r hr) hR
     exact I2 Jc p R0.t q1 (λb i hp=>.inr ⟨r,List.mem_singleton.2 rfl,by grind⟩) (λb' o' e' j hj=>.inr ⟨r,List.mem_singleton.2 rfl,by
      grind [bP]⟩) h3 b o rfl j hj
   ·cases h1
  ·cases hk
 | _=>simp[lH] at hk
theorem wQ (h:Rel P C A X σ a w F) {s:Slot} {t:Ty} {K:t.den->Option R} (hk:lH σ s t K=some x):∀ r ∈ gk s,r < σ.n:=by
 intro r hr
 cases s <;> simp only[gk,List.mem_singleton,List.not_mem_nil] at hr
 all_goals
  subst hr
  simp only[lH] at hk
  split at hk
  ·exact (fk h hk).1
  ·cases hk
theorem Gp (h:Rel P C A X σ a w F) {s:Slot} {tv:Value} {G:FP} (hs:bj P A σ a w tv s G) {t:Ty} {K:t.den->Option R} (hk:lH σ s t K=some x) :
  ∃ (v:t.den) (cs:List Value),K v=some x/\tv=bq t cs/\Ro P w (AO A σ F) t v cs:=by
 obtain ⟨v,cs,h1,U,h3⟩:=BV h hs hk
 refine ⟨v,cs,h1,U,Ro.mono (λ_ _ _ _ h=>h) (λb i ha=>?_) t h3⟩
 rcases ha with ha | ⟨r,hr,hp⟩
 ·exact .inl ha
 ·have:=bu F (wQ h hk r hr) b i
  exact .inr (by omega)
end
end OT
set_option linter.unusedVariables false
set_option linter.unusedSimpArgs false
namespace OT
open Go
section
variable {P:Program} {C:Ctx} {A:Cells} {X:FP} {σ:St} {a:Act} {w:World} {F:Nat->FP} {R:Type} {x:R}
theorem zK {l:List (Nat×Nat×Bool)} {r:Nat} (h:uV l r=false) (k:Nat):(r,k,false) ∉ l:=by
 induction l with
 | nil=>grind
 | cons y l ih=>
  obtain ⟨k',n,b⟩:=y
  simp_all [uV]
theorem kx (a:Act) (i:Nat):a.put (some i) (tmp a i)=a:=by
 have:a.tmps.setIfInBounds i (tmp a i)=a.tmps:=by
  apply Array.ext
  all_goals simp_all [Array.getElem_setIfInBounds,tmp]
 simp[Act.put,this]
theorem mJ (h:Rel P C A X σ a w F) {s:Slot} {tv:Value} {G:FP} (hs:bj P A σ a w tv s G) {mv:Bool} {t:Ty} {K:Md->t.den->St->Option R} (hk:fR σ s mv t K=some x) :
  ∃ (A':Cells) (σ':St) (F':Nat->FP) (m:Md) (v:t.den) (cs:List Value) (Fv:FP),K m v σ'=some x/\(∀ b i,A b i->A' b i)/\Rel P C A' (λb i=>X b i+Fv b i) σ' a w F'/\σ'.n=σ.n/\jM σ σ' /\
   tv=bq t cs/\ah P w A' t m [] v cs Fv:=by
 have hz:Rel P C A (λb i=>X b i+0) σ a w F:=h
 cases s with
 | val t' v=>
  simp only[fR] at hk
  obtain ⟨e,hk⟩:=bh hk;subst e
  obtain ⟨cs,h1,U⟩:=hs
  exact ⟨A,σ,F,_,v,cs,λ_ _=>0,hk,λ_ _ h=>h,hz,rfl,jM.refl σ,h1,Ro.rep _ _ (cN _) U⟩
 | cp t' v=>
  simp only[fR] at hk
  obtain ⟨e,hk⟩:=bh hk;subst e
  exact ⟨A,σ,F,_,v,[tv],λ_ _=>0,hk,λ_ _ h=>h,hz,rfl,jM.refl σ,(bL _ _ rfl).symm,Ro.rep _ _ (cN _) hs⟩
 | oU=>
  simp only[fR] at hk
  split at hk
  ·rename_i t e
   have hs:tv=.slice none 0 0:=hs
   subst hs
   refine ⟨A,σ,F,_,_,[.slice none 0 0],λ_ _=>0,hk,λ_ _ h=>h,hz,rfl,jM.refl σ,(bL _ _ rfl).symm,?_⟩
   grind [ah,hole,m_,Md.own]
  ·cases hk
 | ref r p snap=>
  simp only[fR] at hk
  split at hk
  ·rename_i ao
   obtain ⟨hr,t',m',H',v',aS,bl,F',h1,U,h3,h4,h5,h6⟩:=fk h hk
   obtain ⟨pl,g1,g2,g3⟩:=hs.2 ao
   rw[h3] at g1
   injection g1 with g1
   subst g1
   split at h1
   ·rename_i hH
    have hH:=List.isEmpty_iff.1 hH;subst hH
    obtain ⟨e,h1⟩:=bh h1;subst e
    split at h1
    ·rename_i hm;subst hm
     exact ⟨A,σ,F,_,v',aS,λ_ _=>0,h1,λ_ _ h=>h,hz,rfl,jM.refl σ,g2,Ro.rep _ _ (cN _) (ah.ro _ (cN _) h4)⟩
    ·split at h1
     ·obtain ⟨A',σ',F2,cs,ad,Fv,k1,k2,k3,k4,kr,k5,k6⟩:=Bj h h1 ⟨U⟩
      rw[h3] at k5
      injection k5 with k5
      simp only[Pl.mk.injEq,true_and] at k5
      obtain ⟨rfl,rfl⟩:=k5
      exact ⟨A',σ',F2,_,v',aS,Fv,k1,k2,k3,k4,kr,g2,ah.mono k2 (λ_ _ _ _ h=>h) (λ_ _ h=>h) _ k6 (λ_ _=>Nat.le_refl _) (λ_ _ _ _ h=>h)⟩
     ·obtain ⟨A',σ',F2,t2,m2,v2,cs,ad,k1,k2,k3,k4,kr,k5,k6,k7⟩:=qH h h1
      obtain ⟨e1,e2,e3,e4⟩:=At.inj ⟨U⟩ k5
      subst e1
      have e4:=eq_of_heq e4
      subst e4
      rw[h3] at k6
      injection k6 with k6
      simp only[Pl.mk.injEq,true_and] at k6
      obtain ⟨rfl,rfl⟩:=k6
      exact ⟨A',σ',F2,_,v',aS,λ_ _=>0,k1,k2,k3,k4,kr,g2,Ro.rep _ _ (cN _) k7⟩
   ·cases h1
  ·cases hk
 | sub r p snap lo hi=>
  simp only[fR] at hk
  split at hk
  ·rename_i ao
   obtain ⟨hr,t',m',H',v',aS,bl,F',h1,U,h3,h4,h5,h6⟩:=fk h hk
   obtain ⟨pl,e,xa,n,cap,n_,cap',g1,g2,g3,g4,g5,g6,g7,Gn,g8,g9,g10⟩:=hs.2 ao
   rw[h3] at g1
   injection g1 with g1
   subst g1
   simp only at g2 g3
   subst g2;subst g3
   split at h1
   ·rename_i hH
    have hH:=List.isEmpty_iff.1 hH;subst hH
    obtain ⟨e',h1⟩:=bh h1;subst e'
    simp only at h1
    have sq:tv=bq (.ae e) [.slice n_ (hi - lo) cap']:=by rw[bL _ _ rfl];exact g6
    split at h1
    ·rename_i hm;subst hm
     exact ⟨A,σ,F,_,_,_,λ_ _=>0,h1,λ_ _ h=>h,hz,rfl,jM.refl σ,sq,Ro.rep _ _ (cN _) (Ro.piece (ah.ro _ (cN _) h4) g4 g5 g7 g8 g9)⟩
    ·split at h1
     ·split at h1
      ·rename_i oc
       subst oc
       obtain ⟨A',σ',F2,cs,ad,Fv,k1,k2,k3,k4,kr,k5,k6⟩:=Bj h h1 ⟨U⟩
       rw[h3] at k5
       injection k5 with k5
       simp only[Pl.mk.injEq,true_and] at k5
       obtain ⟨rfl,rfl⟩:=k5
       have k6:=ah.mono k2 (λ_ _ _ _ h=>h) (λ_ _ h=>h) _ k6 (λ_ _=>Nat.le_refl _) (λ_ _ _ _ h=>h)
       refine ⟨A',σ',F2,_,_,_,Fv,k1,k2,k3,k4,kr,sq,?_⟩
       have Jb:=Gn rfl
       subst Jb
       simp only[Nat.add_zero] at g7
       subst g7
       simp only[ah,hole,List.any_nil,Bool.false_eq_true,if_false] at k6 ⊢
       split at k6
       ·rename_i dj
        rw[if_pos dj]
        obtain ⟨a0,SP,q1,q2,q3,q4,q5⟩:=k6
        simp only[List.cons.injEq,Value.slice.injEq,and_true] at q1
        obtain ⟨rfl,rfl,rfl⟩:=q1
        have hlen:List.length ((v'.take hi).drop 0)=hi:=by simp;omega
        refine ⟨n_,cap',by rw[hlen];rfl,by grind,q3,q4,λad ey=>?_⟩
        obtain ⟨r1,r2,r3,Fi,r4,r5⟩:=q5 ad ey
        refine ⟨r1,r2,r3,Fi,λb i=>?_,λi y hy=>?_⟩
        ·rw[hlen]
         have:=r4 b i;have:=IY (List.length v') Fi 0 hi (by omega) b i
         grind
        simp_all [List.getElem?_take]
       ·rename_i dj
        rw[if_neg dj]
        exact ⟨trivial,k6.2.1,Ro.piece (cap':=cap') k6.2.2 g4 g5 rfl g8 g9⟩
      ·cases h1
     ·obtain ⟨A',σ',F2,t2,m2,v2,cs,ad,k1,k2,k3,k4,kr,k5,k6,k7⟩:=qH h h1
      obtain ⟨e1,e2,e3,e4⟩:=At.inj ⟨U⟩ k5
      subst e1
      have e4:=eq_of_heq e4
      subst e4
      rw[h3] at k6
      injection k6 with k6
      simp only[Pl.mk.injEq,true_and] at k6
      obtain ⟨rfl,rfl⟩:=k6
      exact ⟨A',σ',F2,_,_,_,λ_ _=>0,k1,k2,k3,k4,kr,sq,Ro.rep _ _ (cN _) (Ro.piece k7 g4 g5 g7 g8 g9)⟩
   ·cases h1
  ·cases hk
 | ptr r p snap=>
  cases p with
  | cons s p=>simp[fR] at hk
  | nil=>
   simp only[fR] at hk
   split at hk
   ·rename_i ao
    split at hk
    ·rename_i t' m' H' v' hg
     split at hk
     ·rename_i hc
      simp only[Bool.and_eq_true,List.isEmpty_iff,Bool.not_eq_true'] at hc
      obtain ⟨rfl,hl⟩:=hc
      obtain ⟨e,hk⟩:=bh hk;subst e
      have hr:r < σ.n:=by
       grind [fL]
      obtain ⟨pl,b,o,g1,g2,g3,g4⟩:=hs.2 ao
      have fJ:=h.cY r hr
      rw[hg] at fJ
      obtain ⟨b0,o0,L,F1,q1,q2,q3,q4,q5,q6⟩:=fJ
      unfold place at g1
      rw[hg,q1] at g1
      simp only[bC,Option.bind_some,aJ,Option.some.injEq] at g1
      subst g1
      simp only[Option.some.injEq,Prod.mk.injEq] at g2
      obtain ⟨rfl,rfl⟩:=g2
      obtain ⟨b1,w1,w2⟩:=h.whole r t' m' [] v' hg (zK hl)
      rw[q1] at w1
      simp only[Value.pointer.injEq,Option.some.injEq,Addr.mk.injEq,and_true] at w1
      obtain ⟨rfl,rfl⟩:=w1
      have sr:=h.put hr (s:=.dead) (v:=tmp a r) (Fd:=λ_ _=>0) (X':=λb i=>X b i+F r b i) trivial (λb i=>by omega) (λt m H v e=>by cases e)
      rw[kx] at sr
      refine ⟨A,_,_,_,v',[tv],F r,hk,λ_ _ h=>h,sr,rfl,(λw tv i R hR=>⟨R.H,by
       rw[qc] at hR
       split at hR
       ·cases hR
       ·exact hR⟩),(bL _ _ rfl).symm,?_⟩
      grind [ah,hole,Md.own,Md.e]
     ·cases hk
    ·cases hk
   ·cases hk
 | _=>simp[fR] at hk
theorem xW {t:Ty} {m:Md} {v:t.den} {cs:List Value} {Fv:FP} (h:ah P w A t m [] v cs Fv) :
  bj P A σ a w (bq t cs) (laid t m v) Fv/\∀ t' m' H' v',laid t m v=.box t' m' H' v'->∃ b,bq t cs=.pointer (some ⟨b,0,none⟩)/\dg w b (t'.sz,false):=by
 unfold laid
 split
 ·rename_i hm;subst hm
  exact ⟨⟨cs,rfl,ah.ro _ (cN _) h⟩,λt' m' H' v' e=>by cases e⟩
 ·split
  ·rename_i e m' v' _
   simp only[ah,hole,List.any_nil,Bool.false_eq_true,if_false,Md.own,if_true,Md.e] at h
   obtain ⟨b,rfl,U,L,F1,h3,h4,h5,h6⟩:=h
   rw[bL _ _ rfl]
   refine ⟨⟨b,0,L,F1,rfl,h3,h4,λj hj=>by rw[Nat.zero_add];exact U.frozen hj,h5,h6⟩,λt' m' H' v' e=>?_⟩
   grind
  ·exact ⟨⟨cs,rfl,h⟩,λt' m' H' v' e=>by cases e⟩
theorem Rel.NE (h:Rel P C A X σ a w F) {d:Nat} (hd:σ.n<=d) (s:Slot) (v:Value) {X':FP} (ht:∀ b i,X' b i<=X b i):Rel P C A X' (σ.put d s) (a.put (some d) v) w F:=by
 have gn:=h.size
 have ha:a.put (some d) v=a:=by simp[Act.put,Array.setIfInBounds,gn,Nat.not_lt.2 hd]
 rw[ha]
 have pg:∀ i,(σ.put d s).get i=σ.get i:=λi=>by
  grind [qc]
 have gJ:qb σ a w (σ.put d s) a w:=by
  intro r p snap hb
  rw[rS,St.ok,rS]
  by_cases hr:d=r
  ·subst hr
   simp only[if_true]
   refine ⟨hb.trans (lO _),λao=>?_⟩
   have h0:=yp (h.fG d) hb ao
   exact ⟨(xT hb (lO _) ao).1,λhl=>by omega⟩
  ·simp only[if_neg hr]
   refine ⟨hb,λao=>⟨ao,λhl pl dh=>⟨pl.H,pl.cs,?_,λ_=>rfl⟩⟩⟩
   simp_all [place]
 refine ⟨h.size,h.defers,λi hi=>?_,?_,λb i=>by have:=h.iQ b i;have:=ht b i;show X' b i+aA σ.n F b i<=1;omega,λb i hp=>h.jr b i (by have:=ht b i;have hp:1<=X' b i+aA σ.n F b i:=hp;omega),
  λb i hp=>h.eI b i (hp.imp (λhp=>by have:=ht b i;have hp:1<=X' b i+aA σ.n F b i:=hp;omega) id),λi=>?_,h.ext,λb i hp=>h.own b i (by have:=ht b i;have hp:1<=X' b i+aA σ.n F b i:=hp;omega),h.a0,h.J,?_,?_,?_,h.o_⟩
 ·rw[pg]
  exact bj.ge gJ (λ_ _ h=>h) (λ_ _ _ _ h=>h) (λ_ _ h=>h) (λ_ _ _=>⟨λ_ h=>h,rfl⟩) (h.cY i hi)
 ·intro d' r p snap hm
  exact kw.ge gJ (h.gh d' r p snap (Dy hm).1)
 ·rw[rS]
  split
  ·rw[wK];exact h.fG d
  ·exact h.fG i
 ·intro j k hm;exact h.il j k (rD hm).1
 ·intro r t m H v' hg hl
  rw[pg] at hg
  refine h.whole r t m H v' hg λk hm=>hl k (zF hm λe=>?_)
  grind [fL]
 ·intro j k hm R hR
  rw[pg] at hR
  exact h.gC j k (rD hm).1 R hR
theorem Rel.aQ (h:Rel P C A X σ a w F) (d:Option Tmp) {s:Slot} {v:Value} {Fd X':FP} (hs:bj P A σ a w v s Fd) (ht:∀ b i,X' b i+Fd b i<=X b i)
  (Mi:∀ t m H v',s=.box t m H v'->∃ b,v=.pointer (some ⟨b,0,none⟩)/\dg w b (t.sz,false)):∃ F',Rel P C A X' (σ.aQ d s) (a.put d v) w F':=by
 cases d with
 | none=>exact ⟨F,h.less λb i=>by grind⟩
 | some d=>
  rcases Nat.lt_or_ge d σ.n with hd | hd
  ·exact ⟨_,h.put hd hs (λb i=>by grind) Mi⟩
  ·exact ⟨_,h.NE hd s v λb i=>by grind⟩
def wR (P:Program) (C:Ctx) (σ:St) (a:Act) (w:World):Prop:=∃ A F,Rel P C A (λ_ _=>0) σ a w F
end
end OT
set_option linter.unusedVariables false
set_option linter.unusedSimpArgs false
namespace OT
open Go
def zc:Ty->Option (List Value)
 | .int k=>some [.int k 0]
 | .bool=>some [.bool false]
 | .str=>some [.string ⟨#[]⟩]
 | .unit=>some []
 | .pair a b=>match zc a,zc b with
  | some x,some y=>some (x++y)
  | _,_=>none
 | .arr n e=>match zc e with
  | some x=>some (List.replicate n x).flatten
  | none=>none
 | .ae _=>some [.slice none 0 0]
 | _=>none
def OK:Value->Value->Bool
 | .int k n,.int k' n'=>decide (k=k')&&decide (n=n')
 | .bool a,.bool b=>a == b
 | .string s,.string t=>decide (s.data.toList=t.data.toList)
 | .slice none 0 0,.slice none 0 0=>true
 | _,_=>false
def Bk:List Value->List Value->Bool
 | [],[]=>true
 | a::x,b::y=>OK a b&&Bk x y
 | _,_=>false
theorem OL {a b:Value} (h:OK a b=true):a=b:=by
 unfold OK at h
 split at h
 ·grind
 ·grind
 ·rename_i s t
  simp only[decide_eq_true_eq] at h
  congr 1
  cases s;simp_all
 all_goals grind
theorem Gq:∀ {x y:List Value},Bk x y=true->x=y
 | [],[],_=>rfl
 | a::x,b::y,h=>by
  simp only[Bk,Bool.and_eq_true] at h
  rw[OL h.1,Gq h.2]
 | [],_::_,h=>by simp[Bk] at h
 | _::_,[],h=>by simp[Bk] at h
def kW (P:Program) (t:Ty) (i:TypeId):Bool:=
 match P.info? i with
 | some inf=>Nat.beq inf.size t.sz&&Nat.ble inf.bytes 512&&(match inf.zero with
  | some z=>Nat.beq z.cells.size t.sz&&(match zc t with
   | some L=>Bk z.cells.toList L
   | none=>true)
  | none=>false)
 | none=>false
def kN (P:Program):Ty->Sum TypeId (List Field)->Bool
 | .int _,.inl _=>true
 | .bool,.inl _=>true
 | .str,.inl _=>true
 | .unit,.inl i=>!P.stoodInHeld i
 | .unit,.inr _=>true
 | .pair a b,.inl i=>!P.stoodInHeld i&&(match P.underlying i with
  | some (.struct fs)=>(match fs.toList with
   | f::r=>f.name != "_" && kN P a (.inl f.type)&&kN P b (.inr r)
   | []=>false)
  | _=>false)
 | .pair a b,.inr (f::r)=>f.name != "_" && kN P a (.inl f.type)&&kN P b (.inr r)
 | .arr _ e,.inl i=>(match P.underlying i with
  | some (.array _ el)=>kN P e (.inl el)
  | _=>false)
 | _,_=>false
def dep:Ty->Nat
 | .arr _ e=>dep e+1
 | .pair a b=>max (dep a+1) (dep b)
 | _=>1
def OM (P:Program) (k:Ty) (i:TypeId):Bool:=isAgg k&&k.gW&&k.flat&&kN P k (.inl i)&&Nat.ble (dep k) 9000
def Mp (P:Program) (v:Ty) (i:TypeId):Bool:=match P.info? i with
 | some inf=>(match inf.zero with
  | some (.agg _)=>isAgg v
  | some _=>!isAgg v
  | none=>false)
 | none=>false
def aC (P:Program):Ty->Sum TypeId (List Field×Nat)->Bool
 | .int k,.inl i=>kW P (.int k) i&&(match P.underlying i with | some (.int k')=>decide (k=k') | _=>false)
 | .bool,.inl i=>kW P .bool i&&(match P.underlying i with | some .bool=>true | _=>false)
 | .str,.inl i=>kW P .str i&&(match P.underlying i with | some .string=>true | _=>false)
 | .unit,.inl i=>kW P .unit i&&(match P.underlying i with | some (.struct fs)=>fs.toList.isEmpty | _=>false)
 | .unit,.inr (fs,_)=>fs.isEmpty
 | .pair a b,.inl i=>kW P (.pair a b) i&&(match P.underlying i with
  | some (.struct fs)=>(match fs.toList with
   | f::r=>Nat.beq f.offset 0&&Nat.ble 1 a.sz&&aC P a (.inl f.type)&&aC P b (.inr (r,a.sz))
   | []=>false)
  | _=>false)
 | .pair a b,.inr (f::r,off)=>Nat.beq f.offset off&&Nat.ble 1 a.sz&&aC P a (.inl f.type)&&aC P b (.inr (r,off+a.sz))
 | .arr n e,.inl i=>kW P (.arr n e) i&&e.flat&&(match P.underlying i with | some (.array n' el)=>Nat.beq n n'&&Nat.ble 1 e.sz&&aC P e (.inl el) | _=>false)
 | .ae e,.inl i=>kW P (.ae e) i&&(match P.underlying i with | some (.slice el)=>Nat.ble 1 e.sz&&aC P e (.inl el) | _=>false)
 | .ptr e,.inl i=>kW P (.ptr e) i&&(match P.underlying i with | some (.pointer el)=>aC P e (.inl el) | _=>false)
 | .fn,.inl i=>kW P .fn i&&(match P.underlying i with | some (.func ..)=>true | _=>false)
 | .map k v,.inl i=>kW P (.map k v) i&&(match P.underlying i with | some (.map ki vi)=>aC P k (.inl ki)&&aC P v (.inl vi)&&OM P k ki&&Mp P v vi | _=>false)
 | _,_=>false
section
variable {P:Program} {w:World} {A:Cells}
theorem yr {t:Ty} {i:TypeId} (h:kW P t i=true):∃ inf z,P.info? i=some inf/\inf.size=t.sz/\inf.bytes<=512/\inf.zero=some z/\z.cells.size=t.sz/\∀ L,zc t=some L->z.cells.toList=L:=by
 grind [kW,Nat.beq_eq,Nat.ble_eq,Gq]
theorem eW {t:Ty} {i:TypeId} (h:kW P t i=true):∃ inf,P.info? i=some inf/\inf.size=t.sz/\inf.bytes<=512/\∀ L,zc t=some L->∃ z,inf.zero=some z/\z.cells.toList=L:=by
 grind [yr]
theorem gq {t:Ty} {i:TypeId} (h:aC P t (.inl i)=true):kW P t i=true:=by
 cases t <;> simp only[aC,Bool.and_eq_true] at h <;> first | exact h.1 | exact h.1.1 | cases h
theorem rE {t:Ty} {i:TypeId} (h:aC P t (.inl i)=true):∃ d,P.underlying i=some d/\(isAgg t=true->(∃ fs,d=.struct fs)\/∃ n e,d=.array n e)/\(isAgg t=false->(∀ fs,d≠.struct fs)/\∀ n e,d≠.array n e):=by
 cases hd:P.underlying i with
 | none=>cases t <;> simp[aC,hd] at h
 | some d=>
  refine ⟨d,rfl,?_,?_⟩
  ·intro ha
   cases t <;> simp only[isAgg] at ha <;> first | cases ha | skip
   all_goals grind [aC]
  ·intro ha
   cases t <;> simp only[isAgg] at ha <;> first | cases ha | skip
   all_goals grind [aC]
theorem wS {t:Ty} {i:TypeId} (h:aC P t (.inl i)=true):(Go.isAgg i).run P w=.ok (isAgg t) w:=by
 obtain ⟨d,h1,U,h3⟩:=rE h
 unfold Go.isAgg
 simp only[Sem.run_bind,run_underlying h1,Result.andThen_ok]
 cases ht:isAgg t with
 | true=>
  rcases U ht with ⟨fs,rfl⟩ | ⟨n,e,rfl⟩ <;> rfl
 | false=>
  simp_all
theorem run_sizeOf {t:Ty} {i:TypeId} (h:aC P t (.inl i)=true):(Go.sizeOf i).run P w=.ok t.sz w:=by
 obtain ⟨inf,h1,U,_⟩:=eW (gq h)
 simp[Go.sizeOf,typeInfo,h1,U]
theorem DD {t:Ty} (h:isAgg t=false):t.sz=1:=by cases t <;> simp_all [isAgg,Ty.sz]
theorem jE (b o n:Nat):(⟨b,o,none⟩:Addr).add n=⟨b,o+n,none⟩:=by grind [Addr.add]
theorem qv {t:Ty} {i:TypeId} (h:aC P t (.inl i)=true) {b o:Nat} {L:List Value} (hL:Has w b o L) (hl:L.length=t.sz) (jN:∀ u ∈ L,u.oneCell'=true):(loadVar i ⟨b,o,none⟩).run P w=.ok (bq t L) w:=by
 unfold loadVar
 simp only[Sem.run_bind,wS h,Result.andThen_ok]
 cases ht:isAgg t with
 | true=>
  have:=run_loadCells_list (P:=P) w ⟨b,o,none⟩ L (λj v hj=>by rw[jE];exact nG (hL j v hj) (jN v (List.mem_of_getElem? hj)))
  rw[hl] at this
  simp only[if_true,Sem.run_bind,run_sizeOf h,Result.andThen_ok,this,Sem.run_pure,bq,ht]
 | false=>
  have hs:=DD ht
  match L,hl with
  | [y],_=>
   have:=nG (hL 0 y rfl) (jN y (by simp))
   grind [run_load,bq]
  | [],hl=>grind
  | _::_::_,hl=>grind
theorem tr:∀ (t:Ty) {L:List Value} {i:Sum TypeId (List Field×Nat)},zc t=some L->aC P t i=true->ah P w A t (ak t) [] t.zero L (λ_ _=>0)/\Ro P w A t t.zero L/\L.length=t.sz:=by
 intro t
 induction t with
 | int k=>intro L i h _;injection h with h;subst h;cases k <;> exact ⟨rfl,rfl,rfl⟩
 | bool=>intro L i h _;injection h with h;subst h;exact ⟨rfl,rfl,rfl⟩
 | str=>intro L i h _;injection h with h;subst h;exact ⟨rfl,rfl,rfl⟩
 | unit=>intro L i h _;injection h with h;subst h;exact ⟨rfl,rfl,rfl⟩
 | pair a b fQ fI=>
  intro L i h hl
  simp only[zc] at h
  split at h
  ·rename_i x y hx hy
   injection h with h;subst h
   have:∃ ia ib,aC P a ia=true/\aC P b ib=true:=by
    cases i with
    | inl i=>
     grind [aC]
    | inr fo=>
     obtain ⟨fs,off⟩:=fo
     cases fs <;> grind [aC]
   obtain ⟨ia,ib,h1,U⟩:=this
   obtain ⟨ra,oa,la⟩:=fQ hx h1
   obtain ⟨rb,ob,lb⟩:=fI hy U
   have e1:(x++y).take a.sz=x:=List.take_left' la
   have e2:(x++y).drop a.sz=y:=List.drop_left' la
   refine ⟨⟨rfl,λ_ _=>0,λ_ _=>0,λ_ _=>Nat.le_refl _,by rw[e1];exact ra,by rw[e2];exact rb⟩,⟨by rw[e1];exact oa,by rw[e2];exact ob⟩,by grind [Ty.sz]⟩
  ·cases h
 | arr n e ih=>
  intro L i h hl
  simp only[zc] at h
  split at h
  ·rename_i z hz
   injection h with h;subst h
   have:e.flat=true/\∃ ie,aC P e ie=true:=by
    grind [aC]
   obtain ⟨hf,ie,he⟩:=this
   obtain ⟨re,oe,le⟩:=ih hz he
   have hlen:∀ n,((List.replicate n z).flatten).length=n*e.sz:=λn=>by
    simp_all
   have nl:Ro P w A (.arr n e) (Ty.arr n e).zero ((List.replicate n z).flatten):=by
    refine ⟨hf,by simp[Ty.zero],hlen n,λi x hx=>?_⟩
    have hi:i < n:=by grind [Ty.zero]
    have hx:x=e.zero:=by
     grind [Ty.zero]
    subst hx
    have:(((List.replicate n z).flatten).drop (i*e.sz)).take e.sz=z:=by
     have e1:n=i+(1+(n - i - 1)):=by omega
     rw[e1,<- List.replicate_append_replicate,<- List.replicate_append_replicate,List.flatten_append,List.flatten_append]
     grind
    grind
   exact ⟨⟨rfl,nl⟩,nl,hlen n⟩
  ·cases h
 | ae e ih=>
  intro L i h _
  injection h with h;subst h
  refine ⟨?_,⟨none,0,rfl,Nat.le_refl _,λ_=>rfl,λad ey=>by cases ey⟩,rfl⟩
  simp only[ah,hole,List.any_nil,Bool.false_eq_true,if_false,ak,m_,Md.own,if_true]
  exact ⟨none,0,rfl,Nat.le_refl _,by simp[maxLen],λ_=>rfl,λad ey=>by cases ey⟩
 | ptr e ih=>grind [zc]
 | fn=>grind [zc]
 | map k v=>grind [zc]
theorem rf {t:Ty} {i:TypeId} (h:aC P t (.inl i)=true) {L:List Value} (hz:zc t=some L):∃ z,(zeroValue i).run P w=.ok z w/\z.cells.toList=L:=by
 obtain ⟨inf,h1,U,_,h3⟩:=eW (gq h)
 obtain ⟨z,h4,h5⟩:=h3 L hz
 simp_all [zeroValue,typeInfo]
end
end OT
