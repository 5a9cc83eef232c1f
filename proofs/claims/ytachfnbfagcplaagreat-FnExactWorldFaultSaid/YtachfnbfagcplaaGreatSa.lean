/- The proof's parts, merged: The pure interpreter of the model s code over owned trees  definitions alone, nothing is claimed here.. No conditions but those that each states. -/
import GoSem.Core.Code
import GoSem.Core.View
import Derived.Laws.IdiomCopy
import Derived.Laws.Cells
import Derived.Laws.AppendOwn
import Derived.Calls
namespace OT
open Go
inductive Ty where
 | int (k:IntKind)
 | bool
 | str
 | unit
 | pair (a b:Ty)
 | arr (n:Nat) (e:Ty)
 | U (e:Ty)
 | ptr (e:Ty)
 | fn
 | map (k v:Ty)
 deriving DecidableEq
@[reducible] def tc:IntKind->Type
 | .u8=>UInt8
 | _=>Int
@[reducible] def Ty.den:Ty->Type
 | .int k=>tc k
 | .bool=>Bool
 | .str=>List UInt8
 | .unit=>Unit
 | .pair a b=>a.den×b.den
 | .arr _ e=>List e.den
 | .U e=>List e.den
 | .ptr e=>e.den
 | .fn=>Nat×Int
 | .map k v=>List (k.den×v.den)
def Ty.sz:Ty->Nat
 | .unit=>0
 | .pair a b=>a.sz+b.sz
 | .arr n e=>n*e.sz
 | _=>1
def Ty.flat:Ty->Bool
 | .pair a b=>a.flat&&b.flat
 | .arr _ e=>e.flat
 | .U _ | .ptr _ | .map _ _=>false
 | _=>true
def jD:(k:IntKind)->tc k->Int
 | .u8,n=>(n.toNat:Int)
 | .i8,n=>n
 | .i16,n=>n
 | .i32,n=>n
 | .i64,n=>n
 | .u16,n=>n
 | .u32,n=>n
 | .u64,n=>n
def uZ:(k:IntKind)->Int->tc k
 | .u8,n=>UInt8.ofInt n
 | .i8,n=>IntKind.wrap .i8 n
 | .i16,n=>IntKind.wrap .i16 n
 | .i32,n=>IntKind.wrap .i32 n
 | .i64,n=>IntKind.wrap .i64 n
 | .u16,n=>IntKind.wrap .u16 n
 | .u32,n=>IntKind.wrap .u32 n
 | .u64,n=>IntKind.wrap .u64 n
def Lm:(k:IntKind)->Int->tc k
 | .u8,n=>UInt8.ofInt n
 | .i8,n=>n
 | .i16,n=>n
 | .i32,n=>n
 | .i64,n=>n
 | .u16,n=>n
 | .u32,n=>n
 | .u64,n=>n
def Ty.zero:(t:Ty)->t.den
 | .int k=>Lm k 0
 | .bool=>false
 | .str=>[]
 | .unit=>()
 | .pair a b=>(a.zero,b.zero)
 | .arr n e=>List.replicate n e.zero
 | .U _=>[]
 | .ptr e=>e.zero
 | .fn=>(0,0)
 | .map _ _=>[]
def Ty.oL:Ty->Bool
 | .pair a b=>a.oL&&b.oL
 | .arr _ e=>e.oL
 | .ptr _ | .fn | .map _ _=>false
 | _=>true
def Ty.eq:(t:Ty)->t.den->t.den->Bool
 | .int .u8,a,b=>a == b
 | .int .i8,a,b=>decide (a=b)
 | .int .i16,a,b=>decide (a=b)
 | .int .i32,a,b=>decide (a=b)
 | .int .i64,a,b=>decide (a=b)
 | .int .u16,a,b=>decide (a=b)
 | .int .u32,a,b=>decide (a=b)
 | .int .u64,a,b=>decide (a=b)
 | .bool,a,b=>a == b
 | .str,a,b=>decide (a=b)
 | .pair x y,a,b=>x.eq a.1 b.1&&y.eq a.2 b.2
 | .arr _ e,a,b=>(a.zip b).all fun p=>e.eq p.1 p.2
 | _,_,_=>true
def Ty.ii:Ty->Bool
 | .int _ | .bool | .str | .unit=>true
 | .pair a b=>a.ii&&b.ii
 | .arr _ e=>e.ii
 | _=>false
def Ty.lL:Ty->Bool
 | .pair a b=>a.lL&&b.lL
 | .arr _ e | .U e | .ptr e=>e.lL
 | .map k v=>k.lL&&v.lL
 | .fn=>false
 | _=>true
inductive Md where
 | leaf
 | pair (a b:Md)
 | arr (e:Md)
 | U (own:Bool) (e:Md)
 | ptr (own:Bool) (e:Md)
 deriving DecidableEq
def ng (own:Bool):Ty->Md
 | .pair a b=>.pair (ng own a) (ng own b)
 | .arr _ e=>.arr (ng own e)
 | .U e=>.U own (ng own e)
 | .ptr e=>.ptr own (ng own e)
 | .map _ _=>.U own .leaf
 | _=>.leaf
abbrev av:=ng false
abbrev au:=ng true
def Md.l:Md->Md
 | .pair a _=>a
 | _=>.leaf
def Md.r:Md->Md
 | .pair _ b=>b
 | _=>.leaf
def Md.e:Md->Md
 | .arr e | .U _ e | .ptr _ e=>e
 | _=>.leaf
def Md.own:Md->Bool
 | .U o _ | .ptr o _=>o
 | _=>false
def Md.ee:Md->Bool
 | .leaf=>true
 | .pair a b=>a.ee&&b.ee
 | .arr e=>e.ee
 | .U o e=>!o&&e.ee
 | .ptr o e=>!o&&e.ee
def fits:Md->Md->Bool
 | .leaf,.leaf=>true
 | .pair a b,.pair c d=>fits a c&&fits b d
 | .arr a,.arr b=>fits a b
 | .U o a,.U o' b=>(o||!o')&&(o'||b.ee)&&fits a b
 | .ptr o a,.ptr o' b=>(o||!o')&&(o'||b.ee)&&fits a b
 | _,_=>false
inductive Step where
 | fst
 | snd
 | idx (i:Nat)
 | jr (i:Nat)
abbrev Path:=List Step
def bq:Path->Nat
 | []=>0
 | .idx _::p=>bq p+1
 | _::p=>bq p
structure yo where
 t:Ty
 m:Md
 v:t.den
inductive Slot where
 | dead
 | o4
 | val (t:Ty) (v:t.den)
 | cp (t:Ty) (v:t.den)
 | own (t:Ty) (m:Md) (H:List Path) (v:t.den)
 | box (t:Ty) (m:Md) (H:List Path) (v:t.den)
 | ref (r:Nat) (p:Path) (snap:List Nat)
 | sub (r:Nat) (p:Path) (snap:List Nat) (lo hi:Nat)
 | ptr (r:Nat) (p:Path) (snap:List Nat)
 | li (xs:List yo)
structure St where
 n:Nat
 sl:List (Nat×Slot)
 vr:List (Nat×List Nat)
 aw:List (Nat×Nat×Bool)
 gh:List (Nat×Nat×Path×List Nat):=[]
def gm {α:Type}:List (Nat×α)->Nat->Option α
 | [],_=>none
 | (k,x)::l,i=>if Nat.beq k i then some x else gm l i
def St.get (σ:St) (i:Nat):Slot:=if Nat.blt i σ.n then (match gm σ.sl i with | some s=>s | none=>.dead) else .dead
def St.eO (σ:St) (i:Nat):List Nat:=match gm σ.vr i with | some v=>v | none=>[0,0,0,0,0]
def lM:List Nat->List Nat:=fun v=>v.map (·+1)
def mL (d:Nat):List Nat->List Nat
 | [b,x,y,z,w]=>match d with
  | 0=>[b,x+1,y,z,w+1]
  | 1=>[b,x,y+1,z,w+1]
  | 2=>[b,x,y,z+1,w+1]
  | _=>[b+1,x,y,z,w+1]
 | v=>lM v
def o5:List Nat->List Nat
 | [b,x,y,z,w]=>[b,x,y,z,w+1]
 | v=>lM v
def St.fb (σ:St) (i:Nat) (f:List Nat->List Nat):St:={ σ with vr:=(i,f (σ.eO i))::σ.vr }
def rt:List (Nat×Nat×Bool)->Nat->List (Nat×Nat×Bool)
 | [],_=>[]
 | (k,b)::l,i=>if Nat.beq k i then rt l i else (k,b)::rt l i
def BP:List (Nat×Nat×Path×List Nat)->Nat->List (Nat×Nat×Path×List Nat)
 | [],_=>[]
 | (d,x)::l,i=>if Nat.beq d i then BP l i else (d,x)::BP l i
def ru:List (Nat×Nat×Bool)->Nat->List (Nat×Nat×Bool)
 | [],_=>[]
 | (k,n,b)::l,i=>if Nat.beq k i&&b then ru l i else (k,n,b)::ru l i
def td:List (Nat×Nat×Bool)->Nat->Nat->Bool->Bool
 | [],_,_,_=>false
 | (k,n,b)::l,i,j,c=>(Nat.beq k i&&Nat.beq n j&&(b == c))||td l i j c
def tK:List (Nat×Nat×Bool)->Nat->Bool
 | [],_=>false
 | (k,_,b)::l,i=>(Nat.beq k i&&!b)||tK l i
def yp:List (Nat×Nat×Bool)->Nat->Option Nat
 | [],_=>none
 | (k,n,b)::l,i=>if Nat.beq k i&&b then some n else yp l i
def St.put (σ:St) (i:Nat) (s:Slot):St:={ n:=σ.n,sl:=(i,s)::σ.sl,vr:=(i,lM (σ.eO i))::σ.vr,aw:=rt σ.aw i,gh:=BP σ.gh i }
def St.head (σ:St) (r d:Nat):St:=match d with
 | 0=>{ σ with aw:=ru σ.aw r }
 | _=>σ
def St.BQ (σ:St) (i:Nat) (s:Slot):St:={ σ with sl:=(i,s)::σ.sl }
def St.aS (σ:St) (d:Option Tmp) (s:Slot):St:=match d with
 | some i=>σ.put i s
 | none=>σ
def preB:List Nat->List Nat->Bool
 | [],_=>true
 | a::x,b::y=>Nat.beq a b&&preB x y
 | _::_,[]=>false
section
variable {R:Type}
def dV (t t':Ty) (v:t.den) (K:t'.den->Option R):Option R:=
 if h:t=t' then K (h ▸ v) else none
def n9:Path->Option Path
 | .fst::p=>some p
 | _=>none
def n_:Path->Option Path
 | .snd::p=>some p
 | _=>none
def pH (H:List Path) (i:Nat) (K:List Path->Option R):Option R:=
 match H with
 | []=>K []
 | [.idx j::q]=>if i=j then K [q] else none
 | _=>none
def ij:(p:Path)->(t:Ty)->Md->List Path->t.den->((t':Ty)->Md->List Path->t'.den->Option R)->Option R
 | [],t,m,H,v,K=>K t m H v
 | .fst::p,.pair a _,m,H,v,K=>if H.any (·.isEmpty) then none else ij p a m.l (H.filterMap n9) v.1 K
 | .snd::p,.pair _ b,m,H,v,K=>if H.any (·.isEmpty) then none else ij p b m.r (H.filterMap n_) v.2 K
 | .idx i::p,.U e,m,H,v,K=>pH H i fun H'=>(v[i]?).bind fun x=>ij p e m.e H' x K
 | .jr i::p,.arr _ e,m,H,v,K=>if H.isEmpty then (v[i]?).bind fun x=>ij p e m.e [] x K else none
 | _,_,_,_,_,_=>none
def kU:(p:Path)->(t:Ty)->Md->List Path->t.den ->
    ((t':Ty)->Md->List Path->t'.den->(Md->List Path->t'.den->Option R)->Option R)->(Md->List Path->t.den->Option R)->Option R
 | [],t,m,H,v,f,K=>f t m H v K
 | .fst::p,.pair a _,m,H,v,f,K=>
  if H.any (·.isEmpty) then none else
  kU p a m.l (H.filterMap n9) v.1 f fun m' H' x=>K (.pair m' m.r) (H'.map (.fst::·)++(H.filterMap n_).map (.snd::·)) (x,v.2)
 | .snd::p,.pair _ b,m,H,v,f,K=>
  if H.any (·.isEmpty) then none else
  kU p b m.r (H.filterMap n_) v.2 f fun m' H' x=>K (.pair m.l m') ((H.filterMap n9).map (.fst::·)++H'.map (.snd::·)) (v.1,x)
 | .idx i::p,.U e,m,H,v,f,K=>
  if m.own then
   pH H i fun H0=>(v[i]?).bind fun x=>
    kU p e m.e H0 x f fun m' H' y=>
     if m'=m.e then K (.U true m.e) (H'.map (.idx i::·)) (v.set i y)
     else if H'.isEmpty then K (.U true (av e)) [] (v.set i y) else none
  else none
 | .jr i::p,.arr _ e,m,H,v,f,K=>
  if H.isEmpty then (v[i]?).bind fun x=>
   kU p e m.e [] x f fun _ H' y=>if H'.isEmpty then K m [] (v.set i y) else none
  else none
 | _,_,_,_,_,_,_=>none
def sS:Path->Ty->Option Ty
 | [],t=>some t
 | .fst::p,.pair a _=>sS p a
 | .snd::p,.pair _ b=>sS p b
 | .idx _::p,.U e=>sS p e
 | .jr _::p,.arr _ e=>sS p e
 | _,_=>none
def o6 (σ:St) (r:Nat) (K:(t:Ty)->Md->List Path->t.den->Option R):Option R:=
 match σ.get r with
 | .own t m H v | .box t m H v=>K t m H v
 | _=>none
def St.dT (σ:St) (r:Nat) (t:Ty) (m:Md) (H:List Path) (v:t.den):St:=
 match σ.get r with
 | .box ..=>σ.BQ r (.box t m H v)
 | _=>σ.BQ r (.own t m H v)
def St.ok (σ:St) (r:Nat) (snap:List Nat):Bool:=preB snap (σ.eO r)
def jY (σ:St) (r:Nat) (p:Path) (K:(t:Ty)->Md->List Path->t.den->Option R):Option R:=
 o6 σ r fun t m H v=>ij p t m H v K
def nX (σ:St) (r:Nat) (p:Path) (t:Ty) (m:Md) (v:t.den) (K:St->Option R):Option R:=
 o6 σ r fun t0 m0 H0 v0=>
  kU p t0 m0 H0 v0 (fun t' _ _ _ k=>dV t t' v fun x=>k m [] x) fun m' H' v'=>
   K (((σ.dT r t0 m' H' v').fb r (if t.flat then o5 else mL (bq p))).head r (bq p))
def l6:Ty->List Path
 | .pair a b=>(l6 a).map (.fst::·)++(l6 b).map (.snd::·)
 | .U _ | .ptr _ | .map _ _=>[[]]
 | .arr _ e=>if e.flat then [] else [[]]
 | _=>[]
def qM (σ:St) (r:Nat) (p:Path) (K:St->Option R):Option R:=
 o6 σ r fun t0 m0 H0 v0=>
  kU p t0 m0 H0 v0 (fun t' m' _ x k=>k m' (l6 t') x) fun m' H' v'=>
   K (((σ.dT r t0 m' H' v').fb r (mL (bq p))).head r (bq p))
def rm (σ:St) (r:Nat) (p:Path) (K:St->Option R):Option R:=
 o6 σ r fun t0 m0 H0 v0=>
  kU p t0 m0 H0 v0 (fun t' m H x k=>if H.isEmpty&&fits m (av t') then k (av t') [] x else none) fun m' H' v'=>
   K (σ.dT r t0 m' H' v')
def oM (σ:St) (r:Nat) (p:Path) (m1:Md) (K:St->Option R):Option R:=
 o6 σ r fun t0 m0 H0 v0=>
  kU p t0 m0 H0 v0 (fun _ m H x k=>if H.isEmpty&&fits m m1 then k m1 [] x else none) fun m' H' v'=>
   K (σ.dT r t0 m' H' v')
def oN (σ:St) (r:Nat) (p:Path):List Nat:=(σ.eO r).take (1+bq p)
def oO (σ:St) (r:Nat) (p:Path) (t:Ty):List Nat:=match t with
 | .U _ | .map _ _=>(σ.eO r).take (2+bq p)
 | _=>σ.eO r
def qh:Value->Slot
 | .int .u8 n=>if ((UInt8.ofInt n).toNat:Int)=n then .val (.int .u8) (UInt8.ofInt n) else .dead
 | .int .i64 n=>.val (.int .i64) n
 | .int .u64 n=>.val (.int .u64) n
 | .int .u32 n=>.val (.int .u32) n
 | .int .i32 n=>.val (.int .i32) n
 | .bool b=>.val .bool b
 | .string s=>.val .str s.data.toList
 | .slice none 0 0=>.o4
 | _=>.dead
def bB (σ:St):Operand->Slot
 | .tmp i=>match σ.get i with
  | .own t _ _ _=>.ref i [] (oO σ i [] t)
  | .box _ _ _ _=>.ptr i [] (oN σ i [])
  | s=>s
 | .const v=>qh v
 | .func f=>.val .fn (f,0)
 | .global _=>.dead
def gN (σ:St) (s:Slot) (mv:Bool) (t:Ty) (K:Md->t.den->St->Option R):Option R:=
 match s with
 | .val t' v=>dV t' t v fun v=>K (av t) v σ
 | .cp t' v=>dV (.ptr t') t v fun v=>K (av t) v σ
 | .o4=>match t with
  | .U e=>K (au (.U e)) [] σ
  | _=>none
 | .ref r p snap=>
  if σ.ok r snap then
   jY σ r p fun t' m H v=>
    if H.isEmpty then dV t' t v fun v=>
     if m=av t then K m v σ
     else if mv then qM σ r p fun σ=>K m v σ
     else rm σ r p fun σ=>K (av t) v σ
    else none
  else none
 | .sub r p snap lo hi=>
  if σ.ok r snap then
   jY σ r p fun t' m H v=>
    if H.isEmpty then dV t' t v fun v=>match t,v with
     | .U e,v=>
      if m=av (.U e) then K m ((v.take hi).drop lo) σ
      else if mv then (if lo=0 then qM σ r p fun σ=>K m ((v.take hi).drop lo) σ else none)
      else rm σ r p fun σ=>K (av (.U e)) ((v.take hi).drop lo) σ
     | _,_=>none
    else none
  else none
 | .ptr r [] snap=>
  if σ.ok r snap then
   match σ.get r with
   | .box t' m H v=>if H.isEmpty&&!tK σ.aw r then dV (.ptr t') t v fun v=>K (.ptr true m) v (σ.put r .dead) else none
   | _=>none
  else none
 | _=>none
def ld (σ:St) (s:Slot) (t:Ty) (K:t.den->Option R):Option R:=
 match s with
 | .val t' v=>dV t' t v K
 | .cp t' v=>dV (.ptr t') t v K
 | .o4=>match t with
  | .U _=>K []
  | _=>none
 | .ref r p snap=>
  if σ.ok r snap then jY σ r p fun t' _ H v=>if H.isEmpty then dV t' t v K else none
  else none
 | .sub r p snap lo hi=>
  if σ.ok r snap then
   jY σ r p fun t' _ H v=>if H.isEmpty then dV t' t v fun v=>match t,v with
    | .U _,v=>K ((v.take hi).drop lo)
    | _,_=>none
   else none
  else none
 | .ptr r p snap=>
  if σ.ok r snap then jY σ r p fun t' _ H v=>if H.isEmpty then dV (.ptr t') t v K else none
  else none
 | _=>none
def oB (s:Slot) (K:Int->Option R):Option R:=
 match s with
 | .val (.int k) n=>K (jD k n)
 | _=>none
def yq (s:Slot) (K:Bool->Option R):Option R:=
 match s with
 | .val .bool b=>K b
 | _=>none
def laid (t:Ty) (m:Md) (v:t.den):Slot:=
 if m=av t then .val t v else
 match t,m,v with
 | .ptr e,.ptr true m',v=>.box e m' [] v
 | t,m,v=>.own t m [] v
end
end OT
namespace OT
open Go
noncomputable section
inductive PM where
 | ro
 | jw (m:Md)
 | gY (m:Md)
 | mf (m:Md)
 | ku (m:Md)
 | fix (f:Nat)
 deriving DecidableEq
def bM:List Ty->Ty
 | []=>.unit
 | t::ts=>.pair t (bM ts)
def eU:List (PM×Ty)->List Ty
 | []=>[]
 | (.jw _,t)::ps=>t::eU ps
 | (.gY _,t)::ps=>t::eU ps
 | _::ps=>eU ps
structure ni where
 cap:Bool:=false
 ps:List (PM×Ty)
 rs:List (Ty×Md)
 F:(bM (ps.map (·.2))).den->Option (bM (rs.map (·.1)++eU ps)).den
structure Env where
 TI:Nat->Option Ty
 G:Nat->Option ni
 fz:List (Nat×Nat×Nat):=[]
 lv:List (Nat×List Nat):=[]
 lx:List (Nat×List Nat):=[]
 lf:List (Nat×List (Nat×Md)):=[]
 od:List (Nat×List Nat):=[]
 ar:List (Nat×List Nat):=[]
 bx:List (Nat×List Nat):=[]
 pd:List (Nat×List Nat):=[]
 er:List (Nat×List (Nat×Nat)):=[]
def M7:List (Nat×Nat×Nat)->Nat->Nat->Nat->Bool
 | [],_,_,_=>false
 | (a,b,c)::l,i,j,k=>(Nat.beq a i&&Nat.beq b j&&Nat.beq c k)||M7 l i j k
def bk:Nat:=274877906944
section
variable {R:Type}
def jJ (E:Env) (t:Nat) (K:Ty->Option R):Option R:=
 match E.TI t with
 | some t=>K t
 | none=>none
def ik:Nat->Path
 | 0=>[.fst]
 | n+1=>.snd::ik n
def m7:Nat->Ty->Option Ty
 | 0,.pair a _=>some a
 | n+1,.pair _ b=>m7 n b
 | _,_=>none
def F_:Nat->(t:Ty)->t.den->((t':Ty)->t'.den->Option R)->Option R
 | 0,.pair a _,v,K=>K a v.1
 | n+1,.pair _ b,v,K=>F_ n b v.2 K
 | _,_,_,_=>none
def BR (σ:St) (r:Nat):Option Ty:=
 match σ.get r with
 | .own t _ _ _ | .box t _ _ _=>some t
 | _=>none
def xE (σ:St) (r:Nat) (p:Path):Option Ty:=
 match BR σ r with
 | some t=>sS p t
 | none=>none
def yr (E:Env) (σ:St) (T:Nat) (a:Slot) (mv:Bool) (d:Option Tmp) (K:St->Option R):Option R:=
 jJ E T fun T=>
 match a with
 | .cp t v=>if t=T then K (σ.aS d (.val t v)) else none
 | .ptr r p snap=>
  if σ.ok r snap then
   jY σ r p fun t m H v=>
    if t=T then
     if t.flat then (if H.isEmpty then K (σ.aS d (.val t v)) else none)
     else if m=av t then (if H.isEmpty then K (σ.aS d (.val t v)) else none)
     else match mv with
      | false=>K (σ.aS d (.ref r p (oO σ r p t)))
      | true=>if H.isEmpty then qM σ r p fun σ=>K (σ.aS d (laid t m v)) else none
    else none
  else none
 | _=>none
def BS (E:Env) (σ:St) (T:Nat) (a x:Slot) (mv:Bool) (K:St->Option R):Option R:=
 jJ E T fun T=>
 match a with
 | .ptr r p snap=>
  if σ.ok r snap then
   if xE σ r p=some T then gN σ x mv T fun m v σ=>nX σ r p T m v K else none
  else none
 | _=>none
def tL (E:Env) (σ:St) (S:Nat) (x:Slot) (j:Nat) (d:Option Tmp) (K:St->Option R):Option R:=
 jJ E S fun S=>
 match x with
 | .cp t v=>if t=S then F_ j t v fun t' v'=>K (σ.aS d (.cp t' v')) else none
 | .ptr r p snap=>if σ.ok r snap then (if xE σ r p=some S then (if (m7 j S).isSome then K (σ.aS d (.ptr r (p++ik j) snap)) else none) else none) else none
 | _=>none
def zR (E:Env) (σ:St) (S:Nat) (x:Slot) (j:Nat) (d:Option Tmp) (K:St->Option R):Option R:=
 jJ E S fun S=>
 match x with
 | .val t v=>if t=S then F_ j t v fun t' v'=>K (σ.aS d (.val t' v')) else none
 | .ref r p snap=>
  if σ.ok r snap then
   if xE σ r p=some S then
    jY σ r (p++ik j) fun t m H v=>
     if t.flat||(m=av t) then (if H.isEmpty then K (σ.aS d (.val t v)) else none)
     else K (σ.aS d (.ref r (p++ik j) (oO σ r (p++ik j) t)))
   else none
  else none
 | _=>none
def HZ (n:Int) (len:Nat) (K:Nat->Option R):Option R:=
 if 0<=n/\n < (len:Int) then K n.toNat else none
def tM (E:Env) (σ:St) (T:Nat) (x ix:Slot) (d:Option Tmp) (K:St->Option R):Option R:=
 jJ E T fun T=>oB ix fun n=>
 match x with
 | .val (.U e) v=>if T=.U e then (if 0<=n then (v[n.toNat]?).bind fun y=>K (σ.aS d (.cp e y)) else none) else none
 | .cp (.arr m e) v=>if T=.arr m e then (if 0<=n then (v[n.toNat]?).bind fun y=>K (σ.aS d (.cp e y)) else none) else none
 | .ref r p snap=>
  if σ.ok r snap then
   jY σ r p fun t m H v=>
    if H.any (·.isEmpty) then none else
    if t=T then
     match t,v with
     | .U e,v=>
      if m.own then HZ n v.length fun i=>K (σ.aS d (.ptr r (p++[.idx i]) (oN σ r (p++[.idx i]))))
      else if 0<=n then (v[n.toNat]?).bind fun y=>K (σ.aS d (.cp e y)) else none
     | _,_=>none
    else none
  else none
 | .sub r p snap lo hi=>
  if σ.ok r snap then
   jY σ r p fun t _ H _=>if H.any (·.isEmpty) then none else if t=T then HZ n (hi - lo) fun i=>K (σ.aS d (.ptr r (p++[.idx (lo+i)]) (oN σ r (p++[.idx (lo+i)])))) else none
  else none
 | .ptr r p snap=>
  if σ.ok r snap then
   jY σ r p fun t _ _ v=>
    if t=T then
     match t,v with
     | .arr _ _,v=>HZ n v.length fun i=>K (σ.aS d (.ptr r (p++[.jr i]) snap))
     | _,_=>none
    else none
  else none
 | _=>none
def BT (E:Env) (σ:St) (T:Nat) (x ix:Slot) (d:Option Tmp) (K:St->Option R):Option R:=
 jJ E T fun T=>oB ix fun n=>
 match x with
 | .val .str s=>if T=.str then (if 0<=n then (s[n.toNat]?).bind fun c=>K (σ.aS d (.val (.int .u8) c)) else none) else none
 | .val (.arr m e) v=>if T=.arr m e then (if 0<=n then (v[n.toNat]?).bind fun y=>K (σ.aS d (.val e y)) else none) else none
 | _=>none
def mU (len:Nat) (lo hi:Option Slot) (K:Nat->Nat->Option R):Option R:=
 match lo,hi with
 | none,none=>K 0 len
 | some l,none=>oB l fun l=>if 0<=l/\l<=(len:Int) then K l.toNat len else none
 | none,some h=>oB h fun h=>if 0<=h/\h<=(len:Int) then K 0 h.toNat else none
 | some l,some h=>oB l fun l=>oB h fun h=>if 0<=l/\l<=h/\h<=(len:Int) then K l.toNat h.toNat else none
def BU (E:Env) (σ:St) (T:Nat) (x:Slot) (lo hi:Option Slot) (d:Option Tmp) (K:St->Option R):Option R:=
 jJ E T fun T=>
 match x with
 | .val .str s=>if T=.str then mU s.length lo hi fun l h=>K (σ.aS d (.val .str ((s.take h).drop l))) else none
 | .val (.U e) v=>if T=.U e then mU v.length lo hi fun l h=>K (σ.aS d (.val (.U e) ((v.take h).drop l))) else none
 | .ref r p snap=>
  if σ.ok r snap then
   jY σ r p fun t m H v=>
    if H.any (·.isEmpty) then none else
    if t=T then
     match t,v with
     | .U e,v=>
      if m.own then mU v.length lo hi fun l h=>K (σ.aS d (.sub r p snap l h))
      else mU v.length lo hi fun l h=>K (σ.aS d (.val (.U e) ((v.take h).drop l)))
     | _,_=>none
    else none
  else none
 | .sub r p snap l0 h0=>
  if σ.ok r snap then
   jY σ r p fun t _ H _=>if H.any (·.isEmpty) then none else if t=T then mU (h0 - l0) lo hi fun l h=>K (σ.aS d (.sub r p snap (l0+l) (l0+h))) else none
  else none
 | _=>none
def J1 (E:Env) (σ:St) (t:Nat) (x:Slot) (K:Nat->Option R):Option R:=
 jJ E t fun T=>
 match T with
 | .str=>match x with
  | .val .str s=>K s.length
  | _=>none
 | .U _=>match x with
  | .val (.U _) v=>K v.length
  | .o4=>K 0
  | .ref r p snap=>
   if σ.ok r snap then
    jY σ r p fun t _ H v=>if H.any (·.isEmpty) then none else match t,v with
     | .U _,v=>K v.length
     | _,_=>none
   else none
  | .sub r _ snap lo hi=>if σ.ok r snap then K (hi - lo) else none
  | _=>none
 | _=>none
def wM (σ:St) (x:Slot) (e:Ty) (mv:Bool) (K:Md->List e.den->St->Option R):Option R:=
 match x with
 | .val .str s=>dV (.U (.int .u8)) (.U e) s fun s=>K .leaf s σ
 | x=>gN σ x mv (.U e) fun m v σ=>K m.e v σ
def zS (E:Env) (σ:St) (T:Nat) (b:Slot) (x:Operand) (mv:Bool) (d:Option Tmp) (K:St->Option R):Option R:=
 jJ E T fun T=>
 match T with
 | .U e=>
  gN σ b true (.U e) fun m v σ=>
   if m.own then
    wM σ (bB σ x) e mv fun me y σ=>
     if v.length+y.length<=bk then
      K (σ.aS d (.own (.U e) (.U true (if me=m.e then me else av e)) [] (v++y)))
     else none
   else none
 | _=>none
def lN {α:Type} (v:List α) (lo n:Nat) (y:List α):List α:=v.take lo++y.take n++v.drop (lo+n)
def Ga (E:Env) (σ:St) (T:Nat) (b:Operand) (x:Slot) (d:Option Tmp) (K:St->Option R):Option R:=
 jJ E T fun T=>
 match T with
 | .U e=>
  if e.flat then
   wM σ x e true fun _ y σ=>
    match bB σ b with
    | .sub r p snap lo hi=>
     if σ.ok r snap then
      jY σ r p fun t m H v=>
       if m.own&&H.isEmpty then dV t (.U e) v fun v=>
        nX σ r p (.U e) m (lN v lo (min y.length (hi - lo)) y) fun σ'=>
         K (({ σ' with vr:=(σ.fb r o5).vr,aw:=σ.aw }).aS d (.val (.int .i64) ((min y.length (hi - lo):Nat):Int)))
       else none
     else none
    | .ref r p snap=>
     if σ.ok r snap then
      jY σ r p fun t m H v=>
       if m.own&&H.isEmpty then dV t (.U e) v fun v=>
        nX σ r p (.U e) m (lN v 0 (min y.length v.length) y) fun σ'=>
         K (({ σ' with vr:=(σ.fb r o5).vr,aw:=σ.aw }).aS d (.val (.int .i64) ((min y.length v.length:Nat):Int)))
       else none
     else none
    | _=>none
  else none
 | _=>none
def vn:Nat->(t:Ty)->Md->t.den->(t':Ty)->Md->t'.den->(Md->t.den->Option R)->Option R
 | 0,.pair a _,m,v,t',m',x,K=>dV t' a x fun x=>K (.pair m' m.r) (x,v.2)
 | n+1,.pair _ b,m,v,t',m',x,K=>vn n b m.r v.2 t' m' x fun RJ y=>K (.pair m.l RJ) (v.1,y)
 | _,_,_,_,_,_,_,_=>none
def vo (E:Env) (σ:St) (t:Ty) (fz:Nat->Bool):List (Nat×Operand)->Nat->Md->t.den->(Md->t.den->St->Option R)->Option R
 | [],_,m,v,K=>K m v σ
 | (j,x)::ps,n,m,v,K=>
  match m7 j t with
  | some t'=>gN σ (bB σ x) (!fz n) t' fun m' y σ'=>vn j t m v t' m' y fun m v=>vo E σ' t fz ps (n+1) m v K
  | none=>none
def xF (σ:St) (e:Ty) (fz:Nat->Bool):List (Nat×Operand)->Nat->Md->List e.den->(Md->List e.den->St->Option R)->Option R
 | [],_,m,v,K=>K m v σ
 | (j,x)::ps,n,m,v,K=>
  if Nat.beq j n then
   gN σ (bB σ x) (!fz n) e fun m' y σ'=>xF σ' e fz ps (n+1) (if m'=m then m else av e) (v++[y]) K
  else none
def BV (σ:St) (e:Ty) (fz:Nat->Bool):List (Nat×Operand)->Nat->List e.den->(List e.den->St->Option R)->Option R
 | [],_,v,K=>K v σ
 | (j,x)::ps,n,v,K=>
  gN σ (bB σ x) (!fz n) e fun _ y σ'=>if j < v.length then BV σ' e fz ps (n+1) (v.set j y) K else none
def BW (op:BinOp) (k:IntKind) (a b:Int) (K:(t:Ty)->t.den->Option R):Option R:=
 match op with
 | .add=>K (.int k) (uZ k (a+b))
 | .sub=>K (.int k) (uZ k (a - b))
 | .mul=>K (.int k) (uZ k (a*b))
 | .quo=>if b=0 then none else K (.int k) (uZ k (a.tdiv b))
 | .rem=>if b=0 then none else K (.int k) (Lm k (a.tmod b))
 | .and=>K (.int k) (uZ k ((BitVec.ofInt k.bits a &&& BitVec.ofInt k.bits b).toNat:Int))
 | .or=>K (.int k) (uZ k ((BitVec.ofInt k.bits a ||| BitVec.ofInt k.bits b).toNat:Int))
 | .xor=>K (.int k) (uZ k ((BitVec.ofInt k.bits a ^^^ BitVec.ofInt k.bits b).toNat:Int))
 | .shl=>if b < 0 then none else K (.int k) (uZ k (a*2 ^ (min b.toNat k.bits)))
 | .shr=>if b < 0 then none else K (.int k) (Lm k (a.fdiv (2 ^ (min b.toNat k.bits))))
 | .eql=>K .bool (decide (a=b))
 | .neq=>K .bool (!decide (a=b))
 | .lss=>K .bool (decide (a < b))
 | .leq=>K .bool (decide (a<=b))
 | .gtr=>K .bool (decide (b < a))
 | .geq=>K .bool (decide (b<=a))
 | _=>none
def J2 (op:BinOp) (a b:List UInt8) (K:(t:Ty)->t.den->Option R):Option R:=
 match op with
 | .add=>if a.length+b.length<=bk then K .str (a++b) else none
 | .eql=>K .bool (decide (a=b))
 | .neq=>K .bool (!decide (a=b))
 | _=>none
def both (a b:Option R):Option R:=open Classical in if a=b then a else none
def vp {α:Type} (v:List α) (a b:Option R):Option R:=match v with
 | []=>both a b
 | _::_=>b
def M8 {α:Type} (op:BinOp) (v:List α) (K:(t:Ty)->t.den->Option R):Option R:=match op with
 | .eql=>vp v (K .bool true) (K .bool false)
 | .neq=>vp v (K .bool false) (K .bool true)
 | _=>none
def BX (E:Env) (tid:Nat) (op:BinOp) (x y:Slot) (K:(t:Ty)->t.den->Option R):Option R:=
 match x,y with
 | .val (.int k) a,.val (.int k') b=>
  match op with
  | .shl | .shr=>BW op k (jD k a) (jD k' b) K
  | _=>if k=k' then BW op k (jD k a) (jD k' b) K else none
 | .val .str a,.val .str b=>J2 op a b K
 | .val t a,.val t' b=>
  match op with
  | .eql=>if t.ii then jJ E tid fun T=>if T=t then dV t' t b fun b=>K .bool (t.eq a b) else none else none
  | .neq=>if t.ii then jJ E tid fun T=>if T=t then dV t' t b fun b=>K .bool (!t.eq a b) else none else none
  | _=>none
 | .val (.U e) v,.o4=>jJ E tid fun T=>if T=.U e then M8 op v K else none
 | _,_=>none
def tN (E:Env) (σ:St) (S T:Nat) (x:Slot) (d:Option Tmp) (K:St->Option R):Option R:=
 jJ E S fun S=>jJ E T fun T=>
 match T with
 | .int k=>match x with
  | .val (.int k') n=>if S=.int k' then K (σ.aS d (.val (.int k) (uZ k (jD k' n)))) else none
  | _=>none
 | .str=>match S with
  | .str=>match x with
   | .val .str s=>K (σ.aS d (.val .str s))
   | _=>none
  | .U (.int .u8)=>ld σ x (.U (.int .u8)) fun v=>K (σ.aS d (.val .str v))
  | _=>none
 | .U (.int .u8)=>match x with
  | .val .str s=>if S=.str then (if s.length<=bk then K (σ.aS d (.own (.U (.int .u8)) (au (.U (.int .u8))) [] s)) else none) else none
  | _=>none
 | _=>none
def BY (σ:St) (s:Slot) (t:Ty) (K:t.den->Option R):Option R:=
 match s with
 | .val t' v=>dV t' t v K
 | .cp t' v=>dV (.ptr t') t v K
 | .o4=>match t with
  | .U _=>K []
  | _=>none
 | .ref r p snap=>
  if σ.ok r snap then jY σ r p fun t' m H v=>if H.isEmpty&&(t'.flat||decide (m=av t')) then dV t' t v K else none
  else none
 | .sub r p snap lo hi=>
  if σ.ok r snap then
   jY σ r p fun t' m H v=>if H.isEmpty&&decide (m=av t') then dV t' t v fun v=>match t,v with
    | .U _,v=>K ((v.take hi).drop lo)
    | _,_=>none
   else none
  else none
 | _=>none
def rx (σ:St) (ow:Bool) (pm:PM) (t:Ty) (s:Slot) (K:t.den->Option (Nat×Path)->Option R):Option R:=
 match pm with
 | .ro=>match ow with
  | true=>ld σ s t fun v=>K v none
  | false=>BY σ s t fun v=>K v none
 | .fix f=>match s with
  | .val .fn v=>if Nat.beq v.1 f then dV .fn t v fun v=>K v none else none
  | _=>none
 | .jw m=>match s with
  | .ptr r p snap=>
   if σ.ok r snap then jY σ r p fun t' m' H v=>if H.isEmpty&&decide (m'=m) then dV t' t v fun v=>K v (some (r,p)) else none
   else none
  | _=>none
 | .mf m=>match s with
  | .ptr r p snap=>
   if σ.ok r snap then jY σ r p fun t' m' H v=>if H.isEmpty&&decide (m'=m) then dV t' t v fun v=>K v (some (r,p)) else none
   else none
  | _=>none
 | .gY m | .ku m=>match s with
  | .ref r p snap=>
   if σ.ok r snap then jY σ r p fun t' m' H v=>if H.isEmpty&&decide (m'=m) then dV t' t v fun v=>K v (some (r,p)) else none
   else none
  | _=>none
def gr:Slot->List Nat
 | .ref r _ _ | .sub r _ _ _ _ | .ptr r _ _=>[r]
 | _=>[]
def Bz (σ:St) (ow:Bool):(ps:List (PM×Ty))->List Slot->((bM (ps.map (·.2))).den->List (Nat×Path)->Option R)->Option R
 | [],[],K=>K () []
 | (pm,t)::ps,s::ss,K=>rx σ ow pm t s fun v w=>Bz σ ow ps ss fun vs ws=>K (v,vs) (match w with | some x=>x::ws | none=>ws)
 | _,_,_=>none
def lp (σ:St):List (PM×Ty)->List Operand->(St->Option R)->Option R
 | (.jw m,_)::ps,x::xs,K=>match bB σ x with
  | .ptr r p snap=>if σ.ok r snap then jY σ r p fun _ m' _ _=>if m'=m then lp σ ps xs K else oM σ r p m fun σ=>lp σ ps xs K else none
  | _=>none
 | (.mf m,_)::ps,x::xs,K=>match bB σ x with
  | .ptr r p snap=>if σ.ok r snap then jY σ r p fun _ m' _ _=>if m'=m then lp σ ps xs K else oM σ r p m fun σ=>lp σ ps xs K else none
  | _=>none
 | (.gY m,_)::ps,x::xs,K=>match bB σ x with
  | .ref r p snap=>if σ.ok r snap then jY σ r p fun _ m' _ _=>if m'=m then lp σ ps xs K else oM σ r p m fun σ=>lp σ ps xs K else none
  | _=>none
 | (.ku m,_)::ps,x::xs,K=>match bB σ x with
  | .ref r p snap=>if σ.ok r snap then jY σ r p fun _ m' _ _=>if m'=m then lp σ ps xs K else oM σ r p m fun σ=>lp σ ps xs K else none
  | _=>none
 | _::ps,_::xs,K=>lp σ ps xs K
 | _,_,K=>K σ
def M9 (x:Operand) (r:Nat) (t:Ty) (v:t.den) (σ:St):St:=match x with
 | .tmp i=>match Nat.beq i r||!Nat.blt i σ.n with
  | true=>σ
  | false=>(σ.put i .dead).put i (.cp t v)
 | _=>σ
def ry (σ:St):List (PM×Ty)->List Operand->(St->Option R)->Option R
 | (.ro,t)::ps,x::xs,K=>
  if t.flat then ry σ ps xs K else
  match bB σ x with
  | .ref r p snap=>if σ.ok r snap then rm σ r p fun σ=>ry σ ps xs K else none
  | .sub r p snap _ _=>if σ.ok r snap then rm σ r p fun σ=>ry σ ps xs K else none
  | .ptr r p snap=>if σ.ok r snap then
    match p,σ.get r with
    | [],.box t m H v=>if H.isEmpty&&fits m (av t) then ry (M9 x r t v ((σ.put r .dead).put r (.cp t v))) ps xs K else none
    | _,_=>none
   else none
  | _=>ry σ ps xs K
 | _::ps,_::xs,K=>ry σ ps xs K
 | _,_,K=>K σ
def apart:List Nat->List (Nat×Path)->Bool
 | _,[]=>true
 | all,(r,_)::ws=>Nat.ble (all.count r) 1&&apart all ws
def mp (σ:St):(ps:List (PM×Ty))->List (Nat×Path)->(bM (eU ps)).den->(St->Option R)->Option R
 | [],[],_,K=>K σ
 | (.ro,_)::ps,ws,v,K=>mp σ ps ws v K
 | (.fix _,_)::ps,ws,v,K=>mp σ ps ws v K
 | (.jw m,t)::ps,(r,p)::ws,v,K=>nX σ r p t m v.1 fun σ=>mp σ ps ws v.2 K
 | (.mf m,t)::ps,(r,p)::ws,v,K=>match nX σ r p t m t.zero (fun _=>some ()) with
  | some _=>mp (σ.put r .dead) ps ws v K
  | none=>none
 | (.ku _,_)::ps,(r,p)::ws,v,K=>qM σ r p fun σ=>mp σ ps ws v K
 | (.gY m,t)::ps,(r,p)::ws,v,K=>nX σ r p t m v.1 fun σ'=>mp { σ' with vr:=(σ.fb r (mL (bq p+1))).vr,aw:=σ.aw } ps ws v.2 K
 | _,_,_,_=>none
def f0:(rs:List (Ty×Md))->{ts:List Ty}->(bM (rs.map (·.1)++ts)).den->List yo×(bM ts).den
 | [],_,v=>([],v)
 | (t,m)::rs,_,v=>(⟨t,m,v.1⟩::(f0 rs v.2).1,(f0 rs v.2).2)
def pJ:List yo->Slot
 | []=>.dead
 | [x]=>laid x.t x.m x.v
 | xs=>.li xs
def rz:List (Ty×Md)->Bool
 | []=>true
 | (t,m)::rs=>(t.flat||decide (m=au t))&&t.lL&&rz rs
def jZ:List (PM×Ty)->Bool
 | []=>true
 | (.jw m,t)::ps=>(t.flat||decide (m=au t))&&t.lL&&jZ ps
 | (.gY m,t)::ps=>(t.flat||decide (m=au t))&&t.lL&&jZ ps
 | (.mf m,t)::ps=>(t.flat||decide (m=au t))&&t.lL&&jZ ps
 | (.ku m,t)::ps=>(t.flat||decide (m=au t))&&t.lL&&jZ ps
 | _::ps=>jZ ps
def yt (g:ni) (ow:Bool) (σ:St) (xs:List Operand) (ex:List Slot) (d:Option Tmp) (K:St->Option R):Option R:=
 lp σ g.ps xs fun σ=>
  Bz σ ow g.ps (xs.map (bB σ)++ex) fun v ws=>
   if Nat.ble ws.length 1&&apart ((xs.map (bB σ)++ex).flatMap gr) ws then
    (g.F v).bind fun out=>
     mp σ g.ps ws (f0 g.rs out).2 fun σ=>K (σ.aS d (pJ (f0 g.rs out).1))
   else none
def tO (g:ni) (σ:St) (xs:List Operand) (ex:List Slot) (d:Option Tmp) (K:St->Option R):Option R:=
 match rz g.rs&&jZ g.ps with
 | true=>yt g true σ xs ex d K
 | false=>ry σ g.ps xs fun σ=>yt g false σ xs ex d K
def zT (E:Env) (σ:St) (T:Nat) (x:Operand) (mv:Bool) (d:Option Tmp) (K:St->Option R):Option R:=
 match bB σ x with
 | .dead=>K (σ.aS d .dead)
 | .o4=>jJ E T fun T=>match T with
  | .U e=>K (σ.aS d (.own (.U e) (au (.U e)) [] []))
  | _=>none
 | .li []=>K (σ.aS d (.li []))
 | .li _=>none
 | .ref r p snap=>
  if σ.ok r snap then
   match xE σ r p with
   | some t=>gN σ (.ref r p snap) mv t fun m v σ=>K (σ.aS d (laid t m v))
   | none=>none
  else none
 | .sub r p snap lo hi=>
  if σ.ok r snap then
   match xE σ r p with
   | some t=>gN σ (.sub r p snap lo hi) mv t fun m v σ=>K (σ.aS d (laid t m v))
   | none=>none
  else none
 | .ptr r p snap=>
  match p,σ.get r with
  | [],.box t m H v=>if σ.ok r snap&&mv&&!tK σ.aw r then (match d with | some i=>K ((σ.put r .dead).put i (.box t m H v)) | none=>none) else K (σ.aS d (.ptr r [] snap))
  | p,_=>K (σ.aS d (.ptr r p snap))
 | s=>K (σ.aS d s)
def Gb (σ:St) (x:Operand) (d:Option Tmp) (K:St->Option R):Option R:=
 match bB σ x,x with
 | .li xs,.tmp i=>K ((σ.put i .dead).aS d (.li xs))
 | .li _,_=>none
 | s,_=>K (σ.aS d s)
def BZ (σ:St) (x:Operand) (d:Option Tmp) (σ':St):St:=
 match x,d with
 | .tmp i,some d=>match σ.get i with
  | .own _ _ _ _=>match yp σ.aw i with
   | some n=>{ σ' with aw:=(d,n,true)::σ'.aw }
   | none=>σ'
  | _=>σ'
 | _,_=>σ'
def B5:Slot->Option (Nat×Int)
 | .val .fn f=>some f
 | _=>none
def dA {α:Type} (k:Ty) (m:List (k.den×α)) (x:k.den):Option α:=(m.find? fun e=>k.eq x e.1).map (·.2)
def gZ {α:Type} (k:Ty) (m:List (k.den×α)) (x:k.den) (y:α):List (k.den×α):=match m.findIdx? (fun e=>k.eq x e.1) with
 | some i=>m.set i (x,y)
 | none=>m++[(x,y)]
def rA {α:Type} (o:Option α) (z:α):α:=match o with
 | some x=>x
 | none=>z
def zU (E:Env) (σ:St) (T:Nat) (x ix:Slot) (ok:Bool) (d:Option Tmp) (K:St->Option R):Option R:=
 jJ E T fun T=>
 match T with
 | .map k v=>
  if v.oL then
   match x with
   | .ref r p snap=>
    if σ.ok r snap then
     jY σ r p fun t _ H y=>
      if H.isEmpty then dV t (.map k v) y fun y=>
       match ix with
       | .val t2 i=>dV t2 k i fun i=>
        match ok with
        | true=>K (σ.aS d (.li [⟨v,av v,rA (dA k y i) v.zero⟩,⟨.bool,.leaf,(dA k y i).isSome⟩]))
        | false=>K (σ.aS d (.val v (rA (dA k y i) v.zero)))
       | _=>none
      else none
    else none
   | _=>none
  else none
 | _=>none
def zV (E:Env) (σ:St) (T:Nat) (x ix y:Slot) (K:St->Option R):Option R:=
 jJ E T fun T=>
 match T with
 | .map k v=>
  match x with
  | .ref r p snap=>
   if σ.ok r snap then
    jY σ r p fun t m H z=>
     if m.own&&H.isEmpty then dV t (.map k v) z fun z=>
      match ix,y with
      | .val t2 i,.val t3 w=>dV t2 k i fun i=>dV t3 v w fun w=>
       nX σ r p (.map k v) m (gZ k z i w) fun σ'=>K { σ' with vr:=(σ.fb r o5).vr,aw:=σ.aw }
      | _,_=>none
     else none
   else none
  | _=>none
 | _=>none
def H6:Option Ty->Bool
 | some (.map _ _)=>true
 | _=>false
def zW (E:Env) (σ:St) (T:Nat) (x:Slot) (K:Nat->Option R):Option R:=
 jJ E T fun T=>
 match T with
 | .map k v=>
  match x with
  | .ref r p snap=>
   if σ.ok r snap then
    jY σ r p fun t _ H y=>if H.isEmpty then dV t (.map k v) y fun y=>K (List.length y) else none
   else none
  | _=>none
 | _=>none
def lg (E:Env) (cO i:Nat) (o:Oper) (σ:St) (K:St->Option R):Option R:=
 let fz:=M7 E.fz cO i
 let d:=o.dst
 match o.op with
 | .move x=>Gb σ x d K
 | .assign x=>zT E σ o.type x (!fz 0) d K
 | .pick c a b=>yq (bB σ c) fun c=>match bB σ (bif c then a else b) with
  | .val .bool x=>K (σ.aS d (.val .bool x))
  | _=>none
 | .alloc t=>jJ E t fun t=>if t.oL then K (σ.aS d (.box t (au t) [] t.zero)) else none
 | .box t x=>jJ E t fun t=>gN σ (bB σ x) (!fz 0) t fun m v σ'=>K (BZ σ x d (σ'.aS d (.box t m [] v)))
 | .build t ps=>jJ E t fun t=>match t with
  | .arr n e=>if e.oL then BV σ e fz ps.toList 0 (Ty.arr n e).zero fun v σ=>K (σ.aS d (laid (.arr n e) (au (.arr n e)) v)) else none
  | .pair t1 t2=>if (Ty.pair t1 t2).oL then vo E σ (.pair t1 t2) fz ps.toList 0 (au (.pair t1 t2)) (Ty.pair t1 t2).zero fun m v σ=>K (σ.aS d (laid (.pair t1 t2) m v)) else none
  | _=>none
 | .buildSlice t n ps=>jJ E t fun t=>match t with
  | .U e=>if Nat.beq n ps.size&&e.oL&&Nat.ble (n*e.sz) 16777216 then xF σ e fz ps.toList 0 (au e) [] fun m v σ=>K (σ.aS d (.own (.U e) (.U true m) [] v)) else none
  | _=>none
 | .load t a=>yr E σ t (bB σ a) (fz 7) d K
 | .store t a x=>match d with
  | none=>BS E σ t (bB σ a) (bB σ x) (!fz 1) K
  | some _=>none
 | .nilCheck x=>match bB σ x with
  | .ptr r p snap=>if σ.ok r snap then K (σ.aS d (.ptr r p snap)) else none
  | .cp t v=>K (σ.aS d (.cp t v))
  | .val .fn f=>K (σ.aS d (.val .fn f))
  | _=>none
 | .binOp op t x y _=>BX E t op (bB σ x) (bB σ y) fun t v=>K (σ.aS d (.val t v))
 | .unOp op _ x=>match op,bB σ x with
  | .not,.val .bool b=>K (σ.aS d (.val .bool (!b)))
  | .neg,.val (.int k) n=>K (σ.aS d (.val (.int k) (uZ k (0 - jD k n))))
  | _,_=>none
 | .convert s t x=>tN E σ s t (bB σ x) d K
 | .fieldAddr t x j=>tL E σ t (bB σ x) j d K
 | .field t x j=>zR E σ t (bB σ x) j d K
 | .indexAddr t x ix=>tM E σ t (bB σ x) (bB σ ix) d K
 | .index t x ix=>BT E σ t (bB σ x) (bB σ ix) d K
 | .slice t x lo hi none=>BU E σ t (bB σ x) (lo.map (bB σ)) (hi.map (bB σ)) d K
 | .makeSlice t n c=>jJ E t fun t=>match t with
  | .U e=>oB (bB σ n) fun n=>oB (bB σ c) fun c=>
   if e.oL then (if 0<=n/\n<=c/\c<=(bk:Int) then K (σ.aS d (.own (.U e) (au (.U e)) [] (List.replicate n.toNat e.zero))) else none) else none
  | _=>none
 | .extract x j=>match x with
  | .tmp i=>match σ.get i with
   | .li xs=>match xs[j]? with
    | some x=>if x.t=.unit then none else K ((σ.put i (.li (xs.set j ⟨.unit,.leaf,()⟩))).aS d (laid x.t x.m x.v))
    | none=>none
   | _=>none
  | _=>none
 | .makeFunc (.func f) first cs=>
  if first.size=0 then
   match cs.toList with
   | []=>K (σ.aS d (.val .fn (f,0)))
   | [.tmp i]=>match σ.get i with
    | .box (.int .i64) _ _ n=>K (((σ.put i .dead).put i (.cp (.int .i64) n)).aS d (.val .fn (f,n)))
    | _=>none
   | _=>none
  else none
 | .makeMap t none=>jJ E t fun t=>match t with
  | .map k v=>if k.flat&&v.flat then K (σ.aS d (.own (.map k v) (au (.map k v)) [] [])) else none
  | _=>none
 | .lookup t x ix ok=>zU E σ t (bB σ x) (bB σ ix) ok d K
 | .mapUpdate t x ix y=>match d with
  | none=>zV E σ t (bB σ x) (bB σ ix) (bB σ y) K
  | some _=>none
 | .call c=>match c.callee with
  | .builtin .len=>match c.args.toList,c.argTypes.toList with
   | [x],[t]=>match H6 (E.TI t) with
    | false=>J1 E σ t (bB σ x) fun n=>K (σ.aS d (.val (.int .i64) (n:Int)))
    | true=>zW E σ t (bB σ x) fun n=>K (σ.aS d (.val (.int .i64) (n:Int)))
   | _,_=>none
  | .builtin .append=>match c.args.toList,c.argTypes.toList with
   | [b,x],t::_=>zS E σ t (bB σ b) x (!fz 1) d K
   | _,_=>none
  | .builtin .copy=>match c.args.toList,c.argTypes.toList with
   | [b,x],t::_=>Ga E σ t b (bB σ x) d K
   | _,_=>none
  | .value (.func f)=>match E.G f with
   | some g=>match g.cap with
    | false=>tO g σ c.args.toList [] d K
    | true=>none
   | none=>none
  | .value (.tmp i)=>match B5 (σ.get i) with
   | some (f,n)=>match E.G f with
    | some g=>match g.cap with
     | true=>tO g σ c.args.toList [.cp (.int .i64) n] d K
     | false=>tO g σ c.args.toList [] d K
    | none=>none
   | none=>none
  | _=>none
 | _=>none
def iq (l:List (Nat×List Nat)) (i:Nat):List Nat:=match gm l i with | some x=>x | none=>[]
def vq (ops:List Oper) (σ:St) (g:Option (Nat×Bool)) (K:Bool->St->Option R):Option R:=
 match g with
 | none=>K true σ
 | some (j,want)=>match (ops[j]?).bind (·.dst) with
  | none=>none
  | some t=>match σ.get t with
   | .val .bool b=>match b with
    | true=>K (want == true) (σ.BQ t (.val .bool true))
    | false=>K (want == false) (σ.BQ t (.val .bool false))
   | .li []=>K false σ
   | _=>none
def zX (E:Env) (cO:Nat) (ops:List Oper):List Oper->Nat->St->(St->Option R)->Option R
 | [],_,σ,K=>K σ
 | o::rest,i,σ,K=>vq ops σ o.guard fun b σ=>
  match b with
  | true=>lg E cO i o σ fun σ=>zX E cO ops rest (i+1) σ K
  | false=>zX E cO ops rest (i+1) (σ.aS o.dst (.li [])) K
def B6 (σ:St) (o:Oper):Bool:=match o.op with
 | .load _ x=>match bB σ x with
  | .cp _ _=>true
  | _=>false
 | .convert _ _ x=>match bB σ x with
  | .val (.int _) _=>true
  | .val .str _=>true
  | .val (.U (.int .u8)) _=>true
  | _=>false
 | _=>false
def B7 (E:Env) (cO i:Nat):Bool:=(iq E.ar cO).any (Nat.beq i)
def wN:Op->Bool
 | .store .. | .mapUpdate .. | .call ..=>true
 | _=>false
def pW:Path->Path->Bool
 | [],[]=>true
 | .fst::p,.fst::q=>pW p q
 | .snd::p,.snd::q=>pW p q
 | .idx i::p,.idx j::q=>Nat.beq i j&&pW p q
 | .jr i::p,.jr j::q=>Nat.beq i j&&pW p q
 | _,_=>false
def J3 (σ:St) (o:Oper):Bool:=match o.op,o.dst with
 | .load _ (.tmp i),some d=>match σ.get i with
  | .ptr r p s=>match σ.get d with
   | .ref r' p' s'=>Nat.beq r r'&&(σ.ok r s&&σ.ok r s')&&pW p p'
   | _=>false
  | _=>false
 | _,_=>false
def yu (l:List (Nat×List (Nat×Nat))) (i:Nat):List (Nat×Nat):=match gm l i with | some x=>x | none=>[]
def Gc (E:Env) (cO i:Nat):Bool:=(yu E.er cO).any fun e=>Nat.beq i e.1
def Gd (E:Env) (cO:Nat) (ops:List Oper) (is:List Nat) (σ:St):Bool:=(yu E.er cO).all fun e=>is.any (Nat.beq e.1)||!(is.any (Nat.beq e.2)||Nat.ble ops.length e.2)||(match ops[e.1]? with
 | some o=>J3 σ o
 | none=>false)
def yw (E:Env) (cO:Nat) (ops:List Oper) (i:Nat) (o:Oper) (is:List Nat) (σ:St):Bool:=!(wN o.op||Gc E cO i)||Gd E cO ops is σ
def E7 (σ:St):List Nat->(St->Option R)->Option R
 | [],K=>K σ
 | i::is,K=>match σ.get i with
  | .box t m H v=>if H.isEmpty&&fits m (av t) then E7 ((σ.put i .dead).put i (.cp t v)) is K else none
  | _=>none
def zY (σ:St) (d:Nat):Bool:=Nat.blt d σ.n&&(match σ.get d with
 | .dead=>true
 | _=>false)&&!tK σ.aw d&&!σ.gh.any fun e=>Nat.beq e.1 d
def Ge (E:Env) (cO:Nat) (ops:List Oper) (is:List Nat) (σ:St):Bool:=(iq E.pd cO).all fun j=>!is.any (Nat.beq j)||(match (ops[j]?).bind (·.dst) with
 | some d=>zY σ d
 | none=>false)
def H7 (ops:List Oper) (σ:St):List Nat->(St->Option R)->Option R
 | [],K=>K σ
 | j::js,K=>match (ops[j]?).bind (·.dst) with
  | some d=>H7 ops (σ.put d .dead) js K
  | none=>none
def vt (E:Env) (cO:Nat) (ops:List Oper):List Nat->St->(St->Option R)->Option R
 | [],σ,K=>K σ
 | i::is,σ,K=>
  match Ge E cO ops (i::is) σ with
  | false=>none
  | true=>
  match ops[i]? with
  | none=>none
  | some o=>vq ops σ o.guard fun b σ=>
   match b with
   | true=>match B7 E cO i&&!B6 σ o with
    | true=>none
    | false=>lg E cO i o σ fun σ=>match yw E cO ops i o is σ with
     | true=>vt E cO ops is σ K
     | false=>none
   | false=>vt E cO ops is (σ.aS o.dst (.li [])) K
def lO:Code->Nat
 | .region id _ _=>id
 | .seq a _=>lO a
 | .block _ b=>lO b
 | .loop b=>lO b
 | .scope b=>lO b
 | _=>0
def vu (live:List Nat) (fr:List (Nat×Md)) (r:Nat):Bool:=live.any (Nat.beq r)&&(match gm fr r with
 | none=>true
 | some _=>false)
def dE (live:List Nat) (fr:List (Nat×Md)) (σ:St) (i:Nat):Slot:=
 match σ.get i with
 | .ptr r p snap=>if σ.ok r snap&&vu live fr r then .ptr r p (snap.map fun _=>0) else .dead
 | .ref r p snap=>if σ.ok r snap&&vu live fr r then .ref r p (snap.map fun _=>0) else .dead
 | .sub r p snap lo hi=>if σ.ok r snap&&vu live fr r then .sub r p (snap.map fun _=>0) lo hi else .dead
 | s=>s
def qv (live:List Nat) (σ:St):St:={ n:=σ.n,sl:=live.map fun i=>(i,dE live [] σ i),vr:=[],aw:=σ.aw }
def rB (fr:List (Nat×Md)) (i:Nat) (s:Slot):Slot:=
 match gm fr i with
 | none=>s
 | some m1=>
  match s with
  | .own t m H v=>if H.isEmpty&&fits m m1 then (if m1=av t then .val t v else .own t m1 [] v) else .dead
  | .box t m H v=>if H.isEmpty&&fits m m1 then .box t m1 [] v else .dead
  | s=>s
def cu (live:List Nat) (fr:List (Nat×Md)) (σ:St):St:={ n:=σ.n,sl:=live.map fun i=>(i,rB fr i (dE live fr σ i)),vr:=[],aw:=σ.aw }
def Gf (l:List (Nat×List (Nat×Md))) (i:Nat):List (Nat×Md):=match gm l i with | some x=>x | none=>[]
inductive Ex where
 | normal
 | exit (id:Nat)
def dv (rec:St->Option R) (kp:St->St) (K:Ex->St->Option R):Ex->St->Option R
 | .normal,σ=>rec (kp σ)
 | .exit j,σ=>K (.exit j) σ
def ap (B:St->(Ex->St->Option R)->Option R) (K:Ex->St->Option R):Ex->St->Option R
 | .normal,σ=>B σ K
 | .exit j,σ=>K (.exit j) σ
def af (id:Nat) (K:Ex->St->Option R):Ex->St->Option R
 | .normal,σ=>K .normal σ
 | .exit j,σ=>if Nat.beq j id then K .normal σ else K (.exit j) σ
def tP (F:St->(Ex->St->Option R)->Option R) (kp:St->St) (K:Ex->St->Option R):Nat->St->Option R
 | 0,_=>none
 | k+1,σ=>F σ (dv (tP F kp K k) kp K)
def m8 (E:Env) (k:Nat) (fin:St->Option R):Code->St->(Ex->St->Option R)->Option R
 | .skip,σ,K=>K .normal σ
 | .region id ops d,σ,K=>match d with
  | false=>zX E id ops.toList ops.toList 0 σ fun σ=>E7 σ (iq E.bx id) fun σ=>K .normal σ
  | true=>E7 σ (iq E.bx id) fun σ=>H7 ops.toList σ (iq E.pd id) fun σ=>vt E id ops.toList (iq E.od id) σ fun σ=>K .normal σ
 | .seq a b,σ,K=>m8 E k fin a σ (ap (m8 E k fin b) K)
 | .cond c a b,σ,K=>yq (bB σ c) fun c=>match c with
  | true=>m8 E k fin a σ K
  | false=>m8 E k fin b σ K
 | .block id b,σ,K=>m8 E k fin b σ (af id K)
 | .loop b,σ,K=>tP (m8 E k fin b) (cu (iq E.lv (lO b)) (Gf E.lf (lO b))) K k (cu (iq E.lv (lO b)) (Gf E.lf (lO b)) σ)
 | .scope b,σ,K=>m8 E k fin b σ K
 | .exit id,σ,K=>K (.exit id) (qv (iq E.lx id) σ)
 | .ret,σ,_=>fin σ
 | _,_,_=>none
end
def sub:List Nat->Code->Code
 | [],c=>c
 | i::p,.seq a b=>match i with
  | 0=>sub p a
  | _=>sub p b
 | i::p,.cond _ a b=>match i with
  | 0=>sub p a
  | _=>sub p b
 | _::p,.block _ b=>sub p b
 | _::p,.loop b=>sub p b
 | _::p,.scope b=>sub p b
 | _,c=>c
def al {V R:Type} (B:(V->Option R)->V->Option R):Nat->V->Option R
 | 0,_=>none
 | k+1,v=>B (al B k) v
theorem ao {V R:Type} (F:St->(Ex->St->Option R)->Option R) (kp:St->St) (K:Ex->St->Option R) (σ:V->St) (B:(V->Option R)->V->Option R)
  (h:∀ (rec:St->Option R) (v:V),F (σ v) (dv rec kp K)=B (fun v'=>rec (σ v')) v):∀ (n:Nat) (v:V),tP F kp K n (σ v)=al B n v:=by
 intro n
 induction n with
 | zero=>intro v;rfl
 | succ n ih=>
  intro v
  show F (σ v) (dv (tP F kp K n) kp K)=B (al B n) v
  rw[h]
  have e:(fun v'=>tP F kp K n (σ v'))=al B n:=funext ih
  rw[e]
end
end OT
namespace OT
open Go
noncomputable section
def c6:(ps:List (PM×Ty))->(bM (ps.map (·.2))).den->List Slot
 | [],_=>[]
 | (.ro,.ptr e)::ps,v=>.cp e v.1::c6 ps v.2
 | (.fix f,.fn)::ps,v=>.val .fn (f,v.1.2)::c6 ps v.2
 | (.fix _,_)::ps,v=>.dead::c6 ps v.2
 | (.ro,t)::ps,v=>.val t v.1::c6 ps v.2
 | (.jw m,t)::ps,v=>.box t m [] v.1::c6 ps v.2
 | (.gY m,t)::ps,v=>.own t m [] v.1::c6 ps v.2
 | (.ku m,t)::ps,v=>.own t m [] v.1::c6 ps v.2
 | (.mf m,t)::ps,v=>.box t m [] v.1::c6 ps v.2
def rC:Nat->List Slot->List (Nat×Slot)
 | _,[]=>[]
 | i,s::ss=>(i,s)::rC (i+1) ss
def nj:Nat->List (PM×Ty)->List (Nat×Nat×Bool)
 | _,[]=>[]
 | i,(.jw _,_)::ps=>(i,i,false)::nj (i+1) ps
 | i,(.gY _,_)::ps=>(i,i,true)::nj (i+1) ps
 | i,(.mf _,_)::ps=>(i,i,false)::nj (i+1) ps
 | i,_::ps=>nj (i+1) ps
def tf (ps:List (PM×Ty)) (v:(bM (ps.map (·.2))).den) (n:Nat):St:={ n:=n,sl:=rC 0 (c6 ps v),vr:=[],aw:=nj 0 ps }
section
variable {R:Type}
def o7 (σ:St):Nat->(ps:List (PM×Ty))->List Nat->((bM (eU ps)).den->Option R)->Option R
 | _,[],_,K=>K ()
 | j,(.ro,_)::ps,es,K=>o7 σ (j+1) ps es K
 | j,(.fix _,_)::ps,es,K=>o7 σ (j+1) ps es K
 | j,(.mf _,_)::ps,es,K=>o7 σ (j+1) ps es K
 | j,(.ku _,_)::ps,es,K=>o7 σ (j+1) ps es K
 | j,(.jw m,t)::ps,i::es,K=>match σ.get i with
  | .box t' m' H v=>if H.isEmpty&&(decide (m'=m)||fits m' m)&&td σ.aw i j false then dV t' t v fun v=>o7 σ (j+1) ps es fun vs=>K (v,vs) else none
  | _=>none
 | j,(.gY m,t)::ps,i::es,K=>match σ.get i with
  | .own t' m' H v | .box t' m' H v=>if H.isEmpty&&(decide (m'=m)||fits m' m)&&td σ.aw i j true then dV t' t v fun v=>o7 σ (j+1) ps es fun vs=>K (v,vs) else none
  | _=>none
 | _,_,_,_=>none
def yx (σ:St):ResultVar->Slot
 | .tmp i=>bB σ (.tmp i)
 | .cell a _=>match σ.get a with
  | .box _ _ _ _=>.ref a [] (σ.eO a)
  | _=>.dead
def Gg (σ:St) (ts:List Ty) (mv:Nat->Bool) (fin:St->((bM ts).den->Option R)->Option R) :
    (rs:List (Ty×Md))->List ResultVar->Nat->((bM (rs.map (·.1)++ts)).den->Option R)->Option R
 | [],[],_,K=>fin σ K
 | (t,m)::rs,x::xs,j,K=>gN σ (yx σ x) (mv j) t fun m' v σ'=>
  if m'=m\/fits m' m=true then Gg σ' ts mv fin rs xs (j+1) fun vs=>K (v,vs) else none
 | _,_,_,_=>none
end
def B8 (ps:List (PM×Ty)) (rs:List (Ty×Md)) (es:List Nat) (tg:List ResultVar) (mv:Nat->Bool) (σ:St):Option (bM (rs.map (·.1)++eU ps)).den:=
 Gg σ (eU ps) mv (fun σ K=>o7 σ 0 ps es K) rs tg 0 some
def Ln (fr:List Nat) (j:Nat):Bool:=!(fr.any (Nat.beq j))
def M_ {R:Type} (fin:St->Option R):Ex->St->Option R
 | .normal,σ=>fin σ
 | .exit _,_=>none
def vv (fn:Func):Code:=match fn.body with
 | some c=>c
 | none=>.refuse ""
abbrev PQ:Type:=List (PM×Ty)
abbrev RQ:Type:=List (Ty×Md)
abbrev TL:Type:=List (Nat×Ty)
abbrev GL:Type:=List (Nat×ni)
abbrev KT (R:Type):Type:=Ex->St->Option R
abbrev RT (R:Type):Type:=St->Option R
def BA (E:Env) (k:Nat) (fn:Func) (ps:List (PM×Ty)) (rs:List (Ty×Md)) (es fr:List Nat) (v:(bM (ps.map (·.2))).den):Option (bM (rs.map (·.1)++eU ps)).den:=
 m8 E k (B8 ps rs es fn.results.toList (Ln fr)) (vv fn) (tf ps v fn.ntmps) (M_ (B8 ps rs es fn.results.toList (Ln fr)))
def lift {R:Type} (f:Nat->Option R):Option R:=open Classical in if h:∃ out,∃ k,∀ k',k<=k'->f k'=some out then some h.choose else none
theorem ag {R:Type} {f:Nat->Option R} {out:R} {k:Nat} (h:∀ k',k<=k'->f k'=some out):lift f=some out:=by
 have hex:∃ out,∃ k,∀ k',k<=k'->f k'=some out:=⟨out,k,h⟩
 unfold lift
 rw[dif_pos hex]
 obtain ⟨k2,Y⟩:=hex.choose_spec
 have e1:=h (max k k2) (Nat.le_max_left _ _)
 have e2:=Y (max k k2) (Nat.le_max_right _ _)
 rw[e1] at e2
 exact e2.symm
theorem H8 {R:Type} {f:Nat->Option R} {out:R} (h:lift f=some out):∃ k,f k=some out:=by
 unfold lift at h
 split at h
 ·rename_i hex
  obtain ⟨k,hk⟩:=hex.choose_spec
  injection h with h
  exact ⟨k,by rw[<-h];exact hk k (Nat.le_refl _)⟩
 ·cases h
abbrev i64:Ty:=.int .i64
abbrev u8:Ty:=.int .u8
def ae (n:Int):Int:=IntKind.wrap .i64 n
end
end OT
set_option linter.unusedVariables false
set_option linter.unusedSimpArgs false
namespace OT
open Go
abbrev FP:=Nat->Nat->Nat
abbrev Cells:=Nat->Nat->Prop
def isAgg:Ty->Bool
 | .unit | .pair _ _ | .arr _ _=>true
 | _=>false
def bj (t:Ty) (cs:List Value):Value:=if isAgg t then .agg cs.toArray else cs.headD undef
def tQ (kG:List (Value×Value)):Value:=.tuple (kG.map fun kv=>Value.tuple #[kv.1,kv.2]).toArray
def entriesOf (es:Array MapEntry):List (Value×Value):=es.toList.map fun e=>(e.key,e.val)
def Gh (u:Value):Option Value:=if u.oneCell' then some u else none
def ce (w:World) (b i:Nat):Option Value:=match w.heap[b]? with
 | some (.map es _)=>if i=0 then some (tQ (entriesOf es)) else none
 | _=>(w.cell? ⟨b,i,none⟩).bind Gh
theorem pK {w w2:World} {b:Nat} (h:w2.heap[b]?=w.heap[b]?) (i:Nat):ce w2 b i=ce w b i:=by simp only[ce,World.cell?,h]
theorem vw {u v:Value} (h:Gh u=some v):v=u/\u.oneCell'=true:=by
 unfold Gh at h
 split at h
 ·rename_i hu;injection h with h;exact ⟨h.symm,hu⟩
 ·cases h
theorem nG {w:World} {b i:Nat} {u:Value} (h:ce w b i=some u) (hu:u.oneCell'=true):w.cell? ⟨b,i,none⟩=some u:=by
 unfold ce at h
 split at h
 ·split at h
  ·injection h with h;subst h;cases hu
  ·cases h
 ·cases hc:w.cell? ⟨b,i,none⟩ with
  | none=>rw[hc] at h;cases h
  | some v=>
   rw[hc] at h
   have:=vw h
   rw[this.1]
theorem wO {w:World} {b i:Nat} {u:Value} (h:w.cell? ⟨b,i,none⟩=some u) (hu:u.oneCell'=true):ce w b i=some u:=by
 have h':=h
 unfold World.cell? at h
 unfold ce
 split at h
 ·rename_i heq;simp only at heq;simp only[heq,h',Option.bind_some,Gh,hu,if_true]
 ·cases h
theorem J4:∀ {a b:List (Value×Value)},tQ a=tQ b->a=b:=by
 have main:∀ (a b:List (Value×Value)),(a.map fun kv=>Value.tuple #[kv.1,kv.2])=(b.map fun kv=>Value.tuple #[kv.1,kv.2])->a=b:=by
  intro a
  induction a with
  | nil=>intro b h;cases b with
   | nil=>rfl
   | cons _ _=>cases h
  | cons x a ih=>
   intro b h
   cases b with
   | nil=>cases h
   | cons y b=>
    simp only[List.map_cons,List.cons.injEq] at h
    obtain ⟨h1,Y⟩:=h
    injection h1 with h1
    have h3:=congrArg Array.toList h1
    simp only[List.cons.injEq,and_true] at h3
    rw[ih b Y,Prod.ext h3.1 h3.2]
 intro a b h
 unfold tQ at h
 injection h with h
 exact main a b (by simpa using congrArg Array.toList h)
theorem H9 {w:World} {r:Nat} {kG:List (Value×Value)} (h:ce w r 0=some (tQ kG)):∃ es clock,w.heap[r]?=some (.map es clock)/\entriesOf es=kG:=by
 unfold ce at h
 split at h
 ·rename_i es clock heq
  simp only[if_true] at h
  injection h with h
  exact ⟨es,clock,heq,J4 h⟩
 ·cases hc:w.cell? ⟨r,0,none⟩ with
  | none=>rw[hc] at h;cases h
  | some v=>
   rw[hc] at h
   have:=vw h
   have Y:=this.2
   rw[<-this.1] at Y
   cases Y
theorem H_ {w:World} {r:Nat} {es:Array MapEntry} {clock:Nat} (h:w.heap[r]?=some (.map es clock)):ce w r 0=some (tQ (entriesOf es)):=by
 simp only[ce,h,if_true]
def Has (w:World) (b o:Nat) (L:List Value):Prop:=∀ j u,L[j]?=some u->ce w b (o+j)=some u
def B9:Ty->Bool
 | .int .u8=>true
 | _=>false
def dn (w:World) (b:Nat) (n:Nat×Bool):Prop:=∃ c e fr,w.heap[b]?=some (.cells c e fr)/\c.size=n.1/\(∀ i,i < n.1->¬ (fr.1<=i/\i < fr.2))/\(n.2=false->¬ (fr.1<=n.1/\n.1 < fr.2))
def bp (b o n:Nat):FP:=fun b' i=>if b'=b/\o<=i/\i < o+n then 1 else 0
def az:Nat->(Nat->FP)->FP
 | 0,_=>fun _ _=>0
 | n+1,f=>fun b i=>az n f b i+f n b i
def cm (f:Nat->FP) (j:Nat) (g:FP):Nat->FP:=fun i=>if i=j then g else f i
theorem kw {n:Nat} {f g:Nat->FP} (h:∀ j,j < n->f j=g j):az n f=az n g:=by
 induction n with
 | zero=>rfl
 | succ n ih=>
  funext b i
  simp only[az]
  rw[ih (fun j hj=>h j (by omega)),h n (by omega)]
theorem mq {n:Nat} (f:Nat->FP) {j:Nat} (hj:j < n) (g:FP) (b i:Nat):az n (cm f j g) b i+f j b i=az n f b i+g b i:=by
 induction n with
 | zero=>omega
 | succ n ih=>
  simp only[az]
  by_cases h:j=n
  ·subst h
   have:az j (cm f j g)=az j f:=kw fun k hk=>by simp[cm];omega
   rw[this]
   simp[cm]
   omega
  ·have:=ih (by omega)
   have e:cm f j g n=f n:=by simp[cm];omega
   rw[e];omega
theorem B_ {n:Nat} (f:Nat->FP) {j:Nat} (hj:n<=j) (g:FP):az n (cm f j g)=az n f:=
 kw fun k hk=>by simp[cm];omega
theorem bi {n:Nat} (f:Nat->FP) {j:Nat} (hj:j < n) (b i:Nat):f j b i<=az n f b i:=by
 induction n with
 | zero=>omega
 | succ n ih=>
  simp only[az]
  by_cases h:j=n
  ·subst h;omega
  ·have:=ih (by omega);omega
theorem nk {n:Nat} (f:Nat->FP) {j k:Nat} (hj:j < n) (hk:k < n) (eB:j≠k) (b i:Nat):f j b i+f k b i<=az n f b i:=by
 have h1:=mq f hj (fun _ _=>0) b i
 have Y:=bi (cm f j fun _ _=>0) hk b i
 have e:cm f j (fun _ _=>0) k=f k:=by simp[cm];omega
 rw[e] at Y
 simp at h1
 omega
theorem gR (n:Nat) (b i:Nat):az n (fun _ _ _=>0) b i=0:=by
 induction n with
 | zero=>rfl
 | succ n ih=>simp[az,ih]
theorem oC (n m:Nat) (f:Nat->FP) (b i:Nat):az (n+m) f b i=az n f b i+az m (fun j=>f (n+j)) b i:=by
 induction m with
 | zero=>simp[az]
 | succ m ih=>rw[<-Nat.add_assoc];simp only[az];rw[ih];omega
theorem zZ {n:Nat} {f g:Nat->FP} (b i:Nat) (h:∀ j,j < n->f j b i<=g j b i):az n f b i<=az n g b i:=by
 induction n with
 | zero=>exact Nat.le_refl _
 | succ n ih=>
  simp only[az]
  have:=ih fun j hj=>h j (by omega)
  have:=h n (by omega)
  omega
theorem Ia (n:Nat) (f:Nat->FP) (k m:Nat) (h:k+m<=n) (b i:Nat):az m (fun j=>f (k+j)) b i<=az n f b i:=by
 have e:n=k+(m+(n - k - m)):=by omega
 rw[e,oC,oC]
 omega
theorem Ca {n:Nat} {f:Nat->FP} {b i:Nat} (h:1<=az n f b i):∃ j,j < n/\1<=f j b i:=by
 induction n with
 | zero=>simp[az] at h
 | succ n ih=>
  simp only[az] at h
  by_cases h1:1<=az n f b i
  ·obtain ⟨j,hj,hh⟩:=ih h1
   exact ⟨j,by omega,hh⟩
  ·exact ⟨n,by omega,by omega⟩
section
variable (P:Program) (w:World) (A:Cells)
def Ro:(t:Ty)->t.den->List Value->Prop
 | .int k,v,cs=>cs=[.int k (jD k v)]
 | .bool,v,cs=>cs=[.bool v]
 | .str,v,cs=>cs=[.string ⟨List.toArray v⟩]
 | .unit,_,cs=>cs=[]
 | .pair a b,v,cs=>Ro a v.1 (cs.take a.sz)/\Ro b v.2 (cs.drop a.sz)
 | .arr n e,v,cs=>e.flat=true/\List.length v=n/\cs.length=n*e.sz/\∀ (i:Nat) (x:e.den),v[i]?=some x->Ro e x ((cs.drop (i*e.sz)).take e.sz)
 | .U e,v,cs=>∃ a cap,cs=[.slice a (List.length v) cap]/\List.length v<=cap/\(a=none->List.length v=0)/\∀ ad,a=some ad->(0 < cap->ad.spot=none) /\
   ∀ (i:Nat) (x:e.den),v[i]?=some x->∃ L:List Value,L.length=e.sz/\(∀ j u,L[j]?=some u->ce w ad.block (ad.off+i*e.sz+j)=some u/\A ad.block (ad.off+i*e.sz+j))/\Ro e x L
 | .ptr e,v,cs=>∃ ad,cs=[.pointer (some ad)]/\ad.spot=none /\
   ∃ L:List Value,L.length=e.sz/\(∀ j u,L[j]?=some u->ce w ad.block (ad.off+j)=some u/\A ad.block (ad.off+j))/\Ro e v L
 | .fn,v,cs=>∃ qw,cs=[.func (.func v.1) #[] qw]/\∃ fn,P.funcs[v.1]?=some fn /\
   ((fn.nfree=0/\qw=#[])\/(fn.nfree=1/\∃ ad:Addr,qw=#[.pointer (some ad)]/\ad.spot=none/\ce w ad.block ad.off=some (.int .i64 v.2)/\A ad.block ad.off))
 | .map k v,x,cs=>k.flat=true/\v.flat=true/\∃ (r:Nat) (kG:List (Value×Value)),cs=[.map (some r)]/\ce w r 0=some (tQ kG)/\A r 0/\kG.length=List.length x /\
   ∀ (i:Nat) (y:k.den×v.den),x[i]?=some y->∃ (kc vc:List Value),kG[i]?=some (bj k kc,bj v vc)/\Ro k y.1 kc/\Ro v y.2 vc
def hole (H:List Path):Bool:=H.any (·.isEmpty)
def gt (i:Nat):Path->Option Path
 | .idx j::p=>if i=j then some p else none
 | _=>none
def ak:(t:Ty)->Md->List Path->t.den->List Value->FP->Prop
 | .pair a b,m,H,v,cs,F=>hole H=false/\∃ F1 F2:FP,(∀ x i,F1 x i+F2 x i<=F x i) /\
   ak a m.l (H.filterMap n9) v.1 (cs.take a.sz) F1/\ak b m.r (H.filterMap n_) v.2 (cs.drop a.sz) F2
 | .U e,m,H,v,cs,F=>
   if hole H then ∃ x:Value,cs=[x]/\x.oneCell'=true
   else if m.own then ∃ a cap,cs=[.slice a (List.length v) cap]/\List.length v<=cap/\cap<=maxLen/\(a=none->cap=0)/\∀ ad,a=some ad->ad.off=0/\ad.spot=none /\
    dn w ad.block (cap*e.sz,B9 e)/\∃ Fi:Nat->FP,(∀ x i,bp ad.block 0 (cap*e.sz) x i+az (List.length v) Fi x i<=F x i) /\
    ∀ (i:Nat) (x:e.den),v[i]?=some x->∃ L:List Value,L.length=e.sz/\Has w ad.block (i*e.sz) L/\ak e m.e (H.filterMap (gt i)) x L (Fi i)
   else H=[]/\m.e.ee=true/\Ro P w A (.U e) v cs
 | .ptr e,m,H,v,cs,F=>
   if hole H then ∃ x:Value,cs=[x]/\x.oneCell'=true
   else if m.own then ∃ b,cs=[.pointer (some ⟨b,0,none⟩)]/\dn w b (e.sz,false)/\∃ (L:List Value) (F1:FP),L.length=e.sz/\Has w b 0 L /\
    (∀ x i,bp b 0 e.sz x i+F1 x i<=F x i)/\ak e m.e [] v L F1
   else H=[]/\m.e.ee=true/\Ro P w A (.ptr e) v cs
 | .int k,_,_,v,cs,_=>Ro P w A (.int k) v cs
 | .bool,_,_,v,cs,_=>Ro P w A .bool v cs
 | .str,_,_,v,cs,_=>Ro P w A .str v cs
 | .unit,_,_,v,cs,_=>Ro P w A .unit v cs
 | .arr n e,_,H,v,cs,_=>H=[]/\Ro P w A (.arr n e) v cs
 | .fn,_,_,v,cs,_=>Ro P w A .fn v cs
 | .map k v,m,H,x,cs,F=>
   if hole H then ∃ x:Value,cs=[x]/\x.oneCell'=true
   else if m.own then k.flat=true/\v.flat=true/\∃ (r:Nat) (kG:List (Value×Value)),cs=[.map (some r)]/\ce w r 0=some (tQ kG)/\1<=F r 0/\kG.length=List.length x /\
    ∀ (i:Nat) (y:k.den×v.den),x[i]?=some y->∃ (kc vc:List Value),kG[i]?=some (bj k kc,bj v vc)/\Ro P w A k y.1 kc/\Ro P w A v y.2 vc
   else H=[]/\m.e.ee=true/\Ro P w A (.map k v) x cs
end
theorem Ro.length {P:Program} {w:World} {A:Cells}:∀ (t:Ty) {v:t.den} {cs:List Value},Ro P w A t v cs->cs.length=t.sz:=by
 intro t
 induction t with
 | pair a b ej d6=>
  intro v cs h
  have h1:=ej h.1
  have Y:=d6 h.2
  simp only[List.length_take,List.length_drop] at h1 Y
  simp only[Ty.sz];omega
 | arr n e ih=>intro v cs h;exact h.2.2.1
 | U e ih=>rintro v cs ⟨a,cap,rfl,_⟩;rfl
 | ptr e ih=>rintro v cs ⟨a,rfl,_⟩;rfl
 | fn=>rintro v cs ⟨a,rfl,_⟩;rfl
 | map k v=>rintro v cs ⟨_,_,r,kG,rfl,_⟩;rfl
 | unit=>intro v cs h;simp only[Ro] at h;subst h;rfl
 | _=>intro v cs h;simp only[Ro] at h;subst h;rfl
theorem ak.length {P:Program} {w:World} {A:Cells}:∀ (t:Ty) {m:Md} {H:List Path} {v:t.den} {cs:List Value} {F:FP},ak P w A t m H v cs F->cs.length=t.sz:=by
 intro t
 induction t with
 | pair a b ej d6=>
  intro m H v cs F h
  obtain ⟨_,F1,F2,_,h1,Y⟩:=h
  have h1:=ej h1
  have Y:=d6 Y
  simp only[List.length_take,List.length_drop] at h1 Y
  simp only[Ty.sz];omega
 | U e ih=>
  intro m H v cs F h
  simp only[ak] at h
  split at h
  ·obtain ⟨x,rfl,_⟩:=h;rfl
  ·split at h
   ·obtain ⟨a,cap,rfl,_⟩:=h;rfl
   ·exact Ro.length _ h.2.2
 | ptr e ih=>
  intro m H v cs F h
  simp only[ak] at h
  split at h
  ·obtain ⟨x,rfl,_⟩:=h;rfl
  ·split at h
   ·obtain ⟨a,rfl,_⟩:=h;rfl
   ·exact Ro.length _ h.2.2
 | arr n e ih=>intro m H v cs F h;exact Ro.length _ h.2
 | map k v=>
  intro m H v cs F h
  simp only[ak] at h
  split at h
  ·obtain ⟨x,rfl,_⟩:=h;rfl
  ·split at h
   ·obtain ⟨_,_,r,kG,rfl,_⟩:=h;rfl
   ·exact Ro.length _ h.2.2
 | _=>intro m H v cs F h;exact Ro.length _ h
structure Ua (w w':World) (S:Nat->Nat->Prop):Prop where
 cell:∀ b i,S b i->∀ u,ce w b i=some u->ce w' b i=some u
 pF:∀ b n,dn w b n->dn w' b n
theorem Ro.mono {P:Program} {w w':World} {A A':Cells} (hc:∀ b i,A b i->∀ u,ce w b i=some u->ce w' b i=some u) (hA:∀ b i,A b i->A' b i) :
  ∀ (t:Ty) {v:t.den} {cs:List Value},Ro P w A t v cs->Ro P w' A' t v cs:=by
 intro t
 induction t with
 | pair a b ej d6=>intro v cs h;exact ⟨ej h.1,d6 h.2⟩
 | arr n e ih=>intro v cs h;exact ⟨h.1,h.2.1,h.2.2.1,fun i x hx=>ih (h.2.2.2 i x hx)⟩
 | U e ih=>
  rintro v cs ⟨a,cap,h1,Y,h3,h4⟩
  refine ⟨a,cap,h1,Y,h3,fun ad cZ=>⟨(h4 ad cZ).1,fun i x hx=>?_⟩⟩
  obtain ⟨L,hl,hL,hr⟩:=(h4 ad cZ).2 i x hx
  exact ⟨L,hl,fun j u hu=>⟨hc _ _ (hL j u hu).2 u (hL j u hu).1,hA _ _ (hL j u hu).2⟩,ih hr⟩
 | ptr e ih=>
  rintro v cs ⟨ad,h1,Y,L,hl,hL,hr⟩
  exact ⟨ad,h1,Y,L,hl,fun j u hu=>⟨hc _ _ (hL j u hu).2 u (hL j u hu).1,hA _ _ (hL j u hu).2⟩,ih hr⟩
 | fn=>
  rintro v cs ⟨qw,h1,fn,Y,h3⟩
  refine ⟨qw,h1,fn,Y,?_⟩
  rcases h3 with h3 | ⟨h3,ad,h4,h5,h6,h7⟩
  ·exact .inl h3
  ·exact .inr ⟨h3,ad,h4,h5,hc _ _ h7 _ h6,hA _ _ h7⟩
 | map k v Lo Lp=>
  rintro x cs ⟨h1,Y,r,kG,h3,h4,h5,h6,h7⟩
  refine ⟨h1,Y,r,kG,h3,hc _ _ h5 _ h4,hA _ _ h5,h6,fun i y hy=>?_⟩
  obtain ⟨kc,vc,g1,g2,g3⟩:=h7 i y hy
  exact ⟨kc,vc,g1,Lo g2,Lp g3⟩
 | _=>intro v cs h;exact h
theorem ak.mono {P:Program} {w w':World} {A A':Cells} (hA:∀ b i,A b i->A' b i) (hc:∀ b i,A b i->∀ u,ce w b i=some u->ce w' b i=some u) (hb:∀ b n,dn w b n->dn w' b n) :
  ∀ (t:Ty) {m:Md} {H:List Path} {v:t.den} {cs:List Value} {F F':FP},ak P w A t m H v cs F->(∀ b i,F b i<=F' b i)->(∀ b i,1<=F b i->∀ u,ce w b i=some u->ce w' b i=some u)->ak P w' A' t m H v cs F':=by
 intro t
 induction t with
 | pair a b ej d6=>
  intro m H v cs F F' h hF o8
  obtain ⟨h0,F1,F2,hs,h1,Y⟩:=h
  exact ⟨h0,F1,F2,fun x i=>Nat.le_trans (hs x i) (hF x i),ej h1 (fun _ _=>Nat.le_refl _) (fun b i hp=>o8 b i (by have:=hs b i;omega)),
   d6 Y (fun _ _=>Nat.le_refl _) (fun b i hp=>o8 b i (by have:=hs b i;omega))⟩
 | U e ih=>
  intro m H v cs F F' h hF o8
  simp only[ak] at h ⊢
  split at h
  ·rename_i hh;rw[if_pos hh];exact h
  ·rename_i hh;rw[if_neg hh]
   split at h
   ·rename_i hm;rw[if_pos hm]
    obtain ⟨a,cap,h1,Y,h3,h4,h5⟩:=h
    refine ⟨a,cap,h1,Y,h3,h4,fun ad cZ=>?_⟩
    obtain ⟨g1,g2,g3,Fi,g4,g5⟩:=h5 ad cZ
    refine ⟨g1,g2,hb _ _ g3,Fi,fun x i=>Nat.le_trans (g4 x i) (hF x i),fun i x hx=>?_⟩
    obtain ⟨L,hl,hL,hr⟩:=g5 i x hx
    have hi:i < List.length v:=(List.getElem?_eq_some_iff.1 hx).1
    refine ⟨L,hl,fun j u hu=>o8 _ _ ?_ u (hL j u hu),ih hr (fun _ _=>Nat.le_refl _) (fun b k hp=>o8 b k ?_)⟩
    ·have:=g4 ad.block (i*e.sz+j)
     have hj:j < e.sz:=hl ▸ (List.getElem?_eq_some_iff.1 hu).1
     have:i*e.sz+j < cap*e.sz:=by
      have h1:(i+1)*e.sz<=cap*e.sz:=Nat.mul_le_mul_right _ (by omega)
      rw[Nat.add_mul] at h1;omega
     simp[bp,this] at *
     omega
    ·have h1:=g4 b k
     have Y:=bi Fi hi b k
     omega
   ·rename_i hm;rw[if_neg hm];exact ⟨h.1,h.2.1,Ro.mono hc hA _ h.2.2⟩
 | ptr e ih=>
  intro m H v cs F F' h hF o8
  simp only[ak] at h ⊢
  split at h
  ·rename_i hh;rw[if_pos hh];exact h
  ·rename_i hh;rw[if_neg hh]
   split at h
   ·rename_i hm;rw[if_pos hm]
    obtain ⟨b,h1,Y,L,F1,h3,h4,h5,h6⟩:=h
    refine ⟨b,h1,hb _ _ Y,L,F1,h3,fun j u hu=>o8 _ _ ?_ u (h4 j u hu),fun x i=>Nat.le_trans (h5 x i) (hF x i),ih h6 (fun _ _=>Nat.le_refl _) (fun b' k hp=>o8 b' k ?_)⟩
    ·have:=h5 b (0+j)
     have hj:j < e.sz:=h3 ▸ (List.getElem?_eq_some_iff.1 hu).1
     simp[bp,hj] at *
     omega
    ·have:=h5 b' k;omega
   ·rename_i hm;rw[if_neg hm];exact ⟨h.1,h.2.1,Ro.mono hc hA _ h.2.2⟩
 | arr n e ih=>intro m H v cs F F' h hF o8;exact ⟨h.1,Ro.mono hc hA _ h.2⟩
 | map k v Lo Lp=>
  intro m H x cs F F' h hF o8
  simp only[ak] at h ⊢
  split at h
  ·rename_i hh;rw[if_pos hh];exact h
  ·rename_i hh;rw[if_neg hh]
   split at h
   ·rename_i hm;rw[if_pos hm]
    obtain ⟨h1,Y,r,kG,h3,h4,h5,h6,h7⟩:=h
    refine ⟨h1,Y,r,kG,h3,o8 _ _ h5 _ h4,Nat.le_trans h5 (hF r 0),h6,fun i y hy=>?_⟩
    obtain ⟨kc,vc,g1,g2,g3⟩:=h7 i y hy
    exact ⟨kc,vc,g1,Ro.mono hc hA k g2,Ro.mono hc hA v g3⟩
   ·rename_i hm;rw[if_neg hm];exact ⟨h.1,h.2.1,Ro.mono hc hA _ h.2.2⟩
 | _=>intro m H v cs F F' h hF o8;exact Ro.mono hc hA _ h
theorem ak.le {P:Program} {w:World} {A:Cells} {t:Ty} {m:Md} {H:List Path} {v:t.den} {cs:List Value} {F F':FP} (h:ak P w A t m H v cs F) (hF:∀ b i,F b i<=F' b i):ak P w A t m H v cs F':=
 ak.mono (fun _ _ h=>h) (fun _ _ _ _ h=>h) (fun _ _ h=>h) t h hF (fun _ _ _ _ h=>h)
theorem ak.o9 {P:Program} {w:World} {A A':Cells} (hA:∀ b i,A b i->A' b i) :
  ∀ (t:Ty) {m:Md} {v:t.den} {cs:List Value} {F:FP},ak P w A t m [] v cs F->(∀ b i,1<=F b i->A' b i)->Ro P w A' t v cs:=by
 intro t
 induction t with
 | pair a b ej d6=>
  intro m v cs F h hF
  obtain ⟨h0,F1,F2,hs,h1,Y⟩:=h
  exact ⟨ej h1 (fun b i hp=>hF b i (by have:=hs b i;omega)),d6 Y (fun b i hp=>hF b i (by have:=hs b i;omega))⟩
 | U e ih=>
  intro m v cs F h hF
  simp only[ak,hole,List.any_nil,Bool.false_eq_true,if_false] at h
  split at h
  ·obtain ⟨a,cap,h1,Y,h3,h4,h5⟩:=h
   refine ⟨a,cap,h1,Y,fun hn=>by have:=h4 hn;omega,fun ad cZ=>?_⟩
   obtain ⟨g1,g2,g3,Fi,g4,g5⟩:=h5 ad cZ
   refine ⟨fun _=>g2,fun i x hx=>?_⟩
   obtain ⟨L,hl,hL,hr⟩:=g5 i x hx
   have hi:i < List.length v:=(List.getElem?_eq_some_iff.1 hx).1
   refine ⟨L,hl,fun j u hu=>?_,ih hr fun b k hp=>hF b k ?_⟩
   ·rw[g1,Nat.zero_add]
    refine ⟨hL j u hu,hF _ _ ?_⟩
    have:=g4 ad.block (i*e.sz+j)
    have hj:j < e.sz:=hl ▸ (List.getElem?_eq_some_iff.1 hu).1
    have:i*e.sz+j < cap*e.sz:=by
     have h1:(i+1)*e.sz<=cap*e.sz:=Nat.mul_le_mul_right _ (by omega)
     rw[Nat.add_mul] at h1;omega
    simp[bp,this] at *
    omega
   ·have h1:=g4 b k
    have Y:=bi Fi hi b k
    omega
  ·exact Ro.mono (fun _ _ _ _ h=>h) hA _ h.2.2
 | ptr e ih=>
  intro m v cs F h hF
  simp only[ak,hole,List.any_nil,Bool.false_eq_true,if_false] at h
  split at h
  ·obtain ⟨b,h1,Y,L,F1,h3,h4,h5,h6⟩:=h
   refine ⟨_,h1,rfl,L,h3,fun j u hu=>⟨h4 j u hu,hF _ _ ?_⟩,ih h6 fun b' k hp=>hF _ _ ?_⟩
   ·have:=h5 b (0+j)
    have hj:j < e.sz:=h3 ▸ (List.getElem?_eq_some_iff.1 hu).1
    simp[bp,hj] at *
    omega
   ·have:=h5 b' k;omega
  ·exact Ro.mono (fun _ _ _ _ h=>h) hA _ h.2.2
 | arr n e ih=>intro m v cs F h hF;exact Ro.mono (fun _ _ _ _ h=>h) hA _ h.2
 | map k v Lo Lp=>
  intro m x cs F h hF
  simp only[ak,hole,List.any_nil,Bool.false_eq_true,if_false] at h
  split at h
  ·obtain ⟨h1,Y,r,kG,h3,h4,h5,h6,h7⟩:=h
   refine ⟨h1,Y,r,kG,h3,h4,hF _ _ h5,h6,fun i y hy=>?_⟩
   obtain ⟨kc,vc,g1,g2,g3⟩:=h7 i y hy
   exact ⟨kc,vc,g1,Ro.mono (fun _ _ _ _ h=>h) hA k g2,Ro.mono (fun _ _ _ _ h=>h) hA v g3⟩
  ·exact Ro.mono (fun _ _ _ _ h=>h) hA _ h.2.2
 | _=>intro m v cs F h hF;exact Ro.mono (fun _ _ _ _ h=>h) hA _ h
end OT
set_option linter.unusedVariables false
set_option linter.unusedSimpArgs false
namespace OT
open Go
theorem E8 {m:Md} (h:m.ee=true):m.l.ee=true:=by cases m <;> simp_all [Md.ee,Md.l]
theorem E9 {m:Md} (h:m.ee=true):m.r.ee=true:=by cases m <;> simp_all [Md.ee,Md.r]
theorem z6 {m:Md} (h:m.ee=true):m.e.ee=true:=by cases m <;> simp_all [Md.ee,Md.e]
theorem oP {m:Md} (h:m.ee=true):m.own=false:=by cases m <;> simp_all [Md.ee,Md.own]
theorem cX (t:Ty):(av t).ee=true:=by
 induction t <;> simp_all [av,ng,Md.ee]
theorem Na {m m1:Md} (h:fits m m1=true):fits m.l m1.l=true:=by cases m <;> cases m1 <;> simp_all [fits,Md.l]
theorem Nb {m m1:Md} (h:fits m m1=true):fits m.r m1.r=true:=by cases m <;> cases m1 <;> simp_all [fits,Md.r]
theorem Ib {m m1:Md} (h:fits m m1=true):fits m.e m1.e=true:=by cases m <;> cases m1 <;> simp_all [fits,Md.e]
theorem xG {m m1:Md} (h:fits m m1=true):m1.own=true->m.own=true:=by
 intro h1;cases m <;> cases m1 <;> simp_all [fits,Md.own]
theorem z7 {m m1:Md} (h:fits m m1=true) (h1:m1.own=false):m1.e.ee=true\/∃ e,m1=.arr e:=by
 cases m <;> cases m1 <;> simp_all [fits,Md.own,Md.e,Md.ee]
theorem tR:∀ {m m1:Md},fits m m1=true->m.ee=true->m1.ee=true:=by
 intro m
 induction m with
 | leaf=>intro m1 h hn;cases m1 <;> simp_all [fits,Md.ee]
 | pair a b ej d6=>
  intro m1 h hn
  cases m1 with
  | pair c d=>simp only[fits,Md.ee,Bool.and_eq_true] at *;exact ⟨ej h.1 hn.1,d6 h.2 hn.2⟩
  | _=>simp[fits] at h
 | arr e ih=>
  intro m1 h hn
  cases m1 with
  | arr d=>simp only[fits,Md.ee] at *;exact ih h hn
  | _=>simp[fits] at h
 | U o e ih=>
  intro m1 h hn
  cases m1 with
  | U o' d=>
   simp only[fits,Md.ee,Bool.and_eq_true,Bool.or_eq_true,Bool.not_eq_true'] at *
   rw[hn.1] at h
   exact ⟨by rcases h.1.1 with h | h;exact absurd h (by simp);exact h,ih h.2 hn.2⟩
  | _=>simp[fits] at h
 | ptr o e ih=>
  intro m1 h hn
  cases m1 with
  | ptr o' d=>
   simp only[fits,Md.ee,Bool.and_eq_true,Bool.or_eq_true,Bool.not_eq_true'] at *
   rw[hn.1] at h
   exact ⟨by rcases h.1.1 with h | h;exact absurd h (by simp);exact h,ih h.2 hn.2⟩
  | _=>simp[fits] at h
section
variable {P:Program} {w:World} {A:Cells}
theorem Ro.rep:∀ (t:Ty) {m:Md} {v:t.den} {cs:List Value} (F:FP),m.ee=true->Ro P w A t v cs->ak P w A t m [] v cs F:=by
 intro t
 induction t with
 | pair a b ej d6=>
  intro m v cs F hm h
  exact ⟨rfl,fun _ _=>0,fun _ _=>0,fun _ _=>Nat.zero_le _,ej _ (E8 hm) h.1,d6 _ (E9 hm) h.2⟩
 | U e ih=>intro m v cs F hm h;simp only[ak,hole,List.any_nil,Bool.false_eq_true,if_false,oP hm];exact ⟨trivial,z6 hm,h⟩
 | ptr e ih=>intro m v cs F hm h;simp only[ak,hole,List.any_nil,Bool.false_eq_true,if_false,oP hm];exact ⟨trivial,z6 hm,h⟩
 | arr n e ih=>intro m v cs F hm h;exact ⟨rfl,h⟩
 | map k v=>intro m x cs F hm h;simp only[ak,hole,List.any_nil,Bool.false_eq_true,if_false,oP hm];exact ⟨trivial,z6 hm,h⟩
 | _=>intro m v cs F hm h;exact h
theorem ak.ro:∀ (t:Ty) {m:Md} {v:t.den} {cs:List Value} {F:FP},m.ee=true->ak P w A t m [] v cs F->Ro P w A t v cs:=by
 intro t
 induction t with
 | pair a b ej d6=>
  intro m v cs F hm h
  obtain ⟨_,F1,F2,_,h1,Y⟩:=h
  exact ⟨ej (E8 hm) h1,d6 (E9 hm) Y⟩
 | U e ih=>intro m v cs F hm h;simp only[ak,hole,List.any_nil,Bool.false_eq_true,if_false,oP hm] at h;exact h.2.2
 | ptr e ih=>intro m v cs F hm h;simp only[ak,hole,List.any_nil,Bool.false_eq_true,if_false,oP hm] at h;exact h.2.2
 | arr n e ih=>intro m v cs F hm h;exact h.2
 | map k v=>intro m x cs F hm h;simp only[ak,hole,List.any_nil,Bool.false_eq_true,if_false,oP hm] at h;exact h.2.2
 | _=>intro m v cs F hm h;exact h
theorem Ro.flat:∀ (t:Ty) {m:Md} {v:t.den} {cs:List Value} (F:FP),t.flat=true->Ro P w A t v cs->ak P w A t m [] v cs F:=by
 intro t
 induction t with
 | pair a b ej d6=>
  intro m v cs F hm h
  simp only[Ty.flat,Bool.and_eq_true] at hm
  exact ⟨rfl,fun _ _=>0,fun _ _=>0,fun _ _=>Nat.zero_le _,ej _ hm.1 h.1,d6 _ hm.2 h.2⟩
 | U e ih=>intro m v cs F hm;simp[Ty.flat] at hm
 | ptr e ih=>intro m v cs F hm;simp[Ty.flat] at hm
 | arr n e ih=>intro m v cs F hm h;exact ⟨rfl,h⟩
 | map k v=>intro m v cs F hm;simp[Ty.flat] at hm
 | _=>intro m v cs F hm h;exact h
theorem ak.flat:∀ (t:Ty) {m:Md} {H:List Path} {v:t.den} {cs:List Value} {F:FP},t.flat=true->ak P w A t m H v cs F->Ro P w A t v cs:=by
 intro t
 induction t with
 | pair a b ej d6=>
  intro m H v cs F hm h
  simp only[Ty.flat,Bool.and_eq_true] at hm
  obtain ⟨_,F1,F2,_,h1,Y⟩:=h
  exact ⟨ej hm.1 h1,d6 hm.2 Y⟩
 | U e ih=>intro m H v cs F hm;simp[Ty.flat] at hm
 | ptr e ih=>intro m H v cs F hm;simp[Ty.flat] at hm
 | arr n e ih=>intro m H v cs F hm h;exact h.2
 | map k v=>intro m H v cs F hm;simp[Ty.flat] at hm
 | _=>intro m H v cs F hm h;exact h
theorem ak.fits:∀ (t:Ty) {m m1:Md} {v:t.den} {cs:List Value} {F:FP},fits m m1=true->ak P w A t m [] v cs F->(∀ b i,F b i<=1) ->
  ∃ F1:FP,(∀ b i,F1 b i<=F b i)/\∀ A':Cells,(∀ b i,A b i->A' b i)->(∀ b i,1<=F b i->F1 b i=0->A' b i)->ak P w A' t m1 [] v cs F1:=by
 intro t
 induction t with
 | pair a b ej d6=>
  intro m m1 v cs F hf h hF
  obtain ⟨_,Fa,Fb,hs,h1,Y⟩:=h
  obtain ⟨G1,PJ,k1⟩:=ej (Na hf) h1 (fun b i=>by have:=hs b i;have:=hF b i;omega)
  obtain ⟨G2,PK,k2⟩:=d6 (Nb hf) Y (fun b i=>by have:=hs b i;have:=hF b i;omega)
  refine ⟨fun b i=>G1 b i+G2 b i,fun b i=>by have:=hs b i;have:=PJ b i;have:=PK b i;show G1 b i+G2 b i<=_;omega,fun A' hA ig=>⟨rfl,G1,G2,fun _ _=>Nat.le_refl _,k1 A' hA fun b i hp hz=>?_,k2 A' hA fun b i hp hz=>?_⟩⟩
  ·have:=hs b i;have:=hF b i;have:=PK b i
   exact ig b i (by omega) (by show G1 b i+G2 b i=0;omega)
  ·have:=hs b i;have:=hF b i;have:=PJ b i
   exact ig b i (by omega) (by show G1 b i+G2 b i=0;omega)
 | U e ih=>
  intro m m1 v cs F hf h hF
  by_cases nT:m1.own=true
  ·have hm:=xG hf nT
   simp only[ak,hole,List.any_nil,Bool.false_eq_true,if_false,hm,if_true] at h
   obtain ⟨a,cap,h1,Y,h3,h4,h5⟩:=h
   cases a with
   | none=>
    refine ⟨fun _ _=>0,fun _ _=>Nat.zero_le _,fun A' hA ig=>?_⟩
    simp only[ak,hole,List.any_nil,Bool.false_eq_true,if_false,nT,if_true]
    exact ⟨none,cap,h1,Y,h3,h4,fun ad cZ=>by cases cZ⟩
   | some ad=>
    obtain ⟨g1,g2,g3,Fi,g4,g5⟩:=h5 ad rfl
    have each:∀ i,∃ Gi:FP,(∀ b k,Gi b k<=Fi i b k)/\∀ A':Cells,(∀ b i,A b i->A' b i)->(∀ b k,1<=Fi i b k->Gi b k=0->A' b k) ->
      ∀ x,v[i]?=some x->∃ L:List Value,L.length=e.sz/\Has w ad.block (i*e.sz) L/\ak P w A' e m1.e (([]:List Path).filterMap (gt i)) x L Gi:=by
     intro i
     cases hx:(v:List e.den)[i]? with
     | none=>exact ⟨fun _ _=>0,fun _ _=>Nat.zero_le _,fun A' _ _ x Cb=>by cases Cb⟩
     | some x=>
      obtain ⟨L,hl,hL,hr⟩:=g5 i x hx
      have hi:i < List.length v:=(List.getElem?_eq_some_iff.1 hx).1
      obtain ⟨G,hG,k⟩:=ih (Ib hf) hr (fun b k=>by have:=bi Fi hi b k;have:=g4 b k;have:=hF b k;omega)
      exact ⟨G,hG,fun A' hA ig x' Cb=>by injection Cb with Cb;subst Cb;exact ⟨L,hl,hL,k A' hA ig⟩⟩
    have ⟨Gi,Nc⟩:=Classical.axiomOfChoice each
    refine ⟨fun b k=>bp ad.block 0 (cap*e.sz) b k+az (List.length v) Gi b k,fun b k=>?_,fun A' hA ig=>?_⟩
    ·have:=g4 b k;have:=zZ b k (f:=Gi) (g:=Fi) (n:=List.length v) fun j _=>(Nc j).1 b k
     show bp ad.block 0 (cap*e.sz) b k+az (List.length v) Gi b k<=_;omega
    ·simp only[ak,hole,List.any_nil,Bool.false_eq_true,if_false,nT,if_true]
     refine ⟨some ad,cap,h1,Y,h3,h4,fun a7 xH=>?_⟩
     injection xH with xH;subst xH
     refine ⟨g1,g2,g3,Gi,fun _ _=>Nat.le_refl _,fun i x hx=>(Nc i).2 A' hA (fun b k hp hz=>?_) x hx⟩
     have hi:i < List.length v:=(List.getElem?_eq_some_iff.1 hx).1
     have h1:=g4 b k;have Y:=hF b k;have h3:=bi Fi hi b k
     refine ig b k (by omega) ?_
     show bp ad.block 0 (cap*e.sz) b k+az (List.length v) Gi b k=0
     have:az (List.length v) Gi b k=0:=by
      rcases Nat.eq_zero_or_pos (az (List.length v) Gi b k) with h0 | h0
      ·exact h0
      ·obtain ⟨j,hj,PL⟩:=Ca h0
       have:=(Nc j).1 b k
       by_cases gi:j=i
       ·subst gi;omega
       ·have:=nk Fi hj hi gi b k;omega
     omega
  ·have vx:m1.own=false:=by simpa using nT
   have lj:m1.e.ee=true:=by
    rcases z7 hf vx with h | ⟨e',rfl⟩
    ·exact h
    ·cases m <;> simp[OT.fits] at hf
     simp only[ak,hole,List.any_nil,Bool.false_eq_true,if_false,Md.own] at h
     exact tR hf h.2.1
   refine ⟨fun _ _=>0,fun _ _=>Nat.zero_le _,fun A' hA ig=>?_⟩
   have l7:=ak.o9 hA _ h (fun b i hp=>ig b i hp rfl)
   simp only[ak,hole,List.any_nil,Bool.false_eq_true,if_false,vx]
   exact ⟨trivial,lj,l7⟩
 | ptr e ih=>
  intro m m1 v cs F hf h hF
  by_cases nT:m1.own=true
  ·have hm:=xG hf nT
   simp only[ak,hole,List.any_nil,Bool.false_eq_true,if_false,hm,if_true] at h
   obtain ⟨b,h1,Y,L,F1,h3,h4,h5,h6⟩:=h
   obtain ⟨G,hG,k⟩:=ih (Ib hf) h6 (fun b' i=>by have:=h5 b' i;have:=hF b' i;omega)
   refine ⟨fun b' k=>bp b 0 e.sz b' k+G b' k,fun b' k=>by have:=h5 b' k;have:=hG b' k;show bp b 0 e.sz b' k+G b' k<=_;omega,fun A' hA ig=>?_⟩
   simp only[ak,hole,List.any_nil,Bool.false_eq_true,if_false,nT,if_true]
   refine ⟨b,h1,Y,L,G,h3,h4,fun _ _=>Nat.le_refl _,k A' hA fun b' i hp hz=>ig b' i ?_ ?_⟩
   ·have:=h5 b' i;omega
   ·have:=h5 b' i;have:=hF b' i
    show bp b 0 e.sz b' i+G b' i=0
    omega
  ·have vx:m1.own=false:=by simpa using nT
   have lj:m1.e.ee=true:=by
    rcases z7 hf vx with h | ⟨e',rfl⟩
    ·exact h
    ·cases m <;> simp[OT.fits] at hf
     simp only[ak,hole,List.any_nil,Bool.false_eq_true,if_false,Md.own] at h
     exact tR hf h.2.1
   refine ⟨fun _ _=>0,fun _ _=>Nat.zero_le _,fun A' hA ig=>?_⟩
   have l7:=ak.o9 hA _ h (fun b i hp=>ig b i hp rfl)
   simp only[ak,hole,List.any_nil,Bool.false_eq_true,if_false,vx]
   exact ⟨trivial,lj,l7⟩
 | arr n e ih=>intro m m1 v cs F hf h hF;exact ⟨fun _ _=>0,fun _ _=>Nat.zero_le _,fun A' hA ig=>⟨rfl,Ro.mono (fun _ _ _ _ h=>h) hA _ h.2⟩⟩
 | map k v Lo Lp=>
  intro m m1 x cs F hf h hF
  by_cases nT:m1.own=true
  ·have hm:=xG hf nT
   simp only[ak,hole,List.any_nil,Bool.false_eq_true,if_false,hm,if_true] at h
   obtain ⟨h1,Y,r,kG,h3,h4,h5,h6,h7⟩:=h
   refine ⟨F,fun _ _=>Nat.le_refl _,fun A' hA ig=>?_⟩
   simp only[ak,hole,List.any_nil,Bool.false_eq_true,if_false,nT,if_true]
   refine ⟨h1,Y,r,kG,h3,h4,h5,h6,fun i y hy=>?_⟩
   obtain ⟨kc,vc,g1,g2,g3⟩:=h7 i y hy
   exact ⟨kc,vc,g1,Ro.mono (fun _ _ _ _ h=>h) hA k g2,Ro.mono (fun _ _ _ _ h=>h) hA v g3⟩
  ·have vx:m1.own=false:=by simpa using nT
   have lj:m1.e.ee=true:=by
    rcases z7 hf vx with h | ⟨e',rfl⟩
    ·exact h
    ·cases m <;> simp[OT.fits] at hf
     simp only[ak,hole,List.any_nil,Bool.false_eq_true,if_false,Md.own] at h
     exact tR hf h.2.1
   refine ⟨fun _ _=>0,fun _ _=>Nat.zero_le _,fun A' hA ig=>?_⟩
   have l7:=ak.o9 hA _ h (fun b i hp=>ig b i hp rfl)
   simp only[ak,hole,List.any_nil,Bool.false_eq_true,if_false,vx]
   exact ⟨trivial,lj,l7⟩
 | _=>intro m m1 v cs F hf h hF;exact ⟨fun _ _=>0,fun _ _=>Nat.zero_le _,fun A' hA ig=>Ro.mono (fun _ _ _ _ h=>h) hA _ h⟩
end
end OT
set_option linter.unusedVariables false
set_option linter.unusedSimpArgs false
namespace OT
open Go
def rd (w:World) (b o n:Nat):List Value:=(List.range n).map fun j=>(ce w b (o+j)).getD undef
theorem qi (w:World) (b o n:Nat):(rd w b o n).length=n:=by simp[rd]
theorem bC {w:World} {b o:Nat} {L:List Value} {n:Nat} (h:Has w b o L) (hn:L.length=n):rd w b o n=L:=by
 subst hn
 apply List.ext_getElem?
 intro j
 unfold rd
 rw[List.getElem?_map]
 by_cases hj:j < L.length
 ·rw[List.getElem?_range hj]
  have:=h j L[j] (List.getElem?_eq_getElem hj)
  simp[this,List.getElem?_eq_getElem hj]
 ·simp[List.getElem?_eq_none (Nat.le_of_not_lt hj),List.getElem?_eq_none (l:=List.range L.length) (by simpa using Nat.le_of_not_lt hj)]
structure Pl where
 t:Ty
 H:List Path
 cs:List Value
 ad:Option (Nat×Nat)
def cI (ad:Option (Nat×Nat)) (k:Nat):Option (Nat×Nat):=ad.map fun x=>(x.1,x.2+k)
def aH (w:World):Path->Ty->List Path->List Value->Option (Nat×Nat)->Option Pl
 | [],t,H,cs,ad=>some ⟨t,H,cs,ad⟩
 | .fst::p,.pair a _,H,cs,ad=>if hole H then none else aH w p a (H.filterMap n9) (cs.take a.sz) ad
 | .snd::p,.pair a b,H,cs,ad=>if hole H then none else aH w p b (H.filterMap n_) (cs.drop a.sz) (cI ad a.sz)
 | .idx i::p,.U e,H,cs,_=>if hole H then none else match cs with
  | [.slice (some a) n _]=>if i < n then aH w p e (H.filterMap (gt i)) (rd w a.block (a.off+i*e.sz) e.sz) (some (a.block,a.off+i*e.sz)) else none
  | _=>none
 | .jr i::p,.arr n e,H,cs,ad=>if H.isEmpty then (if i < n then aH w p e [] ((cs.drop (i*e.sz)).take e.sz) (cI ad (i*e.sz)) else none) else none
 | _,_,_,_,_=>none
def ou:Ty->Bool
 | .U _ | .map _ _=>true
 | _=>false
def lk (d:Nat) (full:Prop) (w:World) (t:Ty) (H:List Path) (cs:List Value) (ad:Option (Nat×Nat)) (w2:World) (H2:List Path) (bm:List Value):Prop:=
 ∀ q pl,bq q<=d->aH w q t H cs ad=some pl->∃ H' aM,aH w2 q t H2 bm ad=some ⟨pl.t,H',aM,pl.ad⟩/\((bq q < d/\ou pl.t=true)\/full->aM=pl.cs)
theorem vy {R:Type} {H:List Path} {i:Nat} {K:List Path->Option R} {r:R} (h:pH H i K=some r) :
  K (H.filterMap (gt i))=some r/\(∀ j,j≠i->H.filterMap (gt j)=[])/\hole H=false:=by
 unfold pH at h
 split at h
 ·exact ⟨h,fun _ _=>rfl,rfl⟩
 ·rename_i j q
  split at h
  ·rename_i jt;subst jt
   refine ⟨by simpa [gt] using h,fun j hj=>by simp[gt,hj],rfl⟩
  ·cases h
 ·cases h
theorem tS {R S:Type} {H:List Path} {i:Nat} {K:List Path->Option R} {r:R} (h:pH H i K=some r) (K2:List Path->Option S) :
  pH H i K2=K2 (H.filterMap (gt i)):=by
 unfold pH at h ⊢
 split at h
 ·rfl
 ·rename_i j q
  split at h
  ·rename_i jt;subst jt
   simp[gt]
  ·cases h
 ·cases h
theorem mM (H:List Path):(H.map (.fst::·)).filterMap n9=H:=by
 induction H with
 | nil=>rfl
 | cons a H ih=>simp only[List.map_cons,List.filterMap_cons,n9,ih]
theorem mN (H:List Path):(H.map (.snd::·)).filterMap n_=H:=by
 induction H with
 | nil=>rfl
 | cons a H ih=>simp only[List.map_cons,List.filterMap_cons,n_,ih]
theorem nm (H:List Path):(H.map (.snd::·)).filterMap n9=[]:=by
 induction H with
 | nil=>rfl
 | cons a H ih=>simp[n9] at *
theorem no (H:List Path):(H.map (.fst::·)).filterMap n_=[]:=by
 induction H with
 | nil=>rfl
 | cons a H ih=>simp[n_] at *
theorem u0 (i:Nat) (H:List Path):(H.map (.idx i::·)).filterMap (gt i)=H:=by
 induction H with
 | nil=>rfl
 | cons a H ih=>simp only[List.map_cons,List.filterMap_cons,gt,if_true,ih]
theorem rD {i j:Nat} (h:j≠i) (H:List Path):(H.map (.idx i::·)).filterMap (gt j)=[]:=by
 induction H with
 | nil=>rfl
 | cons a H ih=>simp[gt,h] at *
theorem ke (s:Step) (H:List Path):hole (H.map (s::·))=false:=by
 induction H with
 | nil=>rfl
 | cons a H ih=>simp[hole] at *
theorem lP (H1 H2:List Path):hole (H1++H2)=(hole H1||hole H2):=by simp[hole]
theorem OX {w:World}:∀ (q:Path) (t:Ty) {H H2:List Path} {cs:List Value} {ad:Option (Nat×Nat)} {pl Cc:Pl},aH w q t H cs ad=some pl->aH w q t H2 cs ad=some Cc->Cc.t=pl.t/\Cc.cs=pl.cs/\Cc.ad=pl.ad:=by
 intro q
 induction q with
 | nil=>intro t H H2 cs ad pl Cc h Y;simp only[aH,Option.some.injEq] at h Y;subst h;subst Y;exact ⟨rfl,rfl,rfl⟩
 | cons s q ih=>
  intro t H H2 cs ad pl Cc h Y
  cases t with
  | pair a b=>
   cases s with
   | fst=>simp only[aH] at h Y;split at h;cases h;split at Y;cases Y;exact ih a h Y
   | snd=>simp only[aH] at h Y;split at h;cases h;split at Y;cases Y;exact ih b h Y
   | _=>simp[aH] at h
  | U e=>
   cases s with
   | idx i=>
    simp only[aH] at h Y
    split at h
    ·cases h
    ·split at Y
     ·cases Y
     ·split at h
      ·split at h
       ·rename_i hi;simp only[hi,if_true] at Y;exact ih e h Y
       ·cases h
      ·cases h
   | _=>simp[aH] at h
  | arr n e=>
   cases s with
   | jr i=>
    simp only[aH] at h Y
    split at h
    ·split at h
     ·split at Y
      ·exact ih e h Y
      ·cases Y
     ·cases h
    ·cases h
   | _=>simp[aH] at h
  | _=>cases s <;> simp[aH] at h
section
variable {P:Program}
theorem oQ {w w2:World} {A:Cells} (hA:∀ b i,A b i->∀ u,ce w b i=some u->ce w2 b i=some u) :
  ∀ (q:Path) (t:Ty) {m:Md} {H:List Path} {v:t.den} {cs:List Value} {F:FP} {ad:Option (Nat×Nat)} {pl:Pl},ak P w A t m H v cs F->(∀ b i,1<=F b i->∀ u,ce w b i=some u->ce w2 b i=some u) ->
  aH w q t H cs ad=some pl->aH w2 q t H cs ad=some pl:=by
 intro q
 induction q with
 | nil=>intro t m H v cs F ad pl _ _ h;exact h
 | cons s q ih=>
  intro t m H v cs F ad pl hr hF h
  cases t with
  | pair a b=>
   obtain ⟨h0,F1,F2,hs,h1,Y⟩:=hr
   cases s with
   | fst=>simp only[aH,h0,if_false] at h ⊢;exact ih a h1 (fun b i hp=>hF b i (by have:=hs b i;omega)) h
   | snd=>simp only[aH,h0,if_false] at h ⊢;exact ih b Y (fun b i hp=>hF b i (by have:=hs b i;omega)) h
   | idx i=>simp[aH] at h
   | jr i=>simp[aH] at h
  | U e=>
   cases s with
   | fst=>simp[aH] at h
   | snd=>simp[aH] at h
   | jr i=>simp[aH] at h
   | idx i=>
    simp only[ak] at hr
    simp only[aH] at h ⊢
    split at h
    ·cases h
    ·rename_i hh
     rw[if_neg hh]
     rw[if_neg hh] at hr
     split at hr
     ·obtain ⟨a,cap,rfl,Y,h3,h4,h5⟩:=hr
      cases a with
      | none=>cases h
      | some co=>
       obtain ⟨g1,g2,g3,Fi,g4,g5⟩:=h5 co rfl
       simp only at h ⊢
       split at h
       ·rename_i hi
        rw[if_pos hi]
        obtain ⟨L,hl,hL,cK⟩:=g5 i _ (List.getElem?_eq_getElem hi)
        have aj:(i+1)*e.sz<=cap*e.sz:=Nat.mul_le_mul_right _ (by omega)
        rw[Nat.add_mul] at aj
        have RK:Has w2 co.block (i*e.sz) L:=fun j u hu=>by
         have hj:j < e.sz:=hl ▸ (List.getElem?_eq_some_iff.1 hu).1
         refine hF _ _ ?_ u (hL j u hu)
         have:=g4 co.block (i*e.sz+j)
         have h0:i*e.sz+j < cap*e.sz:=by omega
         simp[bp,h0] at this;omega
        rw[g1,Nat.zero_add,bC hL hl] at h
        rw[g1,Nat.zero_add,bC RK hl]
        exact ih e cK (fun b k hp=>hF b k (by have:=g4 b k;have:=bi Fi hi b k;omega)) h
       ·cases h
     ·obtain ⟨rfl,lj,a,cap,rfl,Y,h3,h4⟩:=hr
      cases a with
      | none=>cases h
      | some co=>
       simp only at h ⊢
       split at h
       ·rename_i hi
        rw[if_pos hi]
        obtain ⟨L,hl,hL,cK⟩:=(h4 co rfl).2 i _ (List.getElem?_eq_getElem hi)
        rw[bC (fun j u hu=>(hL j u hu).1) hl] at h
        rw[bC (fun j u hu=>hA _ _ (hL j u hu).2 u (hL j u hu).1) hl]
        exact ih e (Ro.rep e (fun _ _=>0) lj cK) (fun b k hp=>by simp at hp) h
       ·cases h
  | arr n e=>
   cases s with
   | fst=>simp[aH] at h
   | snd=>simp[aH] at h
   | idx i=>simp[aH] at h
   | jr i=>
    obtain ⟨rfl,hf,hl,hlen,hr⟩:=hr
    simp only[aH,List.isEmpty_nil,if_true] at h ⊢
    split at h
    ·rename_i hi
     rw[if_pos hi]
     exact ih e (Ro.flat e (m:=.leaf) (fun _ _=>0) hf (hr i _ (List.getElem?_eq_getElem (by rw[hl];exact hi)))) (fun b k hp=>by simp at hp) h
    ·cases h
  | _=>cases s <;> simp[aH] at h
theorem Ic {w:World} {A:Cells} {S:Nat->Nat->Prop} (hA:∀ b i,A b i->S b i) :
  ∀ (q:Path) (t:Ty) {m:Md} {H:List Path} {v:t.den} {cs:List Value} {F:FP} {ad:Option (Nat×Nat)} {pl:Pl},ak P w A t m H v cs F->(∀ b i,1<=F b i->S b i) ->
  (∀ b o,ad=some (b,o)->∀ j,j < t.sz->S b (o+j))->aH w q t H cs ad=some pl->∀ b o,pl.ad=some (b,o)->∀ j,j < pl.t.sz->S b (o+j):=by
 intro q
 induction q with
 | nil=>intro t m H v cs F ad pl _ _ cZ h;simp only[aH,Option.some.injEq] at h;subst h;exact cZ
 | cons s q ih=>
  intro t m H v cs F ad pl hr hF cZ h
  cases t with
  | pair a b=>
   obtain ⟨h0,F1,F2,hs,h1,Y⟩:=hr
   cases s with
   | fst=>simp only[aH,h0,if_false] at h;exact ih a h1 (fun b i hp=>hF b i (by have:=hs b i;omega)) (fun b' o e j hj=>cZ b' o e j (by simp only[Ty.sz];omega)) h
   | snd=>
    simp only[aH,h0,if_false] at h
    refine ih b Y (fun b i hp=>hF b i (by have:=hs b i;omega)) (fun b' o e j hj=>?_) h
    cases ad with
    | none=>cases e
    | some y=>
     simp only[cI,Option.map_some,Option.some.injEq,Prod.mk.injEq] at e
     obtain ⟨rfl,rfl⟩:=e
     have:=cZ y.1 y.2 rfl (a.sz+j) (by simp only[Ty.sz];omega)
     rwa [Nat.add_assoc]
   | idx i=>simp[aH] at h
   | jr i=>simp[aH] at h
  | U e=>
   cases s with
   | fst=>simp[aH] at h
   | snd=>simp[aH] at h
   | jr i=>simp[aH] at h
   | idx i=>
    simp only[ak] at hr
    simp only[aH] at h
    split at h
    ·cases h
    ·rename_i hh
     rw[if_neg hh] at hr
     split at hr
     ·obtain ⟨a,cap,rfl,Y,h3,h4,h5⟩:=hr
      cases a with
      | none=>cases h
      | some co=>
       obtain ⟨g1,g2,g3,Fi,g4,g5⟩:=h5 co rfl
       simp only at h
       split at h
       ·rename_i hi
        obtain ⟨L,hl,hL,cK⟩:=g5 i _ (List.getElem?_eq_getElem hi)
        have aj:(i+1)*e.sz<=cap*e.sz:=Nat.mul_le_mul_right _ (by omega)
        rw[Nat.add_mul] at aj
        rw[g1,Nat.zero_add,bC hL hl] at h
        refine ih e cK (fun b k hp=>hF b k (by have:=g4 b k;have:=bi Fi hi b k;omega)) (fun b' o e' j hj=>?_) h
        simp only[Option.some.injEq,Prod.mk.injEq] at e'
        obtain ⟨rfl,rfl⟩:=e'
        refine hF _ _ ?_
        have:=g4 co.block (i*e.sz+j)
        have h0:i*e.sz+j < cap*e.sz:=by omega
        simp[bp,h0] at this;omega
       ·cases h
     ·obtain ⟨rfl,lj,a,cap,rfl,Y,h3,h4⟩:=hr
      cases a with
      | none=>cases h
      | some co=>
       simp only at h
       split at h
       ·rename_i hi
        obtain ⟨L,hl,hL,cK⟩:=(h4 co rfl).2 i _ (List.getElem?_eq_getElem hi)
        rw[bC (fun j u hu=>(hL j u hu).1) hl] at h
        refine ih e (Ro.rep e (fun _ _=>0) lj cK) (fun b k hp=>by simp at hp) (fun b' o e' j hj=>?_) h
        simp only[Option.some.injEq,Prod.mk.injEq] at e'
        obtain ⟨rfl,rfl⟩:=e'
        exact hA _ _ (hL j _ (List.getElem?_eq_getElem (by omega))).2
       ·cases h
  | arr n e=>
   cases s with
   | fst=>simp[aH] at h
   | snd=>simp[aH] at h
   | idx i=>simp[aH] at h
   | jr i=>
    obtain ⟨rfl,hf,hl,hlen,hr⟩:=hr
    simp only[aH,List.isEmpty_nil,if_true] at h
    split at h
    ·rename_i hi
     refine ih e (Ro.flat e (m:=.leaf) (fun _ _=>0) hf (hr i _ (List.getElem?_eq_getElem (by rw[hl];exact hi)))) (fun b k hp=>by simp at hp) (fun b' o e' j hj=>?_) h
     cases ad with
     | none=>cases e'
     | some y=>
      simp only[cI,Option.map_some,Option.some.injEq,Prod.mk.injEq] at e'
      obtain ⟨rfl,rfl⟩:=e'
      have aj:(i+1)*e.sz<=n*e.sz:=Nat.mul_le_mul_right _ hi
      rw[Nat.add_mul] at aj
      have:=cZ y.1 y.2 rfl (i*e.sz+j) (by simp only[Ty.sz];omega)
      rwa [Nat.add_assoc]
    ·cases h
  | _=>cases s <;> simp[aH] at h
theorem Ms {w:World} {A:Cells} :
  ∀ (q:Path) (t:Ty) {m:Md} {H:List Path} {v:t.den} {cs:List Value} {F:FP} {ad:Option (Nat×Nat)} {pl:Pl},ak P w A t m H v cs F ->
  (∀ b o,ad=some (b,o)->Has w b o cs)->aH w q t H cs ad=some pl->(∀ b o,pl.ad=some (b,o)->Has w b o pl.cs)/\∃ (m':Md) (v':pl.t.den) (F':FP),ak P w A pl.t m' pl.H v' pl.cs F':=by
 intro q
 induction q with
 | nil=>intro t m H v cs F ad pl hr cZ h;simp only[aH,Option.some.injEq] at h;subst h;exact ⟨cZ,m,v,F,hr⟩
 | cons s q ih=>
  intro t m H v cs F ad pl hr cZ h
  cases t with
  | pair a b=>
   obtain ⟨h0,F1,F2,hs,h1,Y⟩:=hr
   cases s with
   | fst=>
    simp only[aH,h0,if_false] at h
    exact ih a h1 (fun b' o e j u hu=>cZ b' o e j u (by rw[List.getElem?_take] at hu;split at hu;exact hu;cases hu)) h
   | snd=>
    simp only[aH,h0,if_false] at h
    refine ih b Y (fun b' o e j u hu=>?_) h
    cases ad with
    | none=>cases e
    | some y=>
     simp only[cI,Option.map_some,Option.some.injEq,Prod.mk.injEq] at e
     obtain ⟨rfl,rfl⟩:=e
     rw[List.getElem?_drop] at hu
     have:=cZ y.1 y.2 rfl (a.sz+j) u hu
     rwa [Nat.add_assoc]
   | idx i=>simp[aH] at h
   | jr i=>simp[aH] at h
  | U e=>
   cases s with
   | fst=>simp[aH] at h
   | snd=>simp[aH] at h
   | jr i=>simp[aH] at h
   | idx i=>
    simp only[ak] at hr
    simp only[aH] at h
    split at h
    ·cases h
    ·rename_i hh
     rw[if_neg hh] at hr
     split at hr
     ·obtain ⟨a,cap,rfl,Y,h3,h4,h5⟩:=hr
      cases a with
      | none=>cases h
      | some co=>
       obtain ⟨g1,g2,g3,Fi,g4,g5⟩:=h5 co rfl
       simp only at h
       split at h
       ·rename_i hi
        obtain ⟨L,hl,hL,cK⟩:=g5 i _ (List.getElem?_eq_getElem hi)
        rw[g1,Nat.zero_add,bC hL hl] at h
        refine ih e cK (fun b' o e'=>?_) h
        simp only[Option.some.injEq,Prod.mk.injEq] at e'
        obtain ⟨rfl,rfl⟩:=e'
        exact hL
       ·cases h
     ·obtain ⟨rfl,lj,a,cap,rfl,Y,h3,h4⟩:=hr
      cases a with
      | none=>cases h
      | some co=>
       simp only at h
       split at h
       ·rename_i hi
        obtain ⟨L,hl,hL,cK⟩:=(h4 co rfl).2 i _ (List.getElem?_eq_getElem hi)
        rw[bC (fun j u hu=>(hL j u hu).1) hl] at h
        refine ih e (Ro.rep e (fun _ _=>0) lj cK) (fun b' o e'=>?_) h
        simp only[Option.some.injEq,Prod.mk.injEq] at e'
        obtain ⟨rfl,rfl⟩:=e'
        exact fun j u hu=>(hL j u hu).1
       ·cases h
  | arr n e=>
   cases s with
   | fst=>simp[aH] at h
   | snd=>simp[aH] at h
   | idx i=>simp[aH] at h
   | jr i=>
    obtain ⟨rfl,hf,hl,hlen,hr⟩:=hr
    simp only[aH,List.isEmpty_nil,if_true] at h
    split at h
    ·rename_i hi
     refine ih e (Ro.flat e (m:=.leaf) (fun _ _=>0) hf (hr i _ (List.getElem?_eq_getElem (by rw[hl];exact hi)))) (fun b' o e' j u hu=>?_) h
     cases ad with
     | none=>cases e'
     | some y=>
      simp only[cI,Option.map_some,Option.some.injEq,Prod.mk.injEq] at e'
      obtain ⟨rfl,rfl⟩:=e'
      rw[List.getElem?_take] at hu
      split at hu
      ·rw[List.getElem?_drop] at hu
       have:=cZ y.1 y.2 rfl (i*e.sz+j) u hu
       rwa [Nat.add_assoc]
      ·cases hu
    ·cases h
  | _=>cases s <;> simp[aH] at h
theorem sq {w w2:World} {A A2:Cells} :
  ∀ (q:Path) (t:Ty) {m m2:Md} {H H2:List Path} {v v2:t.den} {cs bm:List Value} {F F2:FP} {ad:Option (Nat×Nat)} {pl:Pl},
  ak P w2 A2 t m2 H2 v2 bm F2->(bq q=0\/t.flat=true) ->
  aH w q t H cs ad=some pl->∃ H' aM,aH w2 q t H2 bm ad=some ⟨pl.t,H',aM,pl.ad⟩/\(t.flat=true->ou pl.t=false):=by
 intro q
 induction q with
 | nil=>
  intro t m m2 H H2 v v2 cs bm F F2 ad pl hr hq h
  simp only[aH,Option.some.injEq] at h
  subst h
  exact ⟨_,_,rfl,fun hf=>by cases t <;> simp_all [Ty.flat,ou]⟩
 | cons s q ih=>
  intro t m m2 H H2 v v2 cs bm F F2 ad pl hr hq h
  cases t with
  | pair a b=>
   obtain ⟨h0,F1,F2,hs,h1,Y⟩:=hr
   simp only[Ty.flat,Bool.and_eq_true] at hq ⊢
   cases s with
   | fst=>
    simp only[aH,h0,if_false] at h ⊢
    split at h
    ·cases h
    ·obtain ⟨H',aM,h3,h4⟩:=ih a (v:=v.1) (m:=.leaf) (F:=F) h1 (hq.imp (fun h=>by simpa [bq] using h) (·.1)) h
     exact ⟨H',aM,by simpa using h3,fun hf=>h4 hf.1⟩
   | snd=>
    simp only[aH,h0,if_false] at h ⊢
    split at h
    ·cases h
    ·obtain ⟨H',aM,h3,h4⟩:=ih b (v:=v.2) (m:=.leaf) (F:=F) Y (hq.imp (fun h=>by simpa [bq] using h) (·.2)) h
     exact ⟨H',aM,by simpa using h3,fun hf=>h4 hf.2⟩
   | idx i=>simp[aH] at h
   | jr i=>simp[aH] at h
  | U e=>
   cases s with
   | fst=>simp[aH] at h
   | snd=>simp[aH] at h
   | jr i=>simp[aH] at h
   | idx i=>simp[bq,Ty.flat] at hq
  | arr n e=>
   cases s with
   | fst=>simp[aH] at h
   | snd=>simp[aH] at h
   | idx i=>simp[aH] at h
   | jr i=>
    obtain ⟨rfl,hf,hl,hlen,hr⟩:=hr
    simp only[aH,List.isEmpty_nil,if_true] at h ⊢
    split at h
    ·split at h
     ·rename_i hi
      rw[if_pos hi]
      obtain ⟨H',aM,h3,h4⟩:=ih e (v:=e.zero) (m:=.leaf) (F:=F) (Ro.flat e (m:=.leaf) (fun _ _=>0) hf (hr i _ (List.getElem?_eq_getElem (by rw[hl];exact hi)))) (.inr hf) h
      exact ⟨H',aM,h3,fun _=>h4 hf⟩
     ·cases h
    ·cases h
  | _=>cases s <;> simp[aH] at h
theorem lk.zero {w w2:World} {A A2:Cells} {t:Ty} {m2:Md} {H H2:List Path} {v2:t.den} {cs bm:List Value} {F2:FP} (ad:Option (Nat×Nat)) (h:ak P w2 A2 t m2 H2 v2 bm F2):lk 0 False w t H cs ad w2 H2 bm:=by
 intro q pl hq hp
 obtain ⟨H',aM,h1,_⟩:=sq (A:=A) (m:=m2) (v:=v2) (F:=F2) q t h (.inl (by omega)) hp
 exact ⟨H',aM,h1,fun h=>by rcases h with h | h;omega;exact h.elim⟩
theorem lk.flat {w w2:World} {A A2:Cells} {t:Ty} {m2:Md} {H H2:List Path} {v2:t.den} {cs bm:List Value} {F2:FP} (ad:Option (Nat×Nat)) (h:ak P w2 A2 t m2 H2 v2 bm F2) (hf:t.flat=true) (d:Nat):lk d False w t H cs ad w2 H2 bm:=by
 intro q pl hq hp
 obtain ⟨H',aM,h1,Y⟩:=sq (A:=A) (m:=m2) (v:=v2) (F:=F2) q t h (.inr hf) hp
 exact ⟨H',aM,h1,fun h=>by rcases h with ⟨_,hs⟩ | h;rw[Y hf] at hs;cases hs;exact h.elim⟩
theorem lk.same {w w2:World} {A:Cells} {t:Ty} {m:Md} {H:List Path} {v:t.den} {cs:List Value} {F:FP} (ad:Option (Nat×Nat)) (h:ak P w A t m H v cs F)
  (hA:∀ b i,A b i->∀ u,ce w b i=some u->ce w2 b i=some u) (hF:∀ b i,1<=F b i->∀ u,ce w b i=some u->ce w2 b i=some u) (d:Nat) (full:Prop):lk d full w t H cs ad w2 H cs:=by
 intro q pl hq hp
 exact ⟨pl.H,pl.cs,oQ hA q t h hF hp,fun _=>rfl⟩
end
end OT
set_option linter.unusedVariables false
set_option linter.unusedSimpArgs false
namespace OT
open Go
def rE (cs:List Value) (off:Nat) (n:Nat) (c2:List Value):List Value:=cs.take off++c2++cs.drop (off+n)
def eX (loc:Option Nat) (cs:List Value) (n:Nat) (c2:List Value):List Value:=match loc with
 | some off=>rE cs off n c2
 | none=>cs
theorem nH {cs c2:List Value} {off n:Nat} (h:off+n<=cs.length) (Y:c2.length=n):(rE cs off n c2).length=cs.length:=by
 simp[rE];omega
theorem rF {cs:List Value} {off n:Nat} (h:off+n<=cs.length):rE cs off n ((cs.drop off).take n)=cs:=by
 unfold rE
 rw[List.append_assoc]
 have:(cs.drop off).take n++cs.drop (off+n)=cs.drop off:=by
  rw[<-List.drop_drop];exact List.take_append_drop n (cs.drop off)
 rw[this];exact List.take_append_drop off cs
theorem th {cs c2:List Value} {off n:Nat} (h:off+n<=cs.length) (Y:c2.length=n) (j:Nat):(rE cs off n c2)[j]?=if off<=j/\j < off+n then c2[j - off]? else cs[j]?:=by
 unfold rE
 rw[List.getElem?_append,List.getElem?_append]
 simp only[List.length_append,List.length_take]
 have h1:min off cs.length=off:=by omega
 rw[h1,Y]
 split
 ·split
  ·rw[if_neg (by omega),List.getElem?_take,if_pos (by omega)]
  ·rw[if_pos (by omega)]
 ·rw[if_neg (by omega),List.getElem?_drop]
  congr 1;omega
theorem Mt {cs c2:List Value} {k n' off n:Nat} (h:off+n<=n') (h':k+n'<=cs.length) (Y:c2.length=n) :
  rE cs k n' (rE ((cs.drop k).take n') off n c2)=rE cs (k+off) n c2:=by
 have hl:((cs.drop k).take n').length=n':=by simp;omega
 apply List.ext_getElem?
 intro j
 rw[th h' (by rw[nH (by omega) Y,hl]),th (by omega) Y,th (by omega) Y]
 by_cases h3:k<=j/\j < k+n'
 ·rw[if_pos h3]
  by_cases h4:off<=j - k/\j - k < off+n
  ·rw[if_pos h4,if_pos (by omega)];congr 1;omega
  ·rw[if_neg h4,if_neg (by omega),List.getElem?_take,if_pos (by omega),List.getElem?_drop];congr 1;omega
 ·rw[if_neg h3,if_neg (by omega)]
theorem E_ {w2:World} {b o:Nat} {cs c2:List Value} {off n:Nat} (h:off+n<=cs.length) (Y:c2.length=n)
  (hc:Has w2 b (o+off) c2) (hk:∀ j u,cs[j]?=some u->¬ (off<=j/\j < off+n)->ce w2 b (o+j)=some u):Has w2 b o (rE cs off n c2):=by
 intro j u hu
 rw[th h Y] at hu
 split at hu
 ·have:=hc _ u hu
  rw[show o+off+(j - off)=o+j by omega] at this
  exact this
 ·exact hk j u hu (by assumption)
section
variable {P:Program} {R:Type}
theorem Nd {w:World} {A:Cells} {r:R}:∀ (p:Path) (t:Ty) {m:Md} {H:List Path} {v:t.den} {cs:List Value} {F:FP} {ad:Option (Nat×Nat)} {K:(t':Ty)->Md->List Path->t'.den->Option R},
  ij p t m H v K=some r->ak P w A t m H v cs F->(∀ b o,ad=some (b,o)->Has w b o cs) ->
  ∃ (t':Ty) (m':Md) (H':List Path) (v':t'.den) (aM:List Value) (a7:Option (Nat×Nat)) (F':FP),K t' m' H' v'=some r/\(∀ {S:Type} (K0:(t:Ty)->Md->List Path->t.den->Option S),ij p t m H v K0=K0 t' m' H' v')/\aH w p t H cs ad=some ⟨t',H',aM,a7⟩/\ak P w A t' m' H' v' aM F' /\
   (∀ b i,F' b i<=F b i)/\(∀ b o,a7=some (b,o)->Has w b o aM)/\(ad.isSome=true->a7.isSome=true):=by
 intro p
 induction p with
 | nil=>intro t m H v cs F ad K h hr cZ;exact ⟨t,m,H,v,cs,ad,F,h,fun _=>rfl,rfl,hr,fun _ _=>Nat.le_refl _,cZ,fun h=>h⟩
 | cons s p ih=>
  intro t m H v cs F ad K h hr cZ
  cases t with
  | pair a b=>
   obtain ⟨h0,F1,F2,hs,h1,Y⟩:=hr
   have hle:=ak.length a h1
   have z8:=ak.length b Y
   simp only[List.length_take,List.length_drop] at hle z8
   cases s with
   | fst=>
    have mg:H.any (·.isEmpty)=false:=h0
    simp only[ij,mg] at h
    obtain ⟨t',m',H',v',aM,a7,F',k1,kn,k2,k3,k4,k5,k6⟩:=ih a h h1 (ad:=ad) (fun b o hb j u hu=>by
     rw[List.getElem?_take] at hu;split at hu;exact cZ b o hb j u hu;cases hu)
    exact ⟨t',m',H',v',aM,a7,F',k1,fun K0=>by simp only[ij,mg];exact kn K0,by simp only[aH,h0];exact k2,k3,fun b i=>by have:=hs b i;have:=k4 b i;omega,k5,k6⟩
   | snd=>
    have mg:H.any (·.isEmpty)=false:=h0
    simp only[ij,mg] at h
    obtain ⟨t',m',H',v',aM,a7,F',k1,kn,k2,k3,k4,k5,k6⟩:=ih b h Y (ad:=cI ad a.sz) (fun b' o hb j u hu=>by
     cases ad with
     | none=>cases hb
     | some x=>
      simp only[cI,Option.map_some,Option.some.injEq,Prod.mk.injEq] at hb
      obtain ⟨rfl,rfl⟩:=hb
      rw[List.getElem?_drop] at hu
      have:=cZ x.1 x.2 rfl _ u hu
      rwa [Nat.add_assoc])
    exact ⟨t',m',H',v',aM,a7,F',k1,fun K0=>by simp only[ij,mg];exact kn K0,by simp only[aH,h0];exact k2,k3,fun b i=>by have:=hs b i;have:=k4 b i;omega,k5,fun h=>k6 (by cases ad <;> simp_all [cI])⟩
   | idx i=>simp[ij] at h
   | jr i=>simp[ij] at h
  | U e=>
   cases s with
   | fst=>simp[ij] at h
   | snd=>simp[ij] at h
   | jr i=>simp[ij] at h
   | idx i=>
    simp only[ij] at h
    obtain ⟨h1,Y,h3⟩:=vy h
    cases hx:(v:List e.den)[i]? with
    | none=>rw[hx] at h1;cases h1
    | some x=>
     rw[hx] at h1
     simp only[Option.bind_some] at h1
     have hi:i < List.length v:=(List.getElem?_eq_some_iff.1 hx).1
     simp only[ak,h3,Bool.false_eq_true,if_false] at hr
     split at hr
     ·obtain ⟨a,cap,rfl,g2,g3,g4,g5⟩:=hr
      cases a with
      | none=>have:=g4 rfl;omega
      | some co=>
       obtain ⟨q1,q2,q3,Fi,q4,q5⟩:=g5 co rfl
       obtain ⟨L,hl,hL,cK⟩:=q5 i x hx
       obtain ⟨t',m',H',v',aM,a7,F',k1,kn,k2,k3,k4,k5,k6⟩:=ih e h1 cK (ad:=some (co.block,i*e.sz)) (fun b o hb=>by
        simp only[Option.some.injEq,Prod.mk.injEq] at hb;obtain ⟨rfl,rfl⟩:=hb;exact hL)
       refine ⟨t',m',H',v',aM,a7,F',k1,fun K0=>by simp only[ij];rw[tS h,hx];exact kn K0,?_,k3,fun b k=>?_,k5,fun _=>k6 rfl⟩
       ·simp only[aH,h3,Bool.false_eq_true,if_false,hi,if_true,q1,Nat.zero_add,bC hL hl];exact k2
       ·have:=k4 b k;have:=q4 b k;have:=bi Fi hi b k;omega
     ·obtain ⟨rfl,lj,a,cap,rfl,g2,g3,g4⟩:=hr
      cases a with
      | none=>have:=g3 rfl;omega
      | some co=>
       obtain ⟨L,hl,hL,cK⟩:=(g4 co rfl).2 i x hx
       have Lq:Has w co.block (co.off+i*e.sz) L:=fun j u hu=>(hL j u hu).1
       obtain ⟨t',m',H',v',aM,a7,F',k1,kn,k2,k3,k4,k5,k6⟩:=ih e h1 (Ro.rep e (fun _ _=>0) lj cK) (ad:=some (co.block,co.off+i*e.sz)) (fun b o hb=>by
        simp only[Option.some.injEq,Prod.mk.injEq] at hb;obtain ⟨rfl,rfl⟩:=hb;exact Lq)
       refine ⟨t',m',H',v',aM,a7,F',k1,fun K0=>by simp only[ij];rw[tS h,hx];exact kn K0,?_,k3,fun b k=>?_,k5,fun _=>k6 rfl⟩
       ·simp only[aH,h3,Bool.false_eq_true,if_false,hi,if_true,bC Lq hl];exact k2
       ·have:=k4 b k;omega
  | arr n e=>
   cases s with
   | fst=>simp[ij] at h
   | snd=>simp[ij] at h
   | idx i=>simp[ij] at h
   | jr i=>
    obtain ⟨rfl,hf,hl,hlen,hr⟩:=hr
    simp only[ij,List.isEmpty_nil,if_true] at h
    cases hx:(v:List e.den)[i]? with
    | none=>rw[hx] at h;cases h
    | some x=>
     rw[hx] at h
     simp only[Option.bind_some] at h
     have hi:i < n:=hl ▸ (List.getElem?_eq_some_iff.1 hx).1
     obtain ⟨t',m',H',v',aM,a7,F',k1,kn,k2,k3,k4,k5,k6⟩:=ih e h (Ro.flat e (fun _ _=>0) hf (hr i x hx)) (ad:=cI ad (i*e.sz)) (fun b' o hb j u hu=>by
      cases ad with
      | none=>cases hb
      | some y=>
       simp only[cI,Option.map_some,Option.some.injEq,Prod.mk.injEq] at hb
       obtain ⟨rfl,rfl⟩:=hb
       rw[List.getElem?_take] at hu
       split at hu
       ·rw[List.getElem?_drop] at hu
        have:=cZ y.1 y.2 rfl _ u hu
        rwa [Nat.add_assoc]
       ·cases hu)
     exact ⟨t',m',H',v',aM,a7,F',k1,fun K0=>by simp only[ij,List.isEmpty_nil,if_true,hx,Option.bind_some];exact kn K0,by simp only[aH,List.isEmpty_nil,if_true,hi];exact k2,k3,fun b k=>by have:=k4 b k;omega,k5,fun h=>k6 (by cases ad <;> simp_all [cI])⟩
  | _=>cases s <;> simp[ij] at h
structure OY (P:Program) (w:World) (A:Cells) {R:Type} (r:R) (p:Path) (t:Ty) (m:Md) (H:List Path) (v:t.den) (cs:List Value) (F:FP) (ad:Option (Nat×Nat))
  (f:(t':Ty)->Md->List Path->t'.den->(Md->List Path->t'.den->Option R)->Option R) (K:Md->List Path->t.den->Option R)
  (t':Ty) (m':Md) (H':List Path) (v':t'.den) (aM:List Value) (a7:Option (Nat×Nat)) (F' G:FP) (kk:Md->List Path->t'.den->Option R) (loc:Option Nat):Prop where
 run:f t' m' H' v' kk=some r
 Id:∀ {S:Type} (K0:(t':Ty)->Md->List Path->t'.den->Option S),ij p t m H v K0=K0 t' m' H' v'
 place:aH w p t H cs ad=some ⟨t',H',aM,a7⟩
 rep:ak P w A t' m' H' v' aM F'
 sum:∀ b i,F' b i+G b i<=F b i
 has:∀ b o,a7=some (b,o)->Has w b o aM
 mO:∀ off,loc=some off->off+t'.sz<=t.sz/\aM=(cs.drop off).take t'.sz/\a7=cI ad off
 Gj:1<=bq p->loc=none
 out:loc=none->∃ b o,a7=some (b,o)/\∀ j,j < t'.sz->1<=G b (o+j)/\w.frozen? ⟨b,o+j,none⟩=false
 back:∀ m2 H2 (v2:t'.den),kk m2 H2 v2=some r->∀ (w2:World) (A2:Cells) (bm:List Value) (F2:FP),
  (∀ b n,dn w b n->dn w2 b n)->(∀ b i,A b i->A2 b i)->(∀ b i,A b i->∀ u,ce w b i=some u->ce w2 b i=some u) ->
  (∀ b i,1<=G b i->(∀ o,a7=some (b,o)->¬ (o<=i/\i < o+t'.sz))->∀ u,ce w b i=some u->ce w2 b i=some u) ->
  (∀ b o,a7=some (b,o)->Has w2 b o bm)->ak P w2 A2 t' m2 H2 v2 bm F2->(∀ b i,F2 b i+G b i<=1) ->
  ∃ m3 H3 v3 F3,K m3 H3 v3=some r/\(∀ b i,F3 b i<=F2 b i+G b i) /\
   (∀ A3:Cells,(∀ b i,A2 b i->A3 b i)->(∀ b i,1<=F2 b i+G b i->F3 b i=0->A3 b i)->ak P w2 A3 t m3 H3 v3 (eX loc cs t'.sz bm) F3) /\
   (∀ d full,lk d full w t' H' aM a7 w2 H2 bm->lk (d+bq p) full w t H cs ad w2 H3 (eX loc cs t'.sz bm))
theorem dn.frozen {w:World} {b:Nat} {n:Nat×Bool} (h:dn w b n) {i:Nat} (hi:i < n.1):w.frozen? ⟨b,i,none⟩=false:=by
 obtain ⟨c,e,fr,h1,Y,h3,_⟩:=h
 obtain ⟨lo,eF⟩:=fr
 have:=h3 i hi
 simp only[World.frozen?,h1]
 simp only[Bool.and_eq_false_iff,decide_eq_false_iff_not]
 simp only at this
 omega
theorem Nf {w:World} {A:Cells} {r:R}:∀ (p:Path) (t:Ty) {m:Md} {H:List Path} {v:t.den} {cs:List Value} {F:FP} {ad:Option (Nat×Nat)}
  {f:(t':Ty)->Md->List Path->t'.den->(Md->List Path->t'.den->Option R)->Option R} {K:Md->List Path->t.den->Option R},
  kU p t m H v f K=some r->ak P w A t m H v cs F->(∀ b i,F b i<=1)->(∀ b o,ad=some (b,o)->Has w b o cs)->(∀ b o,ad=some (b,o)->∀ j,j < t.sz->F b (o+j)=0) ->
  ∃ t' m' H' v' aM a7 F' G kk loc,OY P w A r p t m H v cs F ad f K t' m' H' v' aM a7 F' G kk loc:=by
 intro p
 induction p with
 | nil=>
  intro t m H v cs F ad f K h hr hF cZ tT
  have hlen:=ak.length t hr
  refine ⟨t,m,H,v,cs,ad,F,fun _ _=>0,K,some 0,h,fun _=>rfl,rfl,hr,fun _ _=>by simp,cZ,?_,(fun h=>by simp[bq] at h),(fun h=>by cases h),?_⟩
  ·intro off ho
   injection ho with ho;subst ho
   refine ⟨by omega,?_,?_⟩
   ·rw[List.drop_zero,<- hlen,List.take_length]
   ·cases ad <;> simp[cI]
  ·intro m2 H2 v2 hk w2 A2 bm F2 hb hA l8 hG tU oc hs
   have oR:=ak.length t oc
   have QP:eX (some 0) cs t.sz bm=bm:=by
    simp[eX,rE,List.drop_eq_nil_of_le (show cs.length<=t.sz by omega)]
   rw[QP]
   refine ⟨m2,H2,v2,F2,hk,fun _ _=>by simp,fun A3 kH _=>ak.mono kH (fun _ _ _ _ h=>h) (fun _ _ h=>h) t oc (fun _ _=>Nat.le_refl _) (fun _ _ _ _ h=>h),fun d full hd=>hd⟩
 | cons s p ih=>
  intro t m H v cs F ad f K h hr hF cZ tT
  cases t with
  | pair a b=>
   obtain ⟨h0,F1,F2,hs,h1,Y⟩:=hr
   have hle:=ak.length a h1
   have z8:=ak.length b Y
   simp only[List.length_take,List.length_drop] at hle z8
   have mg:H.any (·.isEmpty)=false:=h0
   have OZ:∀ b o,ad=some (b,o)->Has w b o (cs.take a.sz):=fun b o hb j u hu=>by
    rw[List.getElem?_take] at hu;split at hu;exact cZ b o hb j u hu;cases hu
   have O0:∀ b' o,cI ad a.sz=some (b',o)->Has w b' o (cs.drop a.sz):=fun b' o hb j u hu=>by
    cases ad with
    | none=>cases hb
    | some x=>
     simp only[cI,Option.map_some,Option.some.injEq,Prod.mk.injEq] at hb
     obtain ⟨rfl,rfl⟩:=hb
     rw[List.getElem?_drop] at hu
     have:=cZ x.1 x.2 rfl _ u hu
     rwa [Nat.add_assoc]
   cases s with
   | fst=>
    simp only[kU,mg] at h
    obtain ⟨t',m',H',v',aM,a7,F',G,kk,loc,M⟩:=ih a h h1 (fun b i=>by have:=hs b i;have:=hF b i;omega) OZ (fun b' o hb j hj=>by
     have:=tT b' o hb j (by simp only[Ty.sz];omega);have:=hs b' (o+j);omega)
    refine ⟨t',m',H',v',aM,a7,F',fun b i=>G b i+F2 b i,kk,loc,M.run,fun K0=>by simp only[ij,mg];exact M.Id K0,by simp only[aH,h0];exact M.place,M.rep,fun b i=>by have:=hs b i;have:=M.sum b i;omega,M.has,?_,(fun h=>M.Gj (by simpa [bq] using h)),?_,?_⟩
    ·intro off ho
     obtain ⟨q1,q2,q3⟩:=M.mO off ho
     refine ⟨by simp only[Ty.sz];omega,?_,q3⟩
     rw[q2,List.drop_take,List.take_take]
     congr 1;omega
    ·intro ho
     obtain ⟨b',o,q1,q2⟩:=M.out ho
     exact ⟨b',o,q1,fun j hj=>⟨by have:=(q2 j hj).1;omega,(q2 j hj).2⟩⟩
    ·intro m2 H2 v2 hk w2 A2 bm Aw hb hA l8 hG tU oc fM
     obtain ⟨m3,H3,v3,F3,k1,k2,k3,k4⟩:=M.back m2 H2 v2 hk w2 A2 bm Aw hb hA l8 (fun b' i hp hn=>hG b' i (by omega) hn) tU oc (fun b' i=>by have:=fM b' i;omega)
     have oR:=ak.length t' oc
     have mh:eX loc cs t'.sz bm=eX loc (cs.take a.sz) t'.sz bm++cs.drop a.sz:=by
      cases loc with
      | none=>simp[eX]
      | some off=>
       have:=(M.mO off rfl).1
       simp only[eX,rE]
       rw[List.take_take,show min off a.sz=off by omega,List.append_assoc,List.append_assoc,List.append_assoc]
       congr 2
       rw[List.drop_take]
       have e:cs.drop a.sz=(cs.drop (off+t'.sz)).drop (a.sz - (off+t'.sz)):=by rw[List.drop_drop];congr 1;omega
       rw[e,List.take_append_drop]
     have oS:(eX loc (cs.take a.sz) t'.sz bm).length=a.sz:=by
      cases loc with
      | none=>simp[eX];omega
      | some off=>have:=(M.mO off rfl).1;simp only[eX];rw[nH (by simp;omega) oR];simp;omega
     have o_:∀ d full,lk d full w t' H' aM a7 w2 H2 bm->full->eX loc cs t'.sz bm=cs:=fun d full hd pa=>by
      obtain ⟨H5,c5,e1,e2⟩:=hd [] ⟨t',H',aM,a7⟩ (Nat.zero_le _) rfl
      simp only[aH,Option.some.injEq,Pl.mk.injEq] at e1
      have e3:bm=aM:=e1.2.2.1.trans (e2 (.inr pa))
      cases loc with
      | none=>rfl
      | some off=>
       have:=M.mO off rfl
       rw[e3,this.2.1,List.drop_take,List.take_take,show min t'.sz (a.sz - off)=t'.sz by omega]
       exact rF (by omega)
     have gL:(eX loc cs t'.sz bm).take a.sz=eX loc (cs.take a.sz) t'.sz bm:=by rw[mh];exact List.take_left' oS
     have u7:(eX loc cs t'.sz bm).drop a.sz=cs.drop a.sz:=by rw[mh];exact List.drop_left' oS
     have Ax:∀ b' i,1<=F2 b' i->∀ u,ce w b' i=some u->ce w2 b' i=some u:=fun b' i hp u hu=>by
      refine hG b' i (by omega) (fun o fK rG=>?_) u hu
      have RL:=hs b' i;have RM:=hF b' i
      cases loc with
      | none=>
       obtain ⟨b0,o0,q1,q2⟩:=M.out rfl
       rw[q1] at fK
       simp only[Option.some.injEq,Prod.mk.injEq] at fK
       obtain ⟨rfl,rfl⟩:=fK
       have:=(q2 (i - o0) (by omega)).1
       rw[show o0+(i - o0)=i by omega] at this
       have:=M.sum b0 i
       omega
      | some off=>
       obtain ⟨q1,q2,q3⟩:=M.mO off rfl
       cases ad with
       | none=>rw[q3] at fK;cases fK
       | some x=>
        rw[q3] at fK
        simp only[cI,Option.map_some,Option.some.injEq,Prod.mk.injEq] at fK
        obtain ⟨rfl,rfl⟩:=fK
        have:=tT x.1 x.2 rfl (i - x.2) (by simp only[Ty.sz];omega)
        rw[show x.2+(i - x.2)=i by omega] at this
        omega
     refine ⟨_,_,_,fun b' i=>F3 b' i+F2 b' i,k1,fun b' i=>by have:=k2 b' i;show F3 b' i+F2 b' i<=_;omega,fun A3 kH ig=>?_,fun d full hd=>?_⟩
     ·refine ⟨by rw[lP,ke,ke];rfl,F3,F2,fun _ _=>Nat.le_refl _,?_,?_⟩
      ·rw[gL,List.filterMap_append,mM,nm,List.append_nil]
       refine k3 A3 kH fun b' i hp hz=>ig b' i (by omega) ?_
       have:=fM b' i
       show F3 b' i+F2 b' i=0;omega
      ·rw[u7,List.filterMap_append,no,mN,List.nil_append]
       exact ak.mono (fun b' i ha=>kH b' i (hA b' i ha)) l8 hb b Y (fun _ _=>Nat.le_refl _) Ax
     ·intro q pl hq hp
      cases q with
      | nil=>
       simp only[aH,Option.some.injEq] at hp;subst hp
       refine ⟨_,_,rfl,fun h=>?_⟩
       rcases h with ⟨_,hs⟩ | pa
       ·simp[ou] at hs
       ·exact o_ d full hd pa
      | cons s q=>
       cases s with
       | fst=>
        simp only[aH,h0,Bool.false_eq_true,if_false] at hp
        obtain ⟨H4,Lr,e1,e2⟩:=k4 d full hd q pl (by simpa [bq] using hq) hp
        refine ⟨H4,Lr,?_,fun l9=>e2 (by simpa [bq] using l9)⟩
        simp only[aH,lP,ke,Bool.or_self,Bool.false_eq_true,if_false]
        rw[gL,List.filterMap_append,mM,nm,List.append_nil]
        exact e1
       | snd=>
        simp only[aH,h0,Bool.false_eq_true,if_false] at hp
        refine ⟨pl.H,pl.cs,?_,fun _=>rfl⟩
        simp only[aH,lP,ke,Bool.or_self,Bool.false_eq_true,if_false]
        rw[u7,List.filterMap_append,no,mN,List.nil_append]
        exact oQ l8 q b Y Ax hp
       | idx i=>simp[aH] at hp
       | jr i=>simp[aH] at hp
   | snd=>
    simp only[kU,mg] at h
    obtain ⟨t',m',H',v',aM,a7,F',G,kk,loc,M⟩:=ih b h Y (fun b i=>by have:=hs b i;have:=hF b i;omega) O0 (fun b' o hb j hj=>by
     cases ad with
     | none=>cases hb
     | some x=>
      simp only[cI,Option.map_some,Option.some.injEq,Prod.mk.injEq] at hb
      obtain ⟨rfl,rfl⟩:=hb
      have:=tT x.1 x.2 rfl (a.sz+j) (by simp only[Ty.sz];omega);have:=hs x.1 (x.2+(a.sz+j))
      rw[Nat.add_assoc];omega)
    refine ⟨t',m',H',v',aM,a7,F',fun b i=>G b i+F1 b i,kk,loc.map (a.sz+·),M.run,fun K0=>by simp only[ij,mg];exact M.Id K0,by simp only[aH,h0];exact M.place,M.rep,fun b i=>by have:=hs b i;have:=M.sum b i;omega,M.has,?_,(fun h=>by rw[M.Gj (by simpa [bq] using h)];rfl),?_,?_⟩
    ·intro Ng ho
     obtain ⟨off,Nh,rfl⟩:=Option.map_eq_some_iff.1 ho
     obtain ⟨q1,q2,q3⟩:=M.mO off Nh
     refine ⟨by simp only[Ty.sz];omega,by rw[q2,List.drop_drop],?_⟩
     rw[q3];cases ad <;> simp[cI,Nat.add_assoc]
    ·intro ho
     obtain ⟨b',o,q1,q2⟩:=M.out (by simpa using ho)
     exact ⟨b',o,q1,fun j hj=>⟨by have:=(q2 j hj).1;omega,(q2 j hj).2⟩⟩
    ·intro m2 H2 v2 hk w2 A2 bm Aw hb hA l8 hG tU oc fM
     obtain ⟨m3,H3,v3,F3,k1,k2,k3,k4⟩:=M.back m2 H2 v2 hk w2 A2 bm Aw hb hA l8 (fun b' i hp hn=>hG b' i (by omega) hn) tU oc (fun b' i=>by have:=fM b' i;omega)
     have oR:=ak.length t' oc
     have mh:eX (loc.map (a.sz+·)) cs t'.sz bm=cs.take a.sz++eX loc (cs.drop a.sz) t'.sz bm:=by
      cases loc with
      | none=>simp[eX]
      | some off=>
       have:=(M.mO off rfl).1
       simp only[eX,rE,Option.map_some]
       rw[List.take_add,List.drop_drop,List.append_assoc,List.append_assoc,List.append_assoc,Nat.add_assoc]
     have oS:(cs.take a.sz).length=a.sz:=by simp;omega
     have o_:∀ d full,lk d full w t' H' aM a7 w2 H2 bm->full->eX (loc.map (a.sz+·)) cs t'.sz bm=cs:=fun d full hd pa=>by
      obtain ⟨H5,c5,e1,e2⟩:=hd [] ⟨t',H',aM,a7⟩ (Nat.zero_le _) rfl
      simp only[aH,Option.some.injEq,Pl.mk.injEq] at e1
      have e3:bm=aM:=e1.2.2.1.trans (e2 (.inr pa))
      cases loc with
      | none=>rfl
      | some off=>
       have:=M.mO off rfl
       rw[e3,this.2.1,List.drop_drop]
       exact rF (show a.sz+off+t'.sz<=cs.length by omega)
     have gL:(eX (loc.map (a.sz+·)) cs t'.sz bm).take a.sz=cs.take a.sz:=by rw[mh];exact List.take_left' oS
     have u7:(eX (loc.map (a.sz+·)) cs t'.sz bm).drop a.sz=eX loc (cs.drop a.sz) t'.sz bm:=by rw[mh];exact List.drop_left' oS
     have Ax:∀ b' i,1<=F1 b' i->∀ u,ce w b' i=some u->ce w2 b' i=some u:=fun b' i hp u hu=>by
      refine hG b' i (by omega) (fun o fK rG=>?_) u hu
      have RL:=hs b' i;have RM:=hF b' i
      cases loc with
      | none=>
       obtain ⟨b0,o0,q1,q2⟩:=M.out rfl
       rw[q1] at fK
       simp only[Option.some.injEq,Prod.mk.injEq] at fK
       obtain ⟨rfl,rfl⟩:=fK
       have:=(q2 (i - o0) (by omega)).1
       rw[show o0+(i - o0)=i by omega] at this
       have:=M.sum b0 i
       omega
      | some off=>
       obtain ⟨q1,q2,q3⟩:=M.mO off rfl
       cases ad with
       | none=>rw[q3] at fK;cases fK
       | some x=>
        rw[q3] at fK
        simp only[cI,Option.map_some,Option.some.injEq,Prod.mk.injEq] at fK
        obtain ⟨rfl,rfl⟩:=fK
        have:=tT x.1 x.2 rfl (i - x.2) (by simp only[Ty.sz];omega)
        rw[show x.2+(i - x.2)=i by omega] at this
        omega
     refine ⟨_,_,_,fun b' i=>F3 b' i+F1 b' i,k1,fun b' i=>by have:=k2 b' i;show F3 b' i+F1 b' i<=_;omega,fun A3 kH ig=>?_,fun d full hd=>?_⟩
     ·refine ⟨by rw[lP,ke,ke];rfl,F1,F3,fun b' i=>by show F1 b' i+F3 b' i<=F3 b' i+F1 b' i;omega,?_,?_⟩
      ·rw[gL,List.filterMap_append,mM,nm,List.append_nil]
       exact ak.mono (fun b' i ha=>kH b' i (hA b' i ha)) l8 hb a h1 (fun _ _=>Nat.le_refl _) Ax
      ·rw[u7,List.filterMap_append,no,mN,List.nil_append]
       refine k3 A3 kH fun b' i hp hz=>ig b' i (by omega) ?_
       have:=fM b' i
       show F3 b' i+F1 b' i=0;omega
     ·intro q pl hq hp
      cases q with
      | nil=>
       simp only[aH,Option.some.injEq] at hp;subst hp
       refine ⟨_,_,rfl,fun h=>?_⟩
       rcases h with ⟨_,hs⟩ | pa
       ·simp[ou] at hs
       ·exact o_ d full hd pa
      | cons s q=>
       cases s with
       | snd=>
        simp only[aH,h0,Bool.false_eq_true,if_false] at hp
        obtain ⟨H4,Lr,e1,e2⟩:=k4 d full hd q pl (by simpa [bq] using hq) hp
        refine ⟨H4,Lr,?_,fun l9=>e2 (by simpa [bq] using l9)⟩
        simp only[aH,lP,ke,Bool.or_self,Bool.false_eq_true,if_false]
        rw[u7,List.filterMap_append,no,mN,List.nil_append]
        exact e1
       | fst=>
        simp only[aH,h0,Bool.false_eq_true,if_false] at hp
        refine ⟨pl.H,pl.cs,?_,fun _=>rfl⟩
        simp only[aH,lP,ke,Bool.or_self,Bool.false_eq_true,if_false]
        rw[gL,List.filterMap_append,mM,nm,List.append_nil]
        exact oQ l8 q a h1 Ax hp
       | idx i=>simp[aH] at hp
       | jr i=>simp[aH] at hp
   | idx i=>simp[kU] at h
   | jr i=>simp[kU] at h
  | U e=>
   cases s with
   | fst=>simp[kU] at h
   | snd=>simp[kU] at h
   | jr i=>simp[kU] at h
   | idx i=>
    simp only[kU] at h
    split at h
    ·rename_i dh
     obtain ⟨h1,Y,h3⟩:=vy h
     cases hx:(v:List e.den)[i]? with
     | none=>rw[hx] at h1;cases h1
     | some x=>
      rw[hx] at h1
      simp only[Option.bind_some] at h1
      have hi:i < List.length v:=(List.getElem?_eq_some_iff.1 hx).1
      simp only[ak,h3,Bool.false_eq_true,if_false,dh,if_true] at hr
      obtain ⟨a,cap,rfl,g2,g3,g4,g5⟩:=hr
      cases a with
      | none=>have:=g4 rfl;omega
      | some co=>
       obtain ⟨q1,q2,q3,Fi,q4,q5⟩:=g5 co rfl
       obtain ⟨L,hl,hL,cK⟩:=q5 i x hx
       have aj:∀ k,k < List.length v->∀ j,j < e.sz->k*e.sz+j < cap*e.sz:=fun k hk j hj=>by
        have aj:(k+1)*e.sz<=cap*e.sz:=Nat.mul_le_mul_right _ (by omega)
        rw[Nat.add_mul] at aj;omega
       have Cd:∀ k,k < cap*e.sz->bp co.block 0 (cap*e.sz) co.block k=1:=fun k hk=>by simp[bp,hk]
       obtain ⟨t',m',H',v',aM,a7,F',G,kk,loc,M⟩:=ih e h1 cK (fun b k=>by have:=q4 b k;have:=hF b k;have:=bi Fi hi b k;omega)
        (ad:=some (co.block,i*e.sz)) (fun b o hb=>by simp only[Option.some.injEq,Prod.mk.injEq] at hb;obtain ⟨rfl,rfl⟩:=hb;exact hL)
        (fun b o hb j hj=>by
         simp only[Option.some.injEq,Prod.mk.injEq] at hb;obtain ⟨rfl,rfl⟩:=hb
         have:=q4 co.block (i*e.sz+j);have:=hF co.block (i*e.sz+j);have:=bi Fi hi co.block (i*e.sz+j)
         have:=Cd _ (aj i hi j hj);omega)
       have vz:∀ b k,az (List.length v) (cm Fi i G) b k+Fi i b k=az (List.length v) Fi b k+G b k:=mq Fi hi G
       have sT:∀ b k,G b k<=az (List.length v) (cm Fi i G) b k:=fun b k=>by
        have:=bi (cm Fi i G) hi b k;simpa [cm] using this
       refine ⟨t',m',H',v',aM,a7,F',fun b k=>bp co.block 0 (cap*e.sz) b k+az (List.length v) (cm Fi i G) b k,kk,none,M.run,fun K0=>by simp only[ij];rw[tS h,hx];exact M.Id K0,?_,M.rep,fun b k=>by have:=vz b k;have:=M.sum b k;have:=q4 b k;omega,M.has,(fun off ho=>by cases ho),(fun _=>rfl),?_,?_⟩
       ·simp only[aH,h3,Bool.false_eq_true,if_false,hi,if_true,q1,Nat.zero_add,bC hL hl];exact M.place
       ·intro _
        cases loc with
        | none=>
         obtain ⟨b',o,e1,e2⟩:=M.out rfl
         exact ⟨b',o,e1,fun j hj=>⟨by have:=(e2 j hj).1;have:=sT b' (o+j);omega,(e2 j hj).2⟩⟩
        | some off=>
         obtain ⟨e1,e2,e3⟩:=M.mO off rfl
         refine ⟨co.block,i*e.sz+off,e3,fun j hj=>?_⟩
         have oT:=aj i hi (off+j) (by omega)
         rw[<-Nat.add_assoc] at oT
         exact ⟨by have:=Cd _ oT;omega,q3.frozen oT⟩
       ·intro m2 H2 v2 hk w2 A2 bm Aw hb hA l8 hG tU oc fM
        obtain ⟨m3,H3,v3,F3,k1,k2,k3,k4⟩:=M.back m2 H2 v2 hk w2 A2 bm Aw hb hA l8 (fun b' i hp hn=>hG b' i (by have:=sT b' i;omega) hn) tU oc
         (fun b' i=>by have:=fM b' i;have:=sT b' i;omega)
        have oR:=ak.length t' oc
        have apart:∀ b' k,(∀ o,a7=some (b',o)->o<=k/\k < o+t'.sz->1<=Fi i b' k\/(b'=co.block/\i*e.sz<=k/\k < i*e.sz+e.sz)):=fun b' k o fK rG=>by
         cases loc with
         | none=>
          obtain ⟨b0,o0,e1,e2⟩:=M.out rfl
          rw[e1] at fK
          simp only[Option.some.injEq,Prod.mk.injEq] at fK
          obtain ⟨rfl,rfl⟩:=fK
          have:=(e2 (k - o0) (by omega)).1
          rw[show o0+(k - o0)=k by omega] at this
          have:=M.sum b0 k
          left;omega
         | some off=>
          obtain ⟨e1,e2,e3⟩:=M.mO off rfl
          rw[e3] at fK
          simp only[cI,Option.map_some,Option.some.injEq,Prod.mk.injEq] at fK
          obtain ⟨rfl,rfl⟩:=fK
          exact .inr ⟨rfl,by omega,by omega⟩
        have Ax:∀ j,j < List.length v->j≠i->∀ b' k,1<=Fi j b' k->∀ u,ce w b' k=some u->ce w2 b' k=some u:=fun j hj gi b' k hp u hu=>by
         have h1:=bi (cm Fi i G) hj b' k
         have e1:cm Fi i G j=Fi j:=by simp[cm,gi]
         rw[e1] at h1
         refine hG b' k (by omega) (fun o fK rG=>?_) u hu
         have Y:=q4 b' k;have h3:=hF b' k;have h4:=nk Fi hj hi gi b' k
         rcases apart b' k o fK rG with h | ⟨rfl,Ni,Nj⟩
         ·omega
         ·have:=Cd (i*e.sz+(k - i*e.sz)) (aj i hi _ (by omega))
          rw[show i*e.sz+(k - i*e.sz)=k by omega] at this
          omega
        have cell:∀ j,j < List.length v->j≠i->∀ k,k < e.sz->∀ u,ce w co.block (j*e.sz+k)=some u->ce w2 co.block (j*e.sz+k)=some u:=fun j hj gi k hk u hu=>by
         have np:=Cd _ (aj j hj k hk)
         refine hG _ _ (by omega) (fun o fK rG=>?_) u hu
         have Y:=q4 co.block (j*e.sz+k);have h3:=hF co.block (j*e.sz+k)
         rcases apart _ _ o fK rG with h | ⟨_,Ni,Nj⟩
         ·have:=bi Fi hi co.block (j*e.sz+k);omega
         ·have eB:j < i\/i < j:=by omega
          rcases eB with oD | oD
          ·have:(j+1)*e.sz<=i*e.sz:=Nat.mul_le_mul_right _ oD
           rw[Nat.add_mul] at this;omega
          ·have:(i+1)*e.sz<=j*e.sz:=Nat.mul_le_mul_right _ oD
           rw[Nat.add_mul] at this;omega
        have Nk:Has w2 co.block (i*e.sz) (eX loc L t'.sz bm):=by
         have qv:∀ j u,L[j]?=some u->(∀ off,loc=some off->¬ (off<=j/\j < off+t'.sz))->ce w2 co.block (i*e.sz+j)=some u:=fun j u hu hn=>by
          have hj:j < e.sz:=hl ▸ (List.getElem?_eq_some_iff.1 hu).1
          have np:=Cd _ (aj i hi j hj)
          refine hG _ _ (by omega) (fun o fK rG=>?_) u (hL j u hu)
          cases loc with
          | none=>
           obtain ⟨b0,o0,e1,e2⟩:=M.out rfl
           rw[e1] at fK
           simp only[Option.some.injEq,Prod.mk.injEq] at fK
           obtain ⟨rfl,rfl⟩:=fK
           have:=(e2 (i*e.sz+j - o0) (by omega)).1
           rw[show o0+(i*e.sz+j - o0)=i*e.sz+j by omega] at this
           have Y:=q4 co.block (i*e.sz+j);have h3:=hF co.block (i*e.sz+j);have:=sT co.block (i*e.sz+j);have:=vz co.block (i*e.sz+j);have:=M.sum co.block (i*e.sz+j)
           have:=bi Fi hi co.block (i*e.sz+j)
           omega
          | some off=>
           obtain ⟨e1,e2,e3⟩:=M.mO off rfl
           rw[e3] at fK
           simp only[cI,Option.map_some,Option.some.injEq,Prod.mk.injEq] at fK
           obtain ⟨_,rfl⟩:=fK
           exact hn off rfl (by omega)
         cases loc with
         | none=>exact fun j u hu=>qv j u hu (fun off ho=>by cases ho)
         | some off=>
          obtain ⟨e1,e2,e3⟩:=M.mO off rfl
          exact E_ (by omega) oR (tU _ _ e3) (fun j u hu hn=>qv j u hu (fun Ng ho=>by injection ho with ho;subst ho;exact hn))
        have Ie:(eX loc L t'.sz bm).length=e.sz:=by
         cases loc with
         | none=>exact hl
         | some off=>have:=(M.mO off rfl).1;simp only[eX];rw[nH (by omega) oR,hl]
        have vA:∀ (j:Nat) (y:e.den),(List.set v i v3)[j]?=some y->(j=i/\y=v3)\/(j≠i/\(v:List e.den)[j]?=some y):=fun j y hy=>by
         rw[List.getElem?_set] at hy
         split at hy
         ·rename_i jt
          subst jt
          injection hy with hy
          exact .inl ⟨rfl,hy.symm⟩
         ·rename_i jt;exact .inr ⟨fun h=>jt h.symm,hy⟩
        have others:∀ A3:Cells,(∀ b i,A2 b i->A3 b i)->∀ (j:Nat) (y:e.den),j≠i->(v:List e.den)[j]?=some y->∃ L:List Value,L.length=e.sz/\Has w2 co.block (j*e.sz) L/\Has w co.block (j*e.sz) L/\ak P w A e m.e [] y L (Fi j)/\ak P w2 A3 e m.e [] y L (Fi j):=fun A3 kH j y gi hy=>by
         have hj:j < List.length v:=(List.getElem?_eq_some_iff.1 hy).1
         obtain ⟨Lj,yy,Ls,If⟩:=q5 j y hy
         rw[Y j gi] at If
         exact ⟨Lj,yy,fun k u hu=>cell j hj gi k (yy ▸ (List.getElem?_eq_some_iff.1 hu).1) u (Ls k u hu),Ls,If,ak.mono (fun b' i ha=>kH b' i (hA b' i ha)) l8 hb e If (fun _ _=>Nat.le_refl _) (Ax j hj gi)⟩
        have Nl:∀ H4:List Path,hole H4=false->H4.filterMap (gt i)=H3->(∀ j,j≠i->H4.filterMap (gt j)=[])->∀ d full,lk d full w t' H' aM a7 w2 H2 bm->lk (d+bq (.idx i::p)) full w (.U e) H [.slice (some co) (List.length v) cap] ad w2 H4 [.slice (some co) (List.length v) cap]:=by
         intro H4 PN RN RP d full hd q pl hq hp
         cases q with
         | nil=>
          simp only[aH,Option.some.injEq] at hp;subst hp
          exact ⟨_,_,rfl,fun _=>rfl⟩
         | cons s q=>
          cases s with
          | fst=>simp[aH] at hp
          | snd=>simp[aH] at hp
          | jr j=>simp[aH] at hp
          | idx j=>
           simp only[aH,h3,Bool.false_eq_true,if_false] at hp
           split at hp
           ·rename_i hj
            by_cases gi:j=i
            ·subst gi
             rw[q1,Nat.zero_add,bC hL hl] at hp
             obtain ⟨H5,Nm,e1,e2⟩:=k4 d full hd q pl (by simp only[bq] at hq;omega) hp
             refine ⟨H5,Nm,?_,fun l9=>e2 (l9.imp (fun h=>⟨by have:=h.1;simp only[bq] at this;omega,h.2⟩) id)⟩
             simp only[aH,PN,Bool.false_eq_true,if_false,hj,if_true,q1,Nat.zero_add,bC Nk Ie,RN]
             exact e1
            ·obtain ⟨Lj,yy,Ce,Ls,If,_⟩:=others A2 (fun _ _ h=>h) j _ gi (List.getElem?_eq_getElem hj)
             rw[q1,Nat.zero_add,bC Ls yy,Y j gi] at hp
             refine ⟨pl.H,pl.cs,?_,fun _=>rfl⟩
             simp only[aH,PN,Bool.false_eq_true,if_false,hj,if_true,q1,Nat.zero_add,bC Ce yy,RP j gi]
             exact oQ l8 q e If (Ax j hj gi) hp
           ·cases hp
        simp only[eX]
        by_cases u9:m3=m.e
        ·rw[if_pos u9] at k1
         subst u9
         refine ⟨_,_,_,fun b' k=>bp co.block 0 (cap*e.sz) b' k+az (List.length v) (cm Fi i F3) b' k,k1,fun b' k=>?_,fun A3 kH ig=>?_,Nl _ (ke _ _) (u0 _ _) (fun j hj=>rD hj _)⟩
         ·have:=mq Fi hi F3 b' k;have:=vz b' k;have:=k2 b' k
          show bp co.block 0 (cap*e.sz) b' k+az (List.length v) (cm Fi i F3) b' k<=_
          omega
         ·simp only[ak,ke,Bool.false_eq_true,if_false,Md.own,if_true]
          refine ⟨some co,cap,by simp,by simpa using g2,g3,(fun hn=>by cases hn),fun sr xI=>?_⟩
          injection xI with xI;subst xI
          refine ⟨q1,q2,hb _ _ q3,cm Fi i F3,fun b' k=>by simp,fun j y hy=>?_⟩
          rcases vA j y hy with ⟨rfl,rfl⟩ | ⟨gi,vB⟩
          ·refine ⟨_,Ie,Nk,?_⟩
           rw[u0]
           simp only[Md.e,cm,if_true]
           refine k3 A3 kH fun b' k hp hz=>ig b' k ?_ ?_
           ·have:=sT b' k;omega
           ·have h5:=fM b' k;have h6:=mq Fi hi F3 b' k;have h7:=vz b' k;have:=sT b' k
            have h8:=q4 b' k;have h9:=M.sum b' k
            have:=k2 b' k
            show bp co.block 0 (cap*e.sz) b' k+az (List.length v) (cm Fi j F3) b' k=0
            omega
          ·obtain ⟨Lj,yy,Ce,_,_,J5⟩:=others A3 kH j y gi vB
           refine ⟨Lj,yy,Ce,?_⟩
           rw[rD gi]
           simp only[cm,if_neg gi]
           exact J5
        ·rw[if_neg u9] at k1
         split at k1
         ·rename_i Ay
          have Ay:H3=[]:=List.isEmpty_iff.1 Ay
          refine ⟨_,_,_,fun b' k=>bp co.block 0 (cap*e.sz) b' k,k1,fun b' k=>by show bp co.block 0 (cap*e.sz) b' k<=_;omega,fun A3 kH ig=>?_,Nl _ rfl (by rw[Ay];rfl) (fun j hj=>rfl)⟩
          simp only[ak,hole,List.any_nil,Bool.false_eq_true,if_false,Md.own,if_true]
          refine ⟨some co,cap,by simp,by simpa using g2,g3,(fun hn=>by cases hn),fun sr xI=>?_⟩
          injection xI with xI;subst xI
          refine ⟨q1,q2,hb _ _ q3,fun _ _ _=>0,fun b' k=>by rw[gR];simp,fun j y hy=>?_⟩
          have fz:∀ b' k,1<=Aw b' k+(bp co.block 0 (cap*e.sz) b' k+az (List.length v) (cm Fi i G) b' k)->bp co.block 0 (cap*e.sz) b' k=0->A3 b' k:=ig
          rcases vA j y hy with ⟨rfl,rfl⟩ | ⟨gi,vB⟩
          ·refine ⟨_,Ie,Nk,?_⟩
           have Lt:=k3 A3 kH fun b' k hp hz=>fz b' k (by have:=sT b' k;omega) (by
            have h5:=fM b' k;have:=sT b' k;omega)
           rw[Ay] at Lt
           refine Ro.rep e _ (cX e) (ak.o9 (fun _ _ h=>h) e Lt fun b' k hp=>fz b' k ?_ ?_)
           ·have:=k2 b' k;have:=sT b' k;omega
           ·have h5:=fM b' k;have:=sT b' k;have:=k2 b' k;omega
          ·obtain ⟨Lj,yy,Ce,_,_,J5⟩:=others A3 kH j y gi vB
           have hj:j < List.length v:=(List.getElem?_eq_some_iff.1 vB).1
           refine ⟨Lj,yy,Ce,Ro.rep e _ (cX e) (ak.o9 (fun _ _ h=>h) e J5 fun b' k hp=>?_)⟩
           have h1:=bi (cm Fi i G) hj b' k
           have e1:cm Fi i G j=Fi j:=by simp[cm,gi]
           rw[e1] at h1
           have h5:=fM b' k
           exact fz b' k (by omega) (by omega)
         ·cases k1
    ·cases h
  | arr n e=>
   cases s with
   | fst=>simp[kU] at h
   | snd=>simp[kU] at h
   | idx i=>simp[kU] at h
   | jr i=>
    obtain ⟨rfl,hf,hl,hlen,hr⟩:=hr
    simp only[kU,List.isEmpty_nil,if_true] at h
    cases hx:(v:List e.den)[i]? with
    | none=>rw[hx] at h;cases h
    | some x=>
     rw[hx] at h
     simp only[Option.bind_some] at h
     have hi:i < n:=hl ▸ (List.getElem?_eq_some_iff.1 hx).1
     have et:∀ j,j < n->j*e.sz+e.sz<=cs.length:=fun j hj=>by
      have:(j+1)*e.sz<=n*e.sz:=Nat.mul_le_mul_right _ hj
      rw[Nat.add_mul] at this;omega
     have ir:∀ j,j < n->((cs.drop (j*e.sz)).take e.sz).length=e.sz:=fun j hj=>by have:=et j hj;simp;omega
     obtain ⟨t',m',H',v',aM,a7,F',G,kk,loc,M⟩:=ih e h (Ro.flat e (fun _ _=>0) hf (hr i x hx)) (fun _ _=>Nat.zero_le _) (ad:=cI ad (i*e.sz)) (fun b' o hb j u hu=>by
      cases ad with
      | none=>cases hb
      | some y=>
       simp only[cI,Option.map_some,Option.some.injEq,Prod.mk.injEq] at hb
       obtain ⟨rfl,rfl⟩:=hb
       rw[List.getElem?_take] at hu
       split at hu
       ·rw[List.getElem?_drop] at hu
        have:=cZ y.1 y.2 rfl _ u hu
        rwa [Nat.add_assoc]
       ·cases hu) (fun _ _ _ _ _=>rfl)
     have Fc:∀ b k,G b k=0:=fun b k=>by have:=M.sum b k;omega
     have u_:∀ b k,F' b k=0:=fun b k=>by have:=M.sum b k;omega
     have Gk:∀ h:loc=none,t'.sz=0:=fun h=>by
      obtain ⟨b',o,e1,e2⟩:=M.out h
      rcases Nat.eq_zero_or_pos t'.sz with h0 | h0
      ·exact h0
      ·have:=(e2 0 h0).1;rw[Fc] at this;omega
     refine ⟨t',m',H',v',aM,a7,F',F,kk,loc.map (i*e.sz+·),M.run,fun K0=>by simp only[ij,List.isEmpty_nil,if_true,hx,Option.bind_some];exact M.Id K0,by simp only[aH,List.isEmpty_nil,if_true,hi];exact M.place,M.rep,fun b k=>by rw[u_];omega,M.has,?_,(fun h=>by rw[M.Gj (by simpa [bq] using h)];rfl),?_,?_⟩
     ·intro Ng ho
      obtain ⟨off,Nh,rfl⟩:=Option.map_eq_some_iff.1 ho
      obtain ⟨q1,q2,q3⟩:=M.mO off Nh
      have:=et i hi
      refine ⟨by simp only[Ty.sz];omega,?_,by rw[q3];cases ad <;> simp[cI,Nat.add_assoc]⟩
      rw[q2,List.drop_take,List.take_take,List.drop_drop]
      congr 1;omega
     ·intro ho
      obtain ⟨b',o,q1,q2⟩:=M.out (by simpa using ho)
      have:=Gk (by simpa using ho)
      exact ⟨b',o,q1,fun j hj=>by omega⟩
     ·intro m2 H2 v2 hk w2 A2 bm Aw hb hA l8 hG tU oc fM
      obtain ⟨m3,H3,v3,F3,k1,k2,k3,k4⟩:=M.back m2 H2 v2 hk w2 A2 bm Aw hb hA l8 (fun b' i hp hn=>by rw[Fc] at hp;omega) tU oc (fun b' i=>by have:=fM b' i;rw[Fc];omega)
      have oR:=ak.length t' oc
      split at k1
      ·rename_i Ay
       have Ay:H3=[]:=List.isEmpty_iff.1 Ay
       have mh:eX (loc.map (i*e.sz+·)) cs t'.sz bm=rE cs (i*e.sz) e.sz (eX loc ((cs.drop (i*e.sz)).take e.sz) t'.sz bm):=by
        cases loc with
        | none=>simp only[eX,Option.map_none];exact (rF (et i hi)).symm
        | some off=>
         have:=(M.mO off rfl).1
         exact (Mt this (et i hi) oR).symm
       have oS:(eX loc ((cs.drop (i*e.sz)).take e.sz) t'.sz bm).length=e.sz:=by
        cases loc with
        | none=>exact ir i hi
        | some off=>have:=(M.mO off rfl).1;simp only[eX];rw[nH (by rw[ir i hi];omega) oR,ir i hi]
       have Gl:∀ j,j < n->((eX (loc.map (i*e.sz+·)) cs t'.sz bm).drop (j*e.sz)).take e.sz=if j=i then eX loc ((cs.drop (i*e.sz)).take e.sz) t'.sz bm else (cs.drop (j*e.sz)).take e.sz:=fun j hj=>by
        rw[mh]
        apply List.ext_getElem?
        intro k
        rw[List.getElem?_take]
        split
        ·rename_i hk
         rw[List.getElem?_drop,th (et i hi) oS]
         by_cases gi:j=i
         ·subst gi
          rw[if_pos (by omega),if_pos rfl];congr 1;omega
         ·rw[if_neg gi,List.getElem?_take,if_pos hk,List.getElem?_drop,if_neg]
          have eB:j < i\/i < j:=by omega
          rcases eB with oD | oD
          ·have:(j+1)*e.sz<=i*e.sz:=Nat.mul_le_mul_right _ oD
           rw[Nat.add_mul] at this;omega
          ·have:(i+1)*e.sz<=j*e.sz:=Nat.mul_le_mul_right _ oD
           rw[Nat.add_mul] at this;omega
        ·rename_i hk
         by_cases gi:j=i
         ·rw[if_pos gi,List.getElem?_eq_none (by omega)]
         ·rw[if_neg gi,List.getElem?_eq_none (by rw[ir j hj];omega)]
       have o_:∀ d full,lk d full w t' H' aM a7 w2 H2 bm->full->eX (loc.map (i*e.sz+·)) cs t'.sz bm=cs:=fun d full hd pa=>by
        obtain ⟨H5,c5,e1,e2⟩:=hd [] ⟨t',H',aM,a7⟩ (Nat.zero_le _) rfl
        simp only[aH,Option.some.injEq,Pl.mk.injEq] at e1
        have e3:bm=aM:=e1.2.2.1.trans (e2 (.inr pa))
        cases loc with
        | none=>rfl
        | some off=>
         have:=M.mO off rfl
         have:=et i hi
         rw[e3,(M.mO off rfl).2.1,List.drop_take,List.take_take,show min t'.sz (e.sz - off)=t'.sz by omega,List.drop_drop]
         exact rF (show i*e.sz+off+t'.sz<=cs.length by omega)
       have O1:(eX (loc.map (i*e.sz+·)) cs t'.sz bm).length=n*e.sz:=by rw[mh,nH (et i hi) oS,hlen]
       refine ⟨_,_,_,fun b' k=>F3 b' k+F b' k,k1,fun b' k=>by have:=k2 b' k;have:=Fc b' k;show F3 b' k+F b' k<=_;omega,fun A3 kH ig=>?_,fun d full hd=>?_⟩
       ·refine ⟨rfl,hf,by simpa using hl,O1,fun j y hy=>?_⟩
        have hj:j < n:=by have:=(List.getElem?_eq_some_iff.1 hy).1;rw[List.length_set] at this;omega
        rw[Gl j hj]
        rw[List.getElem?_set] at hy
        split at hy
        ·rename_i jt
         subst jt
         have hy:some v3=some y:=by
          split at hy
          ·exact hy
          ·cases hy
         injection hy with hy
         rw[if_pos rfl,<- hy]
         exact ak.flat e hf (k3 A3 kH fun b' k hp hz=>ig b' k (by have:=Fc b' k;omega) (by have:=fM b' k;have:=Fc b' k;show F3 b' k+F b' k=0;omega))
        ·rename_i jt
         rw[if_neg (fun h=>jt h.symm)]
         exact Ro.mono l8 (fun b' k ha=>kH b' k (hA b' k ha)) e (hr j y hy)
       ·intro q pl hq hp
        cases q with
        | nil=>
         simp only[aH,Option.some.injEq] at hp;subst hp
         refine ⟨_,_,rfl,fun h=>?_⟩
         rcases h with ⟨_,hs⟩ | pa
         ·simp[ou] at hs
         ·exact o_ d full hd pa
        | cons s q=>
         cases s with
         | fst=>simp[aH] at hp
         | snd=>simp[aH] at hp
         | idx j=>simp[aH] at hp
         | jr j=>
          simp only[aH,List.isEmpty_nil,if_true] at hp
          split at hp
          ·rename_i hj
           by_cases gi:j=i
           ·subst gi
            obtain ⟨H5,Nm,e1,e2⟩:=k4 d full hd q pl (by simp only[bq] at hq;omega) hp
            refine ⟨H5,Nm,?_,fun l9=>e2 (l9.imp (fun h=>⟨by have:=h.1;simp only[bq] at this;omega,h.2⟩) id)⟩
            simp only[aH,List.isEmpty_nil,if_true,hj]
            rw[Gl j hj,if_pos rfl]
            rw[Ay] at e1
            exact e1
           ·refine ⟨pl.H,pl.cs,?_,fun _=>rfl⟩
            simp only[aH,List.isEmpty_nil,if_true,hj]
            rw[Gl j hj,if_neg gi]
            exact oQ l8 q e (Ro.flat e (m:=.leaf) (fun _ _=>0) hf (hr j _ (List.getElem?_eq_getElem (by rw[hl];exact hj)))) (fun b k hp=>by simp at hp) hp
          ·cases hp
      ·cases k1
  | _=>cases s <;> simp[kU] at h
end
end OT
set_option linter.unusedVariables false
set_option linter.unusedSimpArgs false
namespace OT
open Go
def tmp (a:Act) (i:Nat):Value:=a.tmps.getD i undef
section
variable {P:Program} {w:World} {A:Cells}
theorem Ro.one:∀ (t:Ty) {v:t.den} {cs:List Value},Ro P w A t v cs->∀ x ∈ cs,x.oneCell'=true:=by
 intro t
 induction t with
 | pair a b ej d6=>
  intro v cs h x hx
  rw[<-List.take_append_drop a.sz cs] at hx
  rcases List.mem_append.1 hx with hx | hx
  ·exact ej h.1 x hx
  ·exact d6 h.2 x hx
 | arr n e ih=>
  intro v cs h x hx
  obtain ⟨hf,hl,hlen,hr⟩:=h
  obtain ⟨k,hk,rfl⟩:=List.mem_iff_getElem.1 hx
  rw[hlen] at hk
  have eC:0 < e.sz:=by
   rcases Nat.eq_zero_or_pos e.sz with h0 | h0
   ·rw[h0] at hk;omega
   ·exact h0
  have hi:k / e.sz < n:=(Nat.div_lt_iff_lt_mul eC).2 hk
  refine ih (hr (k / e.sz) _ (List.getElem?_eq_getElem (by rw[hl];exact hi))) _ ?_
  rw[List.mem_iff_getElem?]
  refine ⟨k % e.sz,?_⟩
  rw[List.getElem?_take,if_pos (Nat.mod_lt _ eC),List.getElem?_drop]
  have:k / e.sz*e.sz+k % e.sz=k:=by rw[Nat.mul_comm];exact Nat.div_add_mod k e.sz
  rw[this];exact List.getElem?_eq_getElem _
 | U e ih=>rintro v cs ⟨a,cap,rfl,_⟩ x hx;simp at hx;subst hx;rfl
 | ptr e ih=>rintro v cs ⟨a,rfl,_⟩ x hx;simp at hx;subst hx;rfl
 | fn=>rintro v cs ⟨a,rfl,_⟩ x hx;simp at hx;subst hx;rfl
 | map k v=>rintro v cs ⟨_,_,r,kG,rfl,_⟩ x hx;simp at hx;subst hx;rfl
 | unit=>intro v cs h x hx;simp only[Ro] at h;subst h;cases hx
 | _=>intro v cs h x hx;simp only[Ro] at h;subst h;simp at hx;subst hx;rfl
theorem ak.one:∀ (t:Ty) {m:Md} {H:List Path} {v:t.den} {cs:List Value} {F:FP},ak P w A t m H v cs F->∀ x ∈ cs,x.oneCell'=true:=by
 intro t
 induction t with
 | pair a b ej d6=>
  intro m H v cs F h x hx
  obtain ⟨_,F1,F2,_,h1,Y⟩:=h
  rw[<-List.take_append_drop a.sz cs] at hx
  rcases List.mem_append.1 hx with hx | hx
  ·exact ej h1 x hx
  ·exact d6 Y x hx
 | U e ih=>
  intro m H v cs F h x hx
  simp only[ak] at h
  split at h
  ·obtain ⟨y,rfl,hy⟩:=h;simp at hx;subst hx;exact hy
  ·split at h
   ·obtain ⟨a,cap,rfl,_⟩:=h;simp at hx;subst hx;rfl
   ·exact Ro.one _ h.2.2 x hx
 | ptr e ih=>
  intro m H v cs F h x hx
  simp only[ak] at h
  split at h
  ·obtain ⟨y,rfl,hy⟩:=h;simp at hx;subst hx;exact hy
  ·split at h
   ·obtain ⟨a,rfl,_⟩:=h;simp at hx;subst hx;rfl
   ·exact Ro.one _ h.2.2 x hx
 | arr n e ih=>intro m H v cs F h;exact Ro.one _ h.2
 | map k v=>
  intro m H v cs F h x hx
  simp only[ak] at h
  split at h
  ·obtain ⟨y,rfl,hy⟩:=h;simp at hx;subst hx;exact hy
  ·split at h
   ·obtain ⟨_,_,r,kG,rfl,_⟩:=h;simp at hx;subst hx;rfl
   ·exact Ro.one _ h.2.2 x hx
 | _=>intro m H v cs F h;exact Ro.one _ h
end
theorem fB {t:Ty} {cs:List Value} (hl:cs.length=t.sz) (h1:∀ x ∈ cs,x.oneCell'=true):(bj t cs).cells.toList=cs:=by
 unfold bj
 split
 ·simp[Value.cells]
 ·rename_i h
  have:t.sz=1:=by cases t <;> simp_all [isAgg,Ty.sz]
  match cs,hl with
  | [x],_=>
   have:=h1 x (by simp)
   cases x <;> simp_all [Value.cells,Value.oneCell']
  | [],hl=>simp[this] at hl
  | _::_::_,hl=>simp[this] at hl
def Below (snap v:List Nat):Prop:=∀ (j x:Nat),snap[j]?=some x->∃ y,v[j]?=some y/\x<=y
theorem xJ:∀ (s v:List Nat),preB s v=true↔∀ (j x:Nat),s[j]?=some x->v[j]?=some x
 | [],v=>by simp[preB]
 | a::s,[]=>by
  simp only[preB,Bool.false_eq_true,false_iff]
  intro h
  have:=h 0 a rfl
  cases this
 | a::s,b::v=>by
  simp only[preB,Bool.and_eq_true,Nat.beq_eq,xJ s v]
  constructor
  ·rintro ⟨rfl,h⟩ j x hj
   cases j with
   | zero=>exact hj
   | succ j=>exact h j x hj
  ·intro h
   refine ⟨by have:=h 0 a rfl;simpa using this.symm,fun j x hj=>h (j+1) x hj⟩
theorem wP {s v v':List Nat} (hs:Below s v) (hv:Below v v') (h:preB s v'=true):preB s v=true/\∀ (j:Nat),j < s.length->v[j]?=v'[j]?:=by
 have key:∀ (j x:Nat),s[j]?=some x->v[j]?=some x/\v'[j]?=some x:=fun j x hj=>by
  obtain ⟨y,hy,qF⟩:=hs j x hj
  obtain ⟨z,hz,RR⟩:=hv j y hy
  have:=(xJ _ _).1 h j x hj
  rw[this] at hz
  injection hz with hz
  have:x=y:=by omega
  subst this
  exact ⟨hy,by assumption⟩
 refine ⟨(xJ _ _).2 fun j x hj=>(key j x hj).1,fun j hj=>?_⟩
 obtain ⟨h1,Y⟩:=key j _ (List.getElem?_eq_getElem hj)
 rw[h1,Y]
theorem Below.trans {s v v':List Nat} (h1:Below s v) (Y:Below v v'):Below s v':=fun j x hj=>by
 obtain ⟨y,hy,qF⟩:=h1 j x hj
 obtain ⟨z,hz,RR⟩:=Y j y hy
 exact ⟨z,hz,by omega⟩
theorem Below.refl (s:List Nat):Below s s:=fun j x hj=>⟨x,hj,Nat.le_refl _⟩
def bn (w:World) (tv:Value):Slot->Option Pl
 | .own t _ H _=>some ⟨t,H,tv.cells.toList,none⟩
 | .box t _ H _=>match tv with
  | .pointer (some a)=>some ⟨t,H,rd w a.block a.off t.sz,some (a.block,a.off)⟩
  | _=>none
 | _=>none
def place (σ:St) (a:Act) (w:World) (r:Nat) (p:Path):Option Pl:=
 (bn w (tmp a r) (σ.get r)).bind fun R=>aH w p R.t R.H R.cs R.ad
def kV (σ:St) (a:Act) (w:World) (tv:Value) (r:Nat) (p:Path) (snap:List Nat):Prop:=
 Below snap (σ.eO r)/\(σ.ok r snap=true->∃ pl,place σ a w r p=some pl/\tv=bj pl.t pl.cs/\((ou pl.t=true/\snap.length=min 5 (2+bq p))\/snap.length=5))
def tj (σ:St) (a:Act) (w:World) (tv:Value) (r:Nat) (p:Path) (snap:List Nat):Prop:=
 Below snap (σ.eO r)/\(σ.ok r snap=true->∃ pl b o,place σ a w r p=some pl/\pl.ad=some (b,o)/\tv=.pointer (some ⟨b,o,none⟩)/\snap.length=min 5 (1+bq p))
def vC (σ:St) (a:Act) (w:World) (tv:Value) (r:Nat) (p:Path) (snap:List Nat) (lo hi:Nat):Prop:=
 Below snap (σ.eO r)/\(σ.ok r snap=true->∃ pl e x n cap x' cap',place σ a w r p=some pl/\pl.t=.U e/\pl.cs=[.slice x n cap]/\lo<=hi/\hi<=n/\tv=.slice x' (hi - lo) cap'/\cap'+lo=cap/\(lo=0->x'=x) /\
  (x=none->x'=none)/\(∀ ad,x=some ad->∃ a7,x'=some a7/\a7.spot=ad.spot/\a7.block=ad.block/\(lo < hi->a7.off=ad.off+lo*e.sz))/\(snap.length=min 5 (2+bq p)\/snap.length=5))
section
variable (P:Program) (A:Cells)
def Nn (w:World) (x:yo) (tv:Value) (F:FP):Prop:=x.t=.unit\/∃ cs,tv=bj x.t cs/\ak P w A x.t x.m [] x.v cs F
def a8 (σ:St) (a:Act) (w:World) (tv:Value):Slot->FP->Prop
 | .dead,_=>True
 | .o4,_=>tv=.slice none 0 0
 | .val t v,_=>∃ cs,tv=bj t cs/\Ro P w A t v cs
 | .cp t v,_=>Ro P w A (.ptr t) v [tv]
 | .own t m H v,F=>∃ cs,tv=bj t cs/\ak P w A t m H v cs F
 | .box t m H v,F=>∃ b o L F1,tv=.pointer (some ⟨b,o,none⟩)/\L.length=t.sz/\Has w b o L/\(∀ j,j < t.sz->w.frozen? ⟨b,o+j,none⟩=false) /\
   (∀ x i,bp b o t.sz x i+F1 x i<=F x i)/\ak P w A t m H v L F1
 | .ref r p snap,_=>kV σ a w tv r p snap
 | .ptr r p snap,_=>tj σ a w tv r p snap
 | .sub r p snap lo hi,_=>vC σ a w tv r p snap lo hi
 | .li xs,F=>∃ (vs:Array Value) (Fi:Nat->FP),tv=.tuple vs/\(∀ b i,az xs.length Fi b i<=F b i)/\∀ j x,xs[j]?=some x->∃ v,vs[j]?=some v/\Nn P A w x v (Fi j)
end
structure Ext (w w':World) (F:FP):Prop where
 size:w.heap.size<=w'.heap.size
 cell:∀ b i,b < w.heap.size->F b i=0->∀ u,ce w b i=some u->ce w' b i=some u
 pF:∀ b n,dn w b n->dn w' b n
 qx:∀ b i,b < w.heap.size->w'.frozen? ⟨b,i,none⟩=w.frozen? ⟨b,i,none⟩
 os:w'.os=w.os
 tape:w'.tape=w.tape
 output:w'.output=w.output
 obj:∀ b,b < w.heap.size->(∀ i,F b i=0)->w'.heap[b]?=w.heap[b]?
 drawn:w.drawn<=w'.drawn
structure Ctx where
 w0:World
 A0:Cells
 F0:FP
 args:Array Value
structure Rel (P:Program) (C:Ctx) (A:Cells) (X:FP) (σ:St) (a:Act) (w:World) (F:Nat->FP):Prop where
 size:a.tmps.size=σ.n
 defers:a.defers=[]
 dw:∀ i,i < σ.n->a8 P A σ a w (tmp a i) (σ.get i) (F i)
 gh:∀ d r p snap,(d,r,p,snap) ∈ σ.gh->kV σ a w (tmp a d) r p snap
 iW:∀ b i,X b i+az σ.n F b i<=1
 jK:∀ b i,1<=X b i+az σ.n F b i->¬ A b i
 ek:∀ b i,1<=X b i+az σ.n F b i\/A b i->b < w.heap.size
 fA:∀ i,(σ.eO i).length=5
 ext:Ext C.w0 w C.F0
 own:∀ b i,1<=X b i+az σ.n F b i->1<=C.F0 b i\/C.w0.heap.size<=b
 a0:∀ b i,C.A0 b i->A b i
 a1:∀ b i,A b i->C.A0 b i\/1<=C.F0 b i\/C.w0.heap.size<=b
 iz:∀ j k,(j,k,false) ∈ σ.aw->tmp a j=C.args.getD k undef
 whole:∀ r t m H v,σ.get r=.box t m H v->(∀ k,(r,k,false) ∉ σ.aw)->∃ b,tmp a r=.pointer (some ⟨b,0,none⟩)/\dn w b (t.sz,false)
 gI:∀ j k,(j,k,true) ∈ σ.aw->∀ R,bn w (tmp a j) (σ.get j)=some R->bj R.t R.cs=C.args.getD k undef
def pL (σ:St) (a:Act) (w:World) (σ':St) (a':Act) (w':World):Prop:=
 ∀ r p snap,Below snap (σ.eO r)->Below snap (σ'.eO r)/\(σ'.ok r snap=true->σ.ok r snap=true /\
  (snap.length=min 5 (1+bq p)\/snap.length=min 5 (2+bq p)\/snap.length=5->∀ pl,place σ a w r p=some pl->∃ H' aM,place σ' a' w' r p=some ⟨pl.t,H',aM,pl.ad⟩ /\
   ((ou pl.t=true/\snap.length=min 5 (2+bq p))\/snap.length=5->aM=pl.cs)))
section
variable {P:Program} {A A':Cells} {σ σ':St} {a a':Act} {w w':World} {tv:Value} {F:FP}
theorem kV.gf (hp:pL σ a w σ' a' w') {r:Nat} {p:Path} {snap:List Nat} (h:kV σ a w tv r p snap):kV σ' a' w' tv r p snap:=by
 obtain ⟨h1,Y⟩:=h
 obtain ⟨h3,h4⟩:=hp r p snap h1
 refine ⟨h3,fun aA=>?_⟩
 obtain ⟨h5,h6⟩:=h4 aA
 obtain ⟨pl,h7,h8,h9⟩:=Y h5
 obtain ⟨H',aM,qj,st⟩:=h6 (h9.elim (fun h=>.inr (.inl h.2)) (fun h=>.inr (.inr h))) pl h7
 exact ⟨_,qj,by rw[st h9];exact h8,h9⟩
theorem tj.gf (hp:pL σ a w σ' a' w') {r:Nat} {p:Path} {snap:List Nat} (h:tj σ a w tv r p snap):tj σ' a' w' tv r p snap:=by
 obtain ⟨h1,Y⟩:=h
 obtain ⟨h3,h4⟩:=hp r p snap h1
 refine ⟨h3,fun aA=>?_⟩
 obtain ⟨h5,h6⟩:=h4 aA
 obtain ⟨pl,b,o,h7,h8,h9,qj⟩:=Y h5
 obtain ⟨H',aM,st,_⟩:=h6 (.inl qj) pl h7
 exact ⟨_,b,o,st,h8,h9,qj⟩
theorem vC.gf (hp:pL σ a w σ' a' w') {r:Nat} {p:Path} {snap:List Nat} {lo hi:Nat} (h:vC σ a w tv r p snap lo hi):vC σ' a' w' tv r p snap lo hi:=by
 obtain ⟨h1,Y⟩:=h
 obtain ⟨h3,h4⟩:=hp r p snap h1
 refine ⟨h3,fun aA=>?_⟩
 obtain ⟨h5,h6⟩:=h4 aA
 obtain ⟨pl,e,x,n,cap,x',cap',h7,h8,h9,qj,st,Cf,RS,QQ,RU,RV,No⟩:=Y h5
 obtain ⟨H',aM,RW,RX⟩:=h6 (.inr No) pl h7
 have:ou pl.t=true:=by rw[h8];rfl
 exact ⟨_,e,x,n,cap,x',cap',RW,h8,(RX (No.imp (fun h=>⟨this,h⟩) id)).trans h9,qj,st,Cf,RS,QQ,RU,RV,No⟩
theorem a8.gf (hp:pL σ a w σ' a' w') (hA:∀ b i,A b i->A' b i) (hc:∀ b i,A b i->∀ u,ce w b i=some u->ce w' b i=some u) (hb:∀ b n,dn w b n->dn w' b n)
  (hF:∀ b i,1<=F b i->(∀ u,ce w b i=some u->ce w' b i=some u)/\w'.frozen? ⟨b,i,none⟩=w.frozen? ⟨b,i,none⟩) {s:Slot} (h:a8 P A σ a w tv s F):a8 P A' σ' a' w' tv s F:=by
 cases s with
 | dead=>trivial
 | o4=>exact h
 | val t v=>obtain ⟨cs,h1,Y⟩:=h;exact ⟨cs,h1,Ro.mono hc hA t Y⟩
 | cp t v=>exact Ro.mono hc hA (.ptr t) h
 | own t m H v=>obtain ⟨cs,h1,Y⟩:=h;exact ⟨cs,h1,ak.mono hA hc hb t Y (fun _ _=>Nat.le_refl _) (fun b i hp=>(hF b i hp).1)⟩
 | box t m H v=>
  obtain ⟨b,o,L,F1,h1,Y,h3,h4,h5,h6⟩:=h
  have hr:∀ j,j < t.sz->1<=F b (o+j):=fun j hj=>by
   have:=h5 b (o+j);simp[bp,hj] at this;omega
  exact ⟨b,o,L,F1,h1,Y,fun j u hu=>(hF _ _ (hr j (Y ▸ (List.getElem?_eq_some_iff.1 hu).1))).1 u (h3 j u hu),fun j hj=>by rw[(hF _ _ (hr j hj)).2];exact h4 j hj,h5,
   ak.mono hA hc hb t h6 (fun _ _=>Nat.le_refl _) (fun b i hp=>(hF b i (by have:=h5 b i;omega)).1)⟩
 | ref r p snap=>exact kV.gf hp h
 | ptr r p snap=>exact tj.gf hp h
 | sub r p snap lo hi=>exact vC.gf hp h
 | li xs=>
  obtain ⟨vs,Fi,h1,Y,h3⟩:=h
  refine ⟨vs,Fi,h1,Y,fun j x hx=>?_⟩
  obtain ⟨v,h4,h5⟩:=h3 j x hx
  refine ⟨v,h4,h5.imp id fun ⟨cs,h6,h7⟩=>⟨cs,h6,ak.mono hA hc hb x.t h7 (fun _ _=>Nat.le_refl _) (fun b i hp=>(hF b i ?_).1)⟩⟩
  have:=bi Fi (List.getElem?_eq_some_iff.1 hx).1 b i
  have:=Y b i;omega
end
end OT
set_option linter.unusedVariables false
set_option linter.unusedSimpArgs false
namespace OT
open Go
theorem qN {α:Type} (k:Nat) (x:α) (l:List (Nat×α)) (i:Nat):gm ((k,x)::l) i=if k=i then some x else gm l i:=by
 simp only[gm]
 by_cases h:k=i
 ·simp[h]
 ·rw[if_neg h,if_neg (by simpa using h)]
theorem pM (σ:St) (d:Nat) (s:Slot) (i:Nat):(σ.put d s).get i=if d=i/\i < σ.n then s else σ.get i:=by
 simp only[St.get,St.put,qN,Nat.blt_eq]
 by_cases hi:i < σ.n
 ·by_cases hd:d=i <;> simp[hi,hd]
 ·simp[hi]
theorem wQ (σ:St) (d:Nat) (s:Slot) (i:Nat):(σ.BQ d s).get i=if d=i/\i < σ.n then s else σ.get i:=by
 simp only[St.get,St.BQ,qN,Nat.blt_eq]
 by_cases hi:i < σ.n
 ·by_cases hd:d=i <;> simp[hi,hd]
 ·simp[hi]
theorem rn (σ:St) (d:Nat) (s:Slot) (i:Nat):(σ.put d s).eO i=if d=i then lM (σ.eO d) else σ.eO i:=by
 simp only[St.eO,St.put,qN]
 by_cases hd:d=i <;> simp[hd]
theorem kx (σ:St) (d:Nat) (f:List Nat->List Nat) (i:Nat):(σ.fb d f).eO i=if d=i then f (σ.eO d) else σ.eO i:=by
 simp only[St.eO,St.fb,qN]
 by_cases hd:d=i <;> simp[hd]
theorem qO {l:List (Nat×Nat×Bool)} {d:Nat} {e:Nat×Nat×Bool} (h:e ∈ rt l d):e ∈ l/\e.1≠d:=by
 induction l with
 | nil=>cases h
 | cons x l ih=>
  obtain ⟨k,b⟩:=x
  simp only[rt] at h
  split at h
  ·exact ⟨List.mem_cons_of_mem _ (ih h).1,(ih h).2⟩
  ·rename_i hk
   rcases List.mem_cons.1 h with rfl | h
   ·exact ⟨List.mem_cons_self,by simpa using hk⟩
   ·exact ⟨List.mem_cons_of_mem _ (ih h).1,(ih h).2⟩
theorem yz {l:List (Nat×Nat×Bool)} {d:Nat} {e:Nat×Nat×Bool} (h:e ∈ l) (hd:e.1≠d):e ∈ rt l d:=by
 induction l with
 | nil=>cases h
 | cons x l ih=>
  obtain ⟨k,b⟩:=x
  simp only[rt]
  rcases List.mem_cons.1 h with rfl | h
  ·rw[if_neg (by simpa using hd)];exact List.mem_cons_self
  ·split
   ·exact ih h
   ·exact List.mem_cons_of_mem _ (ih h)
theorem Gm {l:List (Nat×Nat×Bool)} {d j k:Nat} (h:(j,k,false) ∈ l):(j,k,false) ∈ ru l d:=by
 induction l with
 | nil=>cases h
 | cons x l ih=>
  obtain ⟨k',n,b⟩:=x
  simp only[ru]
  rcases List.mem_cons.1 h with h | h
  ·injection h with h1 Y
   injection Y with Y h3
   subst h3
   simp[h1,Y]
  ·split
   ·exact ih h
   ·exact List.mem_cons_of_mem _ (ih h)
theorem yA {l:List (Nat×Nat×Bool)} {d:Nat} {e:Nat×Nat×Bool} (h:e ∈ ru l d):e ∈ l/\¬ (e.1=d/\e.2.2=true):=by
 induction l with
 | nil=>cases h
 | cons x l ih=>
  obtain ⟨k,n,b⟩:=x
  simp only[ru] at h
  split at h
  ·exact ⟨List.mem_cons_of_mem _ (ih h).1,(ih h).2⟩
  ·rename_i hk
   rcases List.mem_cons.1 h with rfl | h
   ·exact ⟨List.mem_cons_self,by simpa using hk⟩
   ·exact ⟨List.mem_cons_of_mem _ (ih h).1,(ih h).2⟩
theorem Cg {l:List (Nat×Nat×Path×List Nat)} {d:Nat} {e:Nat×Nat×Path×List Nat} (h:e ∈ BP l d):e ∈ l/\e.1≠d:=by
 induction l with
 | nil=>cases h
 | cons x l ih=>
  obtain ⟨k,b⟩:=x
  simp only[BP] at h
  split at h
  ·exact ⟨List.mem_cons_of_mem _ (ih h).1,(ih h).2⟩
  ·rename_i hk
   rcases List.mem_cons.1 h with rfl | h
   ·exact ⟨List.mem_cons_self,by simpa using hk⟩
   ·exact ⟨List.mem_cons_of_mem _ (ih h).1,(ih h).2⟩
theorem l_ (v:List Nat):Below v (lM v):=fun j x hj=>⟨x+1,by simp[lM,hj],by omega⟩
theorem vD {v:List Nat} (h:v.length=5):∃ b x y z w,v=[b,x,y,z,w]:=by
 match v,h with
 | [b,x,y,z,w],_=>exact ⟨b,x,y,z,w,rfl⟩
theorem Ig {b x y z w b' x' y' z' w':Nat} (h0:b<=b') (h1:x<=x') (Y:y<=y') (h3:z<=z') (h4:w<=w'):Below [b,x,y,z,w] [b',x',y',z',w']:=by
 intro j n hj
 match j,hj with
 | 0,hj=>exact ⟨b',rfl,by simp at hj;omega⟩
 | 1,hj=>exact ⟨x',rfl,by simp at hj;omega⟩
 | 2,hj=>exact ⟨y',rfl,by simp at hj;omega⟩
 | 3,hj=>exact ⟨z',rfl,by simp at hj;omega⟩
 | 4,hj=>exact ⟨w',rfl,by simp at hj;omega⟩
 | n+5,hj=>simp at hj
theorem nq (d:Nat) {v:List Nat} (h:v.length=5):Below v (mL d v):=by
 obtain ⟨b,x,y,z,w,rfl⟩:=vD h
 match d with
 | 0 | 1 | 2 | n+3=>exact Ig (by omega) (by omega) (by omega) (by omega) (by omega)
theorem pX {v:List Nat} (h:v.length=5):Below v (o5 v):=by
 obtain ⟨b,x,y,z,w,rfl⟩:=vD h
 exact Ig (by omega) (by omega) (by omega) (by omega) (by omega)
theorem vE {v:List Nat}:(lM v).length=v.length:=by simp[lM]
theorem tV (d:Nat) {v:List Nat} (h:v.length=5):(mL d v).length=5:=by
 obtain ⟨b,x,y,z,w,rfl⟩:=vD h
 match d with
 | 0 | 1 | 2 | n+3=>rfl
theorem vF {v:List Nat} (h:v.length=5):(o5 v).length=5:=by
 obtain ⟨b,x,y,z,w,rfl⟩:=vD h
 rfl
theorem yB {s v v':List Nat} (hs:Below s v) (hv:Below v v') (h:preB s v'=true) {j:Nat} (hj:v[j]?≠v'[j]?):s.length<=j:=by
 rcases Nat.lt_or_ge j s.length with h' | h'
 ·exact absurd ((wP hs hv h).2 j h') hj
 ·exact h'
theorem xf {s v:List Nat} (hl:v.length=5) (hs:Below s v) (h:preB s (lM v)=true):s.length=0:=by
 obtain ⟨b,x,y,z,w,rfl⟩:=vD hl
 have:=yB hs (l_ _) h (j:=0) (by simp[lM])
 omega
theorem vG {s v:List Nat} (d:Nat) (hl:v.length=5) (hs:Below s v) (h:preB s (mL d v)=true):s.length<=min 4 (1+d):=by
 have h4:s.length<=4:=by
  refine yB hs (nq d hl) h ?_
  obtain ⟨b,x,y,z,w,rfl⟩:=vD hl
  match d with
  | 0 | 1 | 2 | n+3=>simp[mL]
 have hd:s.length<=1+d:=by
  rcases Nat.lt_or_ge d 3 with hd | hd
  ·refine yB hs (nq d hl) h ?_
   obtain ⟨b,x,y,z,w,rfl⟩:=vD hl
   match d,hd with
   | 0,_ | 1,_ | 2,_=>simp[mL]
  ·omega
 omega
theorem xK {s v:List Nat} (hl:v.length=5) (hs:Below s v) (h:preB s (o5 v)=true):s.length<=4:=by
 refine yB hs (pX hl) h ?_
 obtain ⟨b,x,y,z,w,rfl⟩:=vD hl
 simp[o5]
section
variable {P:Program} {C:Ctx} {A A2:Cells} {X:FP} {σ:St} {a:Act} {w w2:World} {F:Nat->FP}
theorem it (a:Act) (d:Nat) (v:Value) (i:Nat):tmp (a.put (some d) v) i=if d=i/\i < a.tmps.size then v else tmp a i:=by
 simp only[tmp,Act.put,Array.getD_eq_getD_getElem?,Array.getElem?_setIfInBounds]
 by_cases hd:d=i
 ·subst hd
  by_cases hs:d < a.tmps.size <;> simp[hs]
 ·simp[hd]
theorem qP {tv:Value} {s:Slot} {G:FP} {R:Pl} (h:a8 P A σ a w tv s G) (hR:bn w tv s=some R) :
  ∃ (m:Md) (v:R.t.den) (F1:FP),ak P w A R.t m R.H v R.cs F1/\(∀ b i,F1 b i<=G b i) /\
   (∀ b o,R.ad=some (b,o)->Has w b o R.cs/\(∀ x i,bp b o R.t.sz x i+F1 x i<=G x i)/\∀ j,j < R.t.sz->w.frozen? ⟨b,o+j,none⟩=false) /\
   ((∃ v',s=.own R.t m R.H v'/\HEq v v'/\R.ad=none)\/(∃ v',s=.box R.t m R.H v'/\HEq v v'/\R.ad.isSome=true)):=by
 cases s with
 | own t m H v=>
  simp only[bn,Option.some.injEq] at hR
  subst hR
  obtain ⟨cs,h1,Y⟩:=h
  refine ⟨m,v,G,?_,fun _ _=>Nat.le_refl _,(fun b o h=>by cases h),.inl ⟨v,rfl,HEq.rfl,rfl⟩⟩
  rw[h1,fB (ak.length t Y) (ak.one t Y)];exact Y
 | box t m H v=>
  obtain ⟨b,o,L,F1,h1,Y,h3,h4,h5,h6⟩:=h
  subst h1
  simp only[bn,Option.some.injEq] at hR
  subst hR
  refine ⟨m,v,F1,by rw[bC h3 Y];exact h6,fun x i=>by have:=h5 x i;omega,?_,.inr ⟨v,rfl,HEq.rfl,rfl⟩⟩
  intro b' o' Ih
  simp only[Option.some.injEq,Prod.mk.injEq] at Ih
  obtain ⟨rfl,rfl⟩:=Ih
  exact ⟨by rw[bC h3 Y];exact h3,h5,h4⟩
 | _=>simp[bn] at hR
theorem pc {tv:Value} {s:Slot} {G:FP} {R:Pl} (h:a8 P A σ a w tv s G) (hc:∀ b i,1<=G b i->∀ u,ce w b i=some u->ce w2 b i=some u)
  (hR:bn w tv s=some R):bn w2 tv s=some R:=by
 cases s with
 | own t m H v=>exact hR
 | box t m H v=>
  obtain ⟨b,o,L,F1,h1,Y,h3,h4,h5,h6⟩:=h
  subst h1
  simp only[bn,Option.some.injEq] at hR ⊢
  have:Has w2 b o L:=fun j u hu=>hc _ _ (by
   have hj:j < t.sz:=Y ▸ (List.getElem?_eq_some_iff.1 hu).1
   have:=h5 b (o+j);simp[bp,hj] at this;omega) u (h3 j u hu)
  rw[bC this Y,<- hR,bC h3 Y]
 | _=>simp[bn] at hR
theorem of {σ':St} {a':Act} {r:Nat} {p:Path} {G:FP} {pl:Pl} (h:a8 P A σ a w (tmp a r) (σ.get r) G) (hg:σ'.get r=σ.get r) (ht:tmp a' r=tmp a r)
  (hA:∀ b i,A b i->∀ u,ce w b i=some u->ce w2 b i=some u) (hc:∀ b i,1<=G b i->∀ u,ce w b i=some u->ce w2 b i=some u)
  (hp:place σ a w r p=some pl):place σ' a' w2 r p=some pl:=by
 unfold place at hp ⊢
 rw[hg,ht]
 cases hR:bn w (tmp a r) (σ.get r) with
 | none=>rw[hR] at hp;cases hp
 | some R=>
  rw[hR] at hp
  rw[pc h hc hR]
  obtain ⟨m,v,F1,h1,Y,_⟩:=qP h hR
  exact oQ hA p R.t h1 (fun b i hh=>hc b i (Nat.le_trans hh (Y b i))) hp
theorem fd {σ:St} {i:Nat} (h:¬ i < σ.n):σ.get i=.dead:=by simp[St.get,h]
theorem nr {r:Nat} {p:Path} {pl:Pl} (h:place σ a w r p=some pl):r < σ.n:=by
 rcases Nat.lt_or_ge r σ.n with h' | h'
 ·exact h'
 ·simp[place,fd (Nat.not_lt.2 h'),bn] at h
theorem Rel.put (h:Rel P C A X σ a w F) {d:Nat} (hd:d < σ.n) {s:Slot} {v:Value} {Fd X':FP} (hs:a8 P A σ a w v s Fd) (ht:∀ b i,X' b i+Fd b i<=X b i+F d b i)
  (Ii:∀ t m H v',s=.box t m H v'->∃ b,v=.pointer (some ⟨b,0,none⟩)/\dn w b (t.sz,false)) :
  Rel P C A X' (σ.put d s) (a.put (some d) v) w (cm F d Fd):=by
 have eC:=h.size
 have gS:pL σ a w (σ.put d s) (a.put (some d) v) w:=by
  intro r p snap hb
  rw[rn,St.ok,rn]
  by_cases hr:d=r
  ·subst hr
   simp only[if_true]
   refine ⟨hb.trans (l_ _),fun aA=>?_⟩
   have h0:=xf (h.fA d) hb aA
   exact ⟨(wP hb (l_ _) aA).1,fun hl=>by omega⟩
  ·simp only[if_neg hr]
   refine ⟨hb,fun aA=>⟨aA,fun hl pl dQ=>⟨pl.H,pl.cs,?_,fun _=>rfl⟩⟩⟩
   exact of (h.dw r (nr dQ)) (by rw[pM,if_neg (fun h=>hr h.1)]) (by rw[it,if_neg (fun h=>hr h.1)]) (fun _ _ _ _ h=>h) (fun _ _ _ _ h=>h) dQ
 have jj:∀ b i,X' b i+az σ.n (cm F d Fd) b i<=X b i+az σ.n F b i:=fun b i=>by
  have:=mq F hd Fd b i;have:=ht b i;omega
 refine ⟨by simp[Act.put,eC,St.put],by simpa [Act.put] using h.defers,fun i hi=>?_,?_,fun b i=>Nat.le_trans (jj b i) (h.iW b i),fun b i hp=>h.jK b i (Nat.le_trans hp (jj b i)),
  fun b i hp=>h.ek b i (hp.imp (fun hp=>Nat.le_trans hp (jj b i)) id),fun i=>?_,h.ext,fun b i hp=>h.own b i (Nat.le_trans hp (jj b i)),h.a0,h.a1,?_,?_,?_⟩
 ·have hi:i < σ.n:=hi
  rw[pM,it,eC]
  by_cases Lu:d=i
  ·subst Lu
   rw[if_pos ⟨rfl,hi⟩,if_pos ⟨rfl,hi⟩]
   simp only[cm,if_true]
   exact a8.gf gS (fun _ _ h=>h) (fun _ _ _ _ h=>h) (fun _ _ h=>h) (fun _ _ _=>⟨fun _ h=>h,rfl⟩) hs
  ·rw[if_neg (fun h=>Lu h.1),if_neg (fun h=>Lu h.1)]
   simp only[cm,if_neg (fun h:i=d=>Lu h.symm)]
   exact a8.gf gS (fun _ _ h=>h) (fun _ _ _ _ h=>h) (fun _ _ h=>h) (fun _ _ _=>⟨fun _ h=>h,rfl⟩) (h.dw i hi)
 ·intro d' r p snap hm
  obtain ⟨hm,eB⟩:=Cg hm
  rw[it,if_neg (fun h=>eB h.1.symm)]
  exact kV.gf gS (h.gh d' r p snap hm)
 ·rw[rn]
  split
  ·rw[vE];exact h.fA d
  ·exact h.fA i
 ·intro j k hm
  obtain ⟨hm,eB⟩:=qO hm
  rw[it,if_neg (fun h=>eB h.1.symm)]
  exact h.iz j k hm
 ·intro r t m H v' hg hl
  rw[pM] at hg
  rw[it,eC]
  by_cases u7:d=r/\r < σ.n
  ·rw[if_pos u7] at hg ⊢
   exact Ii t m H v' hg
  ·rw[if_neg u7] at hg ⊢
   refine h.whole r t m H v' hg fun k hm=>hl k (yz hm fun e=>u7 ⟨e.symm,?_⟩)
   rcases Nat.lt_or_ge r σ.n with hr | hr
   ·exact hr
   ·rw[fd (Nat.not_lt.2 hr)] at hg;cases hg
 ·intro j k hm R hR
  obtain ⟨hm,eB⟩:=qO hm
  rw[it,if_neg (fun h=>eB h.1.symm),pM,if_neg (fun h=>eB h.1.symm)] at hR
  exact h.gI j k hm R hR
theorem Rel.less (h:Rel P C A X σ a w F) {X':FP} (ht:∀ b i,X' b i<=X b i):Rel P C A X' σ a w F:=
 { h with
  iW:=fun b i=>by have:=h.iW b i;have:=ht b i;omega
  jK:=fun b i hp=>h.jK b i (by have:=ht b i;omega)
  ek:=fun b i hp=>h.ek b i (hp.imp (fun hp=>by have:=ht b i;omega) id)
  own:=fun b i hp=>h.own b i (by have:=ht b i;omega) }
theorem Ext.refl (w:World) (F:FP):Ext w w F:=⟨Nat.le_refl _,fun _ _ _ _ _ h=>h,fun _ _ h=>h,fun _ _ _=>rfl,rfl,rfl,rfl,fun _ _ _=>rfl,Nat.le_refl _⟩
theorem Ext.mono {F F':FP} (h:Ext w w2 F) (hF:∀ b i,F' b i=0->F b i=0):Ext w w2 F':={ h with cell:=fun b i hb hz=>h.cell b i hb (hF b i hz),obj:=fun b hb hz=>h.obj b hb fun i=>hF b i (hz i) }
theorem Ext.trans {w3:World} {F G:FP} (h:Ext w w2 F) (Y:Ext w2 w3 G) (hG:∀ b i,b < w.heap.size->F b i=0->G b i=0):Ext w w3 F:=
 ⟨Nat.le_trans h.size Y.size,fun b i hb hz u hu=>Y.cell b i (Nat.lt_of_lt_of_le hb h.size) (hG b i hb hz) u (h.cell b i hb hz u hu),fun b n hn=>Y.pF b n (h.pF b n hn),
  fun b i hb=>(Y.qx b i (Nat.lt_of_lt_of_le hb h.size)).trans (h.qx b i hb),Y.os.trans h.os,Y.tape.trans h.tape,Y.output.trans h.output,
  fun b hb hz=>(Y.obj b (Nat.lt_of_lt_of_le hb h.size) fun i=>hG b i hb (hz i)).trans (h.obj b hb hz),Nat.le_trans h.drawn Y.drawn⟩
theorem Rel.RY (h:Rel P C A X σ a w F) {r:Nat} (hr:r < σ.n) {σ':St} (hn:σ'.n=σ.n) (ns:∀ i,i≠r->σ'.get i=σ.get i) (Np:∀ i,i≠r->σ'.eO i=σ.eO i)
  (PO:Below (σ.eO r) (σ'.eO r)) (vH:(σ'.eO r).length=5) (tW:∀ e,e ∈ σ'.aw->e ∈ σ.aw) (Nq:∀ j k,(j,k,false) ∈ σ.aw->(j,k,false) ∈ σ'.aw) (Ij:∀ e,e ∈ σ'.gh->e ∈ σ.gh)
  {X2 Ch:FP} {R:Pl} {H2:List Path} {bm:List Value} (hs:a8 P A2 σ' a w2 (tmp a r) (σ'.get r) Ch) (hR:bn w (tmp a r) (σ.get r)=some R)
  (PP:bn w2 (tmp a r) (σ'.get r)=some ⟨R.t,H2,bm,R.ad⟩)
  (bf:∀ (p:Path) (snap:List Nat),Below snap (σ.eO r)->σ'.ok r snap=true->(snap.length=min 5 (1+bq p)\/snap.length=min 5 (2+bq p)\/snap.length=5) ->
   ∃ D full,bq p<=D/\(snap.length=min 5 (2+bq p)->bq p < D\/full)/\(snap.length=5->full)/\lk D full w R.t R.H R.cs R.ad w2 H2 bm)
  (hA:∀ b i,A b i->A2 b i) (Ik:∀ b i,A2 b i->A b i\/(1<=X b i+F r b i/\X2 b i+Ch b i=0))
  (hx:∀ b i,X2 b i+Ch b i<=X b i+F r b i) (hw:Ext w w2 fun b i=>X b i+F r b i) (J6:∀ t m H v,σ'.get r=.box t m H v->∃ m0 H0 v0,σ.get r=.box t m0 H0 v0) (rH:∀ k,(r,k,true) ∈ σ'.aw->bm=R.cs) :
  Rel P C A2 X2 σ' a w2 (cm F r Ch):=by
 have hle:∀ b i,X b i+F r b i<=X b i+az σ.n F b i:=fun b i=>by have:=bi F hr b i;omega
 have l8:∀ b i,A b i->∀ u,ce w b i=some u->ce w2 b i=some u:=fun b i ha u hu=>by
  refine hw.cell b i (h.ek b i (.inr ha)) ?_ u hu
  rcases Nat.eq_zero_or_pos (X b i+F r b i) with h0 | h0
  ·exact h0
  ·exact absurd ha (h.jK b i (Nat.le_trans h0 (hle b i)))
 have vI:∀ j,j < σ.n->j≠r->∀ b i,1<=F j b i->(∀ u,ce w b i=some u->ce w2 b i=some u)/\w2.frozen? ⟨b,i,none⟩=w.frozen? ⟨b,i,none⟩:=fun j hj Il b i hp=>by
  have h1:=nk F hj hr Il b i
  have Y:=h.iW b i
  have hb:=h.ek b i (.inl (by have:=bi F hj b i;omega))
  exact ⟨fun u hu=>hw.cell b i hb (by show X b i+F r b i=0;omega) u hu,hw.qx b i hb⟩
 have gS:pL σ a w σ' a w2:=by
  intro r' p snap hb
  by_cases Ci:r'=r
  ·subst Ci
   refine ⟨hb.trans PO,fun aA=>?_⟩
   refine ⟨(wP hb PO aA).1,fun hl pl dQ=>?_⟩
   obtain ⟨D,full,h1,Y,h3,h4⟩:=bf p snap hb aA hl
   unfold place at dQ ⊢
   rw[hR] at dQ
   rw[PP]
   obtain ⟨H',aM,h5,h6⟩:=h4 p pl h1 dQ
   refine ⟨H',aM,h5,fun h7=>h6 ?_⟩
   rcases h7 with ⟨h7,h8⟩ | h7
   ·exact (Y h8).imp (fun h=>⟨h,h7⟩) id
   ·exact .inr (h3 h7)
  ·rw[St.ok,Np r' Ci]
   refine ⟨hb,fun aA=>⟨aA,fun hl pl dQ=>⟨pl.H,pl.cs,?_,fun _=>rfl⟩⟩⟩
   have aj:=nr dQ
   exact of (h.dw r' aj) (ns r' Ci) rfl l8 (fun b i hp=>(vI r' aj Ci b i hp).1) dQ
 have jj:∀ b i,X2 b i+az σ.n (cm F r Ch) b i<=X b i+az σ.n F b i:=fun b i=>by
  have:=mq F hr Ch b i;have:=hx b i;omega
 refine ⟨by rw[hn];exact h.size,h.defers,fun i hi=>?_,fun d r' p snap hm=>kV.gf gS (h.gh d r' p snap (Ij _ hm)),fun b i=>by rw[hn];exact Nat.le_trans (jj b i) (h.iW b i),fun b i hp ha=>?_,
  fun b i hp=>?_,fun i=>?_,h.ext.trans hw fun b i hb hz=>?_,fun b i hp=>by rw[hn] at hp;exact h.own b i (Nat.le_trans hp (jj b i)),fun b i ha=>hA b i (h.a0 b i ha),fun b i ha=>?_,
  fun j k hm=>h.iz j k (tW _ hm),fun r' t m H v hg hl=>?_,fun j k hm R' dK=>?_⟩
 ·rw[hn] at hi
  by_cases yC:i=r
  ·subst yC;simp only[cm,if_true];exact hs
  ·simp only[cm,if_neg yC]
   rw[ns i yC]
   exact a8.gf gS hA l8 hw.pF (vI i hi yC) (h.dw i hi)
 ·rw[hn] at hp
  rcases Ik b i ha with ha | ⟨h1,Y⟩
  ·exact h.jK b i (Nat.le_trans hp (jj b i)) ha
  ·have h3:=h.iW b i
   have h4:=mq F hr Ch b i
   omega
 ·rw[hn] at hp
  refine Nat.lt_of_lt_of_le (h.ek b i ?_) hw.size
  rcases hp with hp | ha
  ·exact .inl (Nat.le_trans hp (jj b i))
  ·rcases Ik b i ha with ha | ⟨h1,_⟩
   ·exact .inr ha
   ·exact .inl (Nat.le_trans h1 (hle b i))
 ·by_cases yC:i=r
  ·subst yC;exact vH
  ·rw[Np i yC];exact h.fA i
 ·rcases Nat.eq_zero_or_pos (X b i+F r b i) with h0 | h0
  ·exact h0
  ·have:=h.own b i (Nat.le_trans h0 (hle b i));omega
 ·rcases Ik b i ha with ha | ⟨h1,_⟩
  ·exact h.a1 b i ha
  ·exact .inr (h.own b i (Nat.le_trans h1 (hle b i)))
 ·have:∃ m0 H0 v0,σ.get r'=.box t m0 H0 v0:=by
   by_cases Ci:r'=r
   ·subst Ci;exact J6 t m H v hg
   ·rw[ns r' Ci] at hg;exact ⟨m,H,v,hg⟩
  obtain ⟨m0,H0,v0,Nr⟩:=this
  obtain ⟨b,h1,Y⟩:=h.whole r' t m0 H0 v0 Nr fun k hm=>hl k (Nq _ _ hm)
  exact ⟨b,h1,hw.pF _ _ Y⟩
 ·by_cases Il:j=r
  ·subst Il
   rw[PP] at dK
   injection dK with dK
   subst dK
   show bj R.t bm=_
   rw[rH k hm]
   exact h.gI j k (tW _ hm) R hR
  ·rcases Nat.lt_or_ge j σ.n with hj | hj
   ·rw[ns j Il] at dK
    have ir:=h.dw j hj
    cases nU:bn w (tmp a j) (σ.get j) with
    | none=>exfalso;cases hg:σ.get j <;> rw[hg] at nU dK <;> simp only[bn] at nU dK <;> first | (cases dK;done) | (cases nU;done) | (split at nU <;> simp_all)
    | some R0=>
     rw[pc ir (fun b i hp=>(vI j hj Il b i hp).1) nU] at dK
     injection dK with dK
     subst dK
     exact h.gI j k (tW _ hm) _ nU
   ·rw[fd (by rw[hn];omega)] at dK;cases dK
end
end OT
set_option linter.unusedVariables false
set_option linter.unusedSimpArgs false
namespace OT
open Go
def dp (ad:Option (Nat×Nat)) (n:Nat):FP:=fun b i=>match ad with
 | some (b',o)=>bp b' o n b i
 | none=>0
section
variable {P:Program} {C:Ctx} {A:Cells} {X:FP} {σ:St} {a:Act} {w:World} {F:Nat->FP} {R:Type} {x:R}
theorem yD {r:Nat} {K:(t:Ty)->Md->List Path->t.den->Option R} (h:o6 σ r K=some x) :
  r < σ.n/\∃ t m H v,(σ.get r=.own t m H v\/σ.get r=.box t m H v)/\K t m H v=some x:=by
 unfold o6 at h
 rcases Nat.lt_or_ge r σ.n with hr | hr
 ·refine ⟨hr,?_⟩
  split at h
  ·rename_i t m H v hg;exact ⟨t,m,H,v,.inl hg,h⟩
  ·rename_i t m H v hg;exact ⟨t,m,H,v,.inr hg,h⟩
  ·cases h
 ·rw[fd (Nat.not_lt.2 hr)] at h;cases h
structure Ns (P:Program) (A:Cells) (σ:St) (a:Act) (w:World) (r:Nat) (G:FP) (t:Ty) (m:Md) (H:List Path) (v:t.den) (cs:List Value) (ad:Option (Nat×Nat)) (F1:FP):Prop where
 root:bn w (tmp a r) (σ.get r)=some ⟨t,H,cs,ad⟩
 rep:ak P w A t m H v cs F1
 le:∀ b i,dp ad t.sz b i+F1 b i<=G b i
 has:∀ b o,ad=some (b,o)->Has w b o cs
 qx:∀ b o,ad=some (b,o)->∀ j,j < t.sz->w.frozen? ⟨b,o+j,none⟩=false
 val:ad=none->tmp a r=bj t cs/\σ.get r=.own t m H v
 ptr:∀ b o,ad=some (b,o)->tmp a r=.pointer (some ⟨b,o,none⟩)/\σ.get r=.box t m H v
theorem a8.root {r:Nat} {G:FP} (h:a8 P A σ a w (tmp a r) (σ.get r) G) {t:Ty} {m:Md} {H:List Path} {v:t.den} (hg:σ.get r=.own t m H v\/σ.get r=.box t m H v) :
  ∃ cs ad F1,Ns P A σ a w r G t m H v cs ad F1:=by
 rcases hg with hg | hg
 ·rw[hg] at h
  obtain ⟨cs,h1,Y⟩:=h
  refine ⟨cs,none,G,by rw[hg];simp only[bn,h1,fB (ak.length t Y) (ak.one t Y)],Y,fun b i=>by simp[dp],(fun b o h=>by cases h),(fun b o h=>by cases h),fun _=>⟨h1,hg⟩,(fun b o h=>by cases h)⟩
 ·rw[hg] at h
  obtain ⟨b,o,L,F1,h1,Y,h3,h4,h5,h6⟩:=h
  refine ⟨L,some (b,o),F1,by rw[hg,h1];simp only[bn,bC h3 Y],h6,fun b i=>h5 b i,?_,?_,(fun h=>by cases h),?_⟩
  ·intro b' o' e;simp only[Option.some.injEq,Prod.mk.injEq] at e;obtain ⟨rfl,rfl⟩:=e;exact h3
  ·intro b' o' e;simp only[Option.some.injEq,Prod.mk.injEq] at e;obtain ⟨rfl,rfl⟩:=e;exact h4
  ·intro b' o' e;simp only[Option.some.injEq,Prod.mk.injEq] at e;obtain ⟨rfl,rfl⟩:=e;exact ⟨h1,hg⟩
theorem fq (h:Rel P C A X σ a w F) {r:Nat} {p:Path} {K:(t:Ty)->Md->List Path->t.den->Option R} (hk:jY σ r p K=some x) :
  r < σ.n/\∃ (t':Ty) (m':Md) (H':List Path) (v':t'.den) (aM:List Value) (a7:Option (Nat×Nat)) (F':FP),K t' m' H' v'=some x/\(∀ {S:Type} (K0:(t:Ty)->Md->List Path->t.den->Option S),jY σ r p K0=K0 t' m' H' v')/\place σ a w r p=some ⟨t',H',aM,a7⟩/\ak P w A t' m' H' v' aM F' /\
   (∀ b i,F' b i<=F r b i)/\(∀ b o,a7=some (b,o)->Has w b o aM):=by
 obtain ⟨hr,t,m,H,v,hg,hk⟩:=yD hk
 obtain ⟨cs,ad,F1,RO⟩:=(h.dw r hr).root hg
 obtain ⟨t',m',H',v',aM,a7,F',h1,hn,Y,h3,h4,h5,_⟩:=Nd p t hk RO.rep (ad:=ad) RO.has
 refine ⟨hr,t',m',H',v',aM,a7,F',h1,fun K0=>?_,?_,h3,fun b i=>by have:=h4 b i;have:=RO.le b i;omega,h5⟩
 ·unfold jY o6
  rcases hg with hg | hg <;> rw[hg] <;> exact hn K0
 unfold place
 rw[RO.root];exact Y
theorem pY (r:Nat) (t:Ty) (m:Md) (H:List Path) (v:t.den) (i:Nat) (h:i≠r):(σ.dT r t m H v).get i=σ.get i:=by
 unfold St.dT
 split <;> rw[wQ,if_neg (fun e=>h e.1.symm)]
theorem pe {r:Nat} (hr:r < σ.n) {t t0:Ty} {m m0:Md} {H H0:List Path} {v0:t0.den} (v:t.den) (h:σ.get r=.own t0 m0 H0 v0):(σ.dT r t m H v).get r=.own t m H v:=by
 unfold St.dT
 rw[h];simp only[];rw[wQ,if_pos ⟨rfl,hr⟩]
theorem pg {r:Nat} (hr:r < σ.n) {t t0:Ty} {m m0:Md} {H H0:List Path} {v0:t0.den} (v:t.den) (h:σ.get r=.box t0 m0 H0 v0):(σ.dT r t m H v).get r=.box t m H v:=by
 unfold St.dT
 rw[h];simp only[];rw[wQ,if_pos ⟨rfl,hr⟩]
theorem nt (r:Nat) (t:Ty) (m:Md) (H:List Path) (v:t.den):(σ.dT r t m H v).n=σ.n:=by unfold St.dT;split <;> rfl
theorem kI (r:Nat) (t:Ty) (m:Md) (H:List Path) (v:t.den) (i:Nat):(σ.dT r t m H v).eO i=σ.eO i:=by unfold St.dT;split <;> rfl
theorem ma (r:Nat) (t:Ty) (m:Md) (H:List Path) (v:t.den):(σ.dT r t m H v).aw=σ.aw:=by unfold St.dT;split <;> rfl
theorem tX (r:Nat) (t:Ty) (m:Md) (H:List Path) (v:t.den):(σ.dT r t m H v).gh=σ.gh:=by unfold St.dT;split <;> rfl
def ky (σ σ':St):Prop:=∀ (w:World) (tv:Value) (i:Nat) (R:Pl),bn w tv (σ'.get i)=some R->∃ H,bn w tv (σ.get i)=some ⟨R.t,H,R.cs,R.ad⟩
theorem ky.refl (σ:St):ky σ σ:=fun w tv i R h=>⟨R.H,h⟩
theorem ky.trans {σ σ' pN:St} (h:ky σ σ') (h':ky σ' pN):ky σ pN:=by
 intro w tv i R0 hR
 obtain ⟨H,h1⟩:=h' w tv i R0 hR
 exact h w tv i ⟨R0.t,H,R0.cs,R0.ad⟩ h1
theorem qy {r:Nat} (hr:r < σ.n) {t:Ty} {m m0:Md} {H H0:List Path} {v0:t.den} (v:t.den) (h:σ.get r=.own t m0 H0 v0\/σ.get r=.box t m0 H0 v0) {σ':St} (hg:∀ i,σ'.get i=(σ.dT r t m H v).get i):ky σ σ':=by
 intro w tv i R hR
 rw[hg] at hR
 by_cases hi:i=r
 ·subst hi
  rcases h with h | h
  ·rw[pe hr v h] at hR
   rw[h]
   simp only[bn,Option.some.injEq] at hR ⊢
   subst hR
   exact ⟨H0,rfl⟩
  ·rw[pg hr v h] at hR
   rw[h]
   simp only[bn] at hR ⊢
   split at hR
   ·injection hR with hR;subst hR;exact ⟨H0,rfl⟩
   ·cases hR
 ·rw[pY r t m H v i hi] at hR
  exact ⟨R.H,hR⟩
structure J7 (σ:St) (r:Nat) (s:Slot) (Nt:Prop) (σ':St):Prop where
 n:σ'.n=σ.n
 get:∀ i,i≠r->σ'.get i=σ.get i
 root:σ'.get r=s
 eO:∀ i,i≠r->σ'.eO i=σ.eO i
 below:Below (σ.eO r) (σ'.eO r)
 fA:(σ'.eO r).length=5
 aw:∀ e,e ∈ σ'.aw->e ∈ σ.aw
 Lv:∀ j k,(j,k,false) ∈ σ.aw->(j,k,false) ∈ σ'.aw
 gh:∀ e,e ∈ σ'.gh->e ∈ σ.gh
 head:∀ k,(r,k,true) ∈ σ'.aw->Nt
theorem Rel.Gn (h:Rel P C A X σ a w F) {r:Nat} {p:Path} {f:(t':Ty)->Md->List Path->t'.den->(Md->List Path->t'.den->Option R)->Option R}
  {Kf:(t:Ty)->Md->List Path->t.den->Option R} (hk:o6 σ r (fun t0 m0 H0 v0=>kU p t0 m0 H0 v0 f fun m' H' v'=>Kf t0 m' H' v')=some x) :
  r < σ.n/\∃ (t':Ty) (m':Md) (H':List Path) (v':t'.den) (aM:List Value) (a7:Option (Nat×Nat)) (F':FP) (kk:Md->List Path->t'.den->Option R),
   f t' m' H' v' kk=some x/\(∀ {S:Type} (K0:(t:Ty)->Md->List Path->t.den->Option S),jY σ r p K0=K0 t' m' H' v')/\place σ a w r p=some ⟨t',H',aM,a7⟩/\ak P w A t' m' H' v' aM F' /\
   (∀ b i,dp a7 t'.sz b i+F' b i<=F r b i)/\(∀ b o,a7=some (b,o)->Has w b o aM)/\(∀ b o,a7=some (b,o)->∀ j,j < t'.sz->w.frozen? ⟨b,o+j,none⟩=false) /\
   ∀ m2 H2 (v2:t'.den),kk m2 H2 v2=some x->∀ (w2:World) (A2:Cells) (bm:List Value) (F2 X2:FP),
    Ext w w2 (fun b i=>X b i+(F' b i+dp a7 t'.sz b i))->(∀ b i,A b i->A2 b i)->(∀ b i,A2 b i->A b i\/(1<=X b i+F' b i/\X2 b i+F2 b i=0)) ->
    (∀ b i,X2 b i+F2 b i<=X b i+F' b i)->(∀ b o,a7=some (b,o)->Has w2 b o bm)->(a7=none->bm=aM)->ak P w2 A2 t' m2 H2 v2 bm F2 ->
    ∃ (t0:Ty) (m3:Md) (H3:List Path) (v3:t0.den) (Fr:FP) (A3:Cells),Kf t0 m3 H3 v3=some x/\(∃ (m0:Md) (H0:List Path) (v0:t0.den),σ.get r=.own t0 m0 H0 v0\/σ.get r=.box t0 m0 H0 v0)/\(∀ b i,A2 b i->A3 b i)/\(∀ b i,Fr b i<=F r b i+X b i) /\
     ∀ σ',J7 σ r ((σ.dT r t0 m3 H3 v3).get r) (1<=bq p\/bm=aM) σ' ->
      (∀ (p':Path) (snap:List Nat),Below snap (σ.eO r)->σ'.ok r snap=true->(snap.length=min 5 (1+bq p')\/snap.length=min 5 (2+bq p')\/snap.length=5) ->
       ∃ D full,bq p'<=D+bq p/\(snap.length=min 5 (2+bq p')->bq p' < D+bq p\/full)/\(snap.length=5->full)/\lk D full w t' H' aM a7 w2 H2 bm) ->
      Rel P C A3 X2 σ' a w2 (cm F r Fr):=by
 obtain ⟨hr,t,m,H,v,hg,hk⟩:=yD hk
 obtain ⟨cs,ad,F1,RO⟩:=(h.dw r hr).root hg
 have qG:∀ b i,X b i+F r b i<=1:=fun b i=>by have:=h.iW b i;have:=bi F hr b i;omega
 have tT:∀ b o,ad=some (b,o)->∀ j,j < t.sz->F1 b (o+j)=0:=fun b o e j hj=>by
  have h1:=RO.le b (o+j);have Y:=qG b (o+j)
  rw[e] at h1
  simp[dp,bp,hj] at h1
  omega
 obtain ⟨t',m',H',v',aM,a7,F',G,kk,loc,M⟩:=Nf p t hk RO.rep (fun b i=>by have:=qG b i;have:=RO.le b i;omega) RO.has tT
 have hlen:=ak.length t RO.rep
 have yE:∀ b i,dp a7 t'.sz b i+F' b i<=F r b i/\(1<=dp a7 t'.sz b i->1<=G b i\/1<=dp ad t.sz b i)/\dp a7 t'.sz b i<=1:=fun b i=>by
  have h1:=M.sum b i;have Y:=RO.le b i;have h3:=qG b i
  cases cZ:a7 with
  | none=>simp only[dp];omega
  | some bo=>
   obtain ⟨b0,o0⟩:=bo
   simp only[dp,bp]
   split
   ·rename_i et
    obtain ⟨rfl,Nu,Nv⟩:=et
    cases loc with
    | none=>
     obtain ⟨b',o',e1,e2⟩:=M.out rfl
     rw[cZ] at e1
     simp only[Option.some.injEq,Prod.mk.injEq] at e1
     obtain ⟨rfl,rfl⟩:=e1
     have:=(e2 (i - o0) (by omega)).1
     rw[show o0+(i - o0)=i by omega] at this
     omega
    | some off=>
     obtain ⟨e1,e2,e3⟩:=M.mO off rfl
     cases nY:ad with
     | none=>rw[cZ,nY] at e3;cases e3
     | some y=>
      rw[cZ,nY] at e3
      simp only[cI,Option.map_some,Option.some.injEq,Prod.mk.injEq] at e3
      obtain ⟨rfl,rfl⟩:=e3
      have np:bp y.1 y.2 t.sz y.1 i=1:=by simp[bp];omega
      rw[nY] at Y
      simp only[dp,np] at Y ⊢
      simp only[bp] at np
      omega
   ·omega
 refine ⟨hr,t',m',H',v',aM,a7,F',kk,M.run,fun K0=>?_,by unfold place;rw[RO.root];exact M.place,M.rep,fun b i=>(yE b i).1,M.has,fun b o e j hj=>?_,?_⟩
 ·unfold jY o6
  rcases hg with hg | hg <;> rw[hg] <;> exact M.Id K0
 ·cases loc with
  | none=>
   obtain ⟨b',o',e1,e2⟩:=M.out rfl
   rw[e] at e1
   simp only[Option.some.injEq,Prod.mk.injEq] at e1
   obtain ⟨rfl,rfl⟩:=e1
   exact (e2 j hj).2
  | some off=>
   obtain ⟨e1,e2,e3⟩:=M.mO off rfl
   cases nY:ad with
   | none=>rw[e,nY] at e3;cases e3
   | some y=>
    rw[e,nY] at e3
    simp only[cI,Option.map_some,Option.some.injEq,Prod.mk.injEq] at e3
    obtain ⟨rfl,rfl⟩:=e3
    have:=RO.qx y.1 y.2 nY (off+j) (by omega)
    rwa [<-Nat.add_assoc] at this
 intro m2 H2 v2 Az w2 A2 bm F2 X2 ct hA Ik hX vJ Gk wR
 have oR:=ak.length t' wR
 have l8:∀ b i,A b i->∀ u,ce w b i=some u->ce w2 b i=some u:=fun b i ha u hu=>by
  refine ct.cell b i (h.ek b i (.inr ha)) ?_ u hu
  have h1:=(yE b i).1
  have Y:=bi F hr b i
  have h3:=h.jK b i
  show X b i+(F' b i+dp a7 t'.sz b i)=0
  rcases Nat.eq_zero_or_pos (X b i+az σ.n F b i) with h0 | h0
  ·omega
  ·exact absurd ha (h3 h0)
 have PR:∀ b i,1<=G b i\/1<=dp ad t.sz b i->(∀ o,a7=some (b,o)->¬ (o<=i/\i < o+t'.sz))->∀ u,ce w b i=some u->ce w2 b i=some u:=fun b i hp hn u hu=>by
  have h1:=yE b i;have Y:=qG b i;have h3:=M.sum b i;have h4:=RO.le b i
  refine ct.cell b i (h.ek b i (.inl (by have:=bi F hr b i;omega))) ?_ u hu
  show X b i+(F' b i+dp a7 t'.sz b i)=0
  have h5:dp a7 t'.sz b i=0:=by
   cases cZ:a7 with
   | none=>rfl
   | some bo=>
    obtain ⟨b0,o0⟩:=bo
    simp only[dp,bp]
    split
    ·rename_i et
     obtain ⟨rfl,Nu,Nv⟩:=et
     exact absurd ⟨Nu,Nv⟩ (hn o0 cZ)
    ·rfl
  omega
 have O2:∀ b i,F2 b i+G b i<=1:=fun b i=>by
  have:=hX b i;have:=M.sum b i;have:=RO.le b i;have:=qG b i;omega
 obtain ⟨m3,H3,v3,F3,k1,k2,k3,k4⟩:=M.back m2 H2 v2 Az w2 A2 bm F2 ct.pF hA l8 (fun b i hp hn=>PR b i (.inl hp) hn) vJ wR O2
 have Im:(eX loc cs t'.sz bm).length=t.sz:=by
  cases loc with
  | none=>exact hlen
  | some off=>have:=(M.mO off rfl).1;simp only[eX];rw[nH (by omega) oR,hlen]
 have o_:bm=aM->eX loc cs t'.sz bm=cs:=fun e=>by
  cases loc with
  | none=>rfl
  | some off=>
   obtain ⟨e1,e2,_⟩:=M.mO off rfl
   rw[e,e2];exact rF (by omega)
 have Gp:∀ b o,ad=some (b,o)->Has w2 b o (eX loc cs t'.sz bm):=fun b o e=>by
  have cells:∀ j u,cs[j]?=some u->(∀ o',a7=some (b,o')->¬ (o'<=o+j/\o+j < o'+t'.sz))->ce w2 b (o+j)=some u:=fun j u hu hn=>by
   have hj:j < t.sz:=hlen ▸ (List.getElem?_eq_some_iff.1 hu).1
   exact PR b (o+j) (.inr (by rw[e];simp[dp,bp,hj])) hn u (RO.has b o e j u hu)
  cases Cj:loc with
  | none=>
   intro j u hu
   refine cells j u hu fun o' he et=>?_
   have hj:j < t.sz:=hlen ▸ (List.getElem?_eq_some_iff.1 hu).1
   obtain ⟨b',Ub,e1,e2⟩:=M.out Cj
   rw[he] at e1
   simp only[Option.some.injEq,Prod.mk.injEq] at e1
   obtain ⟨rfl,rfl⟩:=e1
   have h1:=(e2 (o+j - o') (by omega)).1
   rw[show o'+(o+j - o')=o+j by omega] at h1
   have Y:=RO.le b (o+j);have h3:=qG b (o+j);have h4:=M.sum b (o+j)
   rw[e] at Y
   simp[dp,bp,hj] at Y
   omega
  | some off=>
   obtain ⟨e1,e2,e3⟩:=M.mO off Cj
   rw[e] at e3
   simp only[cI,Option.map_some] at e3
   exact E_ (by omega) oR (vJ b (o+off) e3) (fun j u hu hn=>cells j u hu fun o' he et=>by
    rw[e3] at he
    simp only[Option.some.injEq,Prod.mk.injEq] at he
    omega)
 refine ⟨t,m3,H3,v3,fun b i=>dp ad t.sz b i+F3 b i,fun b i=>A2 b i\/(1<=F2 b i+G b i/\F3 b i=0),k1,⟨m,H,v,hg⟩,fun _ _ h=>.inl h,fun b i=>?_,fun σ' on bf=>?_⟩
 ·have h1:=k2 b i;have Y:=hX b i;have h3:=M.sum b i;have h4:=RO.le b i
  show dp ad t.sz b i+F3 b i<=_
  omega
 have Gq:=k3 (fun b i=>A2 b i\/(1<=F2 b i+G b i/\F3 b i=0)) (fun _ _ h=>.inl h) (fun b i h1 Y=>.inr ⟨h1,Y⟩)
 have BB:a8 P (fun b i=>A2 b i\/(1<=F2 b i+G b i/\F3 b i=0)) σ' a w2 (tmp a r) (σ'.get r) (fun b i=>dp ad t.sz b i+F3 b i)/\bn w2 (tmp a r) (σ'.get r)=some ⟨t,H3,eX loc cs t'.sz bm,ad⟩:=by
  rw[on.root]
  cases nY:ad with
  | none=>
   obtain ⟨e1,e2⟩:=RO.val nY
   have e3:eX loc cs t'.sz bm=cs:=by
    cases Cj:loc with
    | none=>rfl
    | some off=>
     have:=(M.mO off Cj).2.2
     rw[nY] at this
     rw[<-Cj];exact o_ (Gk this)
   rw[pe hr v3 e2]
   rw[e3] at Gq ⊢
   exact ⟨⟨cs,e1,ak.le Gq (fun b i=>by show F3 b i<=dp none t.sz b i+F3 b i;omega)⟩,by simp only[bn,e1,fB hlen (ak.one t RO.rep)]⟩
  | some bo=>
   obtain ⟨b,o⟩:=bo
   obtain ⟨e1,e2⟩:=RO.ptr b o nY
   rw[pg hr v3 e2,e1]
   have hh:=Gp b o nY
   refine ⟨⟨b,o,_,F3,rfl,Im,hh,fun j hj=>?_,fun b' i=>?_,Gq⟩,by simp only[bn,bC hh Im]⟩
   ·have hb:b < w.heap.size:=h.ek b (o+j) (.inl (by
     have h1:=RO.le b (o+j);have Y:=bi F hr b (o+j)
     rw[nY] at h1
     simp[dp,bp,hj] at h1
     omega))
    rw[ct.qx b (o+j) hb]
    exact RO.qx b o nY j hj
   ·exact Nat.le_refl _
 refine h.RY hr on.n on.get on.eO on.below on.fA on.aw on.Lv on.gh BB.1 RO.root BB.2 (fun p' snap h1 Y h3=>?_) (fun b i ha=>.inl (hA b i ha)) (fun b i ha=>?_) (fun b i=>?_) (ct.mono fun b i hz=>?_) (fun t5 m5 H5 v5 In=>?_) (fun k hm=>?_)
 ·obtain ⟨D,full,q1,q2,q3,q4⟩:=bf p' snap h1 Y h3
  exact ⟨D+bq p,full,q1,q2,q3,k4 D full q4⟩
 ·have h1:=hX b i;have Y:=k2 b i;have h3:=M.sum b i;have h4:=RO.le b i;have h5:=qG b i
  rcases ha with ha | ⟨RZ,R2⟩
  ·rcases Ik b i ha with ha | ⟨RZ,R2⟩
   ·exact .inl ha
   ·right;omega
  ·right;omega
 ·have h1:=hX b i;have Y:=k2 b i;have h3:=M.sum b i;have h4:=RO.le b i
  show X2 b i+(dp ad t.sz b i+F3 b i)<=_
  omega
 ·have h1:=(yE b i).1
  show X b i+(F' b i+dp a7 t'.sz b i)=0
  omega
 ·rw[on.root] at In
  rcases hg with hg | hg
  ·rw[pe hr v3 hg] at In;cases In
  ·rw[pg hr v3 hg] at In
   injection In with e1 e2 e3 e4
   subst e1
   exact ⟨_,_,_,hg⟩
 ·rcases on.head k hm with hp | he
  ·rw[M.Gj hp];rfl
  ·exact o_ he
end
end OT
set_option linter.unusedVariables false
set_option linter.unusedSimpArgs false
namespace OT
open Go
theorem ak.Lw {P:Program} {w:World} {A:Cells}:∀ (t:Ty) {m:Md} {v:t.den} {cs:List Value} {F:FP},ak P w A t m [] v cs F->ak P w A t m (l6 t) v cs (fun _ _=>0):=by
 intro t
 induction t with
 | pair a b ej d6=>
  intro m v cs F h
  obtain ⟨_,F1,F2,hs,h1,Y⟩:=h
  refine ⟨by rw[l6,lP,ke,ke];rfl,fun _ _=>0,fun _ _=>0,fun _ _=>Nat.le_refl _,?_,?_⟩
  ·rw[l6,List.filterMap_append,mM,nm,List.append_nil];exact ej h1
  ·rw[l6,List.filterMap_append,no,mN,List.nil_append];exact d6 Y
 | U e ih=>
  intro m v cs F h
  have h1:=ak.length _ h
  have Y:=ak.one _ h
  match cs,h1 with
  | [y],_=>simp only[ak,l6,hole,List.any_cons,List.isEmpty_nil,Bool.true_or,if_true];exact ⟨y,rfl,Y y (by simp)⟩
 | ptr e ih=>
  intro m v cs F h
  have h1:=ak.length _ h
  have Y:=ak.one _ h
  match cs,h1 with
  | [y],_=>simp only[ak,l6,hole,List.any_cons,List.isEmpty_nil,Bool.true_or,if_true];exact ⟨y,rfl,Y y (by simp)⟩
 | arr n e ih=>intro m v cs F h;rw[l6,h.2.1];exact h
 | map k v=>
  intro m v cs F h
  have h1:=ak.length _ h
  have Y:=ak.one _ h
  match cs,h1 with
  | [y],_=>simp only[ak,l6,hole,List.any_cons,List.isEmpty_nil,Bool.true_or,if_true];exact ⟨y,rfl,Y y (by simp)⟩
 | _=>intro m v cs F h;exact h
section
variable {P:Program} {C:Ctx} {A:Cells} {X:FP} {σ:St} {a:Act} {w:World} {F:Nat->FP} {R:Type} {x:R}
structure At (σ:St) (r:Nat) (p:Path) (t:Ty) (m:Md) (H:List Path) (v:t.den):Prop where
 eq:∀ {S:Type} (K0:(t:Ty)->Md->List Path->t.den->Option S),jY σ r p K0=K0 t m H v
theorem At.inj {r:Nat} {p:Path} {t t':Ty} {m m':Md} {H H':List Path} {v:t.den} {v':t'.den} (h:At σ r p t m H v) (h':At σ r p t' m' H' v'):t=t'/\m=m'/\H=H'/\HEq v v':=by
 have h1:=h.eq (fun t m H v=>some (⟨t,m,H,v⟩:(t:Ty)×Md×List Path×t.den))
 rw[h'.eq] at h1
 injection h1 with h1
 injection h1 with h1 Y
 subst h1
 have Y:=eq_of_heq Y
 simp only[Prod.mk.injEq] at Y
 exact ⟨rfl,Y.1.symm,Y.2.1.symm,heq_of_eq Y.2.2.symm⟩
theorem yF (σ:St) (r d:Nat):(σ.head r d).n=σ.n:=by unfold St.head;split <;> rfl
theorem rI (σ:St) (r d i:Nat):(σ.head r d).get i=σ.get i:=by unfold St.head;split <;> rfl
theorem rJ (σ:St) (r d i:Nat):(σ.head r d).eO i=σ.eO i:=by unfold St.head;split <;> rfl
theorem Fe (σ:St) (r d:Nat):(σ.head r d).gh=σ.gh:=by unfold St.head;split <;> rfl
theorem Ck {r d:Nat} {f:List Nat->List Nat} (h1:Below (σ.eO r) (f (σ.eO r))) (Y:(f (σ.eO r)).length=5) {t:Ty} {m:Md} {H:List Path} {v:t.den} {q:Prop} (hq:1<=d->q) :
  J7 σ r ((σ.dT r t m H v).get r) q (((σ.dT r t m H v).fb r f).head r d) where
 n:=by rw[yF];exact nt r t m H v
 get i hi:=by rw[rI];exact pY r t m H v i hi
 root:=by rw[rI];rfl
 eO i hi:=by rw[rJ,kx,if_neg (fun e=>hi e.symm),kI]
 below:=by rw[rJ,kx,if_pos rfl,kI];exact h1
 fA:=by rw[rJ,kx,if_pos rfl,kI];exact Y
 aw e he:=by
  unfold St.head at he
  split at he
  ·have:=(yA he).1;simp only[St.fb,ma] at this;exact this
  ·simp only[St.fb,ma] at he;exact he
 Lv j k hm:=by
  unfold St.head
  split
  ·refine Gm ?_;simp only[St.fb,ma];exact hm
  ·simp only[St.fb,ma];exact hm
 gh e he:=by rw[Fe] at he;simp only[St.fb,tX] at he;exact he
 head k hm:=by
  unfold St.head at hm
  split at hm
  ·exact absurd ⟨rfl,rfl⟩ (yA hm).2
  ·rename_i hd;exact hq (Nat.pos_of_ne_zero hd)
theorem Cl (h:Rel P C A X σ a w F) {r:Nat} {p:Path} {K:St->Option R} (hk:qM σ r p K=some x) {t':Ty} {m':Md} {v':t'.den} (hn:At σ r p t' m' [] v') :
  ∃ (A':Cells) (σ':St) (F':Nat->FP) (cs:List Value) (ad:Option (Nat×Nat)) (Fv:FP),K σ'=some x/\(∀ b i,A b i->A' b i)/\Rel P C A' (fun b i=>X b i+Fv b i) σ' a w F'/\σ'.n=σ.n/\ky σ σ' /\
   place σ a w r p=some ⟨t',[],cs,ad⟩/\ak P w A t' m' [] v' cs Fv/\∀ b i,Fv b i<=F r b i:=by
 obtain ⟨hr,t1,m1,H1,v1,cs,ad,Fv,kk,h1,Y,h3,h4,h5,h6,h7,h8⟩:=h.Gn hk
 obtain ⟨e1,e2,e3,e4⟩:=hn.inj ⟨Y⟩
 subst e1;subst e2;subst e3
 have e4:=eq_of_heq e4
 subst e4
 obtain ⟨t0,m3,H3,v3,Fr,A3,k1,⟨m0,H0,v0,k0⟩,k2,k3,k4⟩:=h8 _ _ _ h1 w A cs (fun _ _=>0) (fun b i=>X b i+Fv b i) (Ext.refl _ _) (fun _ _ h=>h) (fun _ _ h=>.inl h) (fun b i=>Nat.le_refl _) h6 (fun _=>rfl) (ak.Lw _ h4)
 refine ⟨A3,_,_,cs,ad,Fv,k1,k2,k4 _ (Ck (nq _ (h.fA r)) (tV _ (h.fA r)) .inl) (fun p' snap hb aA hl=>?_),?_,qy hr v3 k0 (fun i=>by rw[rI];rfl),h3,h4,fun b i=>by have:=h5 b i;omega⟩
 ·refine ⟨0,False,?_,?_,?_,lk.zero (A:=A) ad (ak.Lw _ h4)⟩
  all_goals
   unfold St.ok at aA
   rw[rJ,kx,if_pos rfl,kI] at aA
   have:=vG (bq p) (h.fA r) hb aA
  ·omega
  ·intro;left;omega
  ·omega
 ·rw[yF];exact nt _ _ _ _ _
theorem z_ (h:Rel P C A X σ a w F) {r:Nat} {p:Path} {K:St->Option R} (hk:qM σ r p K=some x) {t':Ty} {m':Md} {v':t'.den} (hn:At σ r p t' m' [] v') :
  ∃ (A':Cells) (σ':St) (F':Nat->FP) (cs:List Value) (ad:Option (Nat×Nat)) (Fv:FP),K σ'=some x/\(∀ b i,A b i->A' b i)/\Rel P C A' (fun b i=>X b i+Fv b i) σ' a w F'/\σ'.n=σ.n/\ky σ σ' /\
   place σ a w r p=some ⟨t',[],cs,ad⟩/\ak P w A t' m' [] v' cs Fv:=
 have ⟨A',σ',F',cs,ad,Fv,h1,Y,h3,h4,h5,h6,h7,_⟩:=Cl h hk hn
 ⟨A',σ',F',cs,ad,Fv,h1,Y,h3,h4,h5,h6,h7⟩
theorem AA {r:Nat} (hv:(σ.eO r).length=5) {t:Ty} {m:Md} {H:List Path} {v:t.den} {q:Prop} (hq:q):J7 σ r ((σ.dT r t m H v).get r) q (σ.dT r t m H v):=
 ⟨nt _ _ _ _ _,fun i hi=>pY _ _ _ _ _ i hi,rfl,fun i _=>kI _ _ _ _ _ i,by rw[kI];exact Below.refl _,by rw[kI];exact hv,
  fun e he=>by rw[ma] at he;exact he,fun j k hm=>by rw[ma];exact hm,fun e he=>by rw[tX] at he;exact he,fun _ _=>hq⟩
theorem Ea (h:Rel P C A X σ a w F) {r:Nat} {p:Path} {m2:Md} {K:St->Option R} (hk:oM σ r p m2 K=some x) :
  ∃ (A':Cells) (σ':St) (F':Nat->FP),K σ'=some x/\(∀ b i,A b i->A' b i)/\Rel P C A' X σ' a w F'/\σ'.n=σ.n/\ky σ σ':=by
 obtain ⟨hr,t1,m1,H1,v1,cs,ad,Fv,kk,h1,Y,h3,h4,h5,h6,h7,h8⟩:=h.Gn hk
 have qG:∀ b i,X b i+F r b i<=1:=fun b i=>by have:=h.iW b i;have:=bi F hr b i;omega
 split at h1
 ·rename_i hc
  simp only[Bool.and_eq_true,List.isEmpty_iff] at hc
  obtain ⟨rfl,hc⟩:=hc
  obtain ⟨F1,Cm,cK⟩:=ak.fits _ hc h4 (fun b i=>by have:=h5 b i;have:=qG b i;omega)
  have BC:=cK (fun b i=>A b i\/(1<=Fv b i/\F1 b i=0)) (fun _ _ h=>.inl h) (fun b i h1 Y=>.inr ⟨h1,Y⟩)
  obtain ⟨t0,m3,H3,v3,Fr,A3,k1,⟨m0,H0,v0,k0⟩,k2,k3,k4⟩:=h8 _ _ _ h1 w (fun b i=>A b i\/(1<=Fv b i/\F1 b i=0)) cs F1 X (Ext.refl _ _) (fun _ _ h=>.inl h)
   (fun b i ha=>ha.imp id fun ⟨h1,Y⟩=>⟨by omega,by have:=h5 b i;have:=qG b i;omega⟩) (fun b i=>by have:=Cm b i;omega) h6 (fun _=>rfl) BC
  exact ⟨A3,_,_,k1,fun b i ha=>k2 b i (.inl ha),k4 _ (AA (h.fA r) (.inr rfl)) (fun p' snap hb aA hl=>⟨bq p'+1,True,by omega,fun _=>.inr trivial,fun _=>trivial,
   lk.same ad h4 (fun _ _ _ _ h=>h) (fun _ _ _ _ h=>h) _ True⟩),nt _ _ _ _ _,qy hr v3 k0 (fun i=>rfl)⟩
 ·cases h1
theorem vK (h:Rel P C A X σ a w F) {r:Nat} {p:Path} {K:St->Option R} (hk:rm σ r p K=some x) :
  ∃ (A':Cells) (σ':St) (F':Nat->FP) (t':Ty) (m':Md) (v':t'.den) (cs:List Value) (ad:Option (Nat×Nat)),K σ'=some x/\(∀ b i,A b i->A' b i)/\Rel P C A' X σ' a w F'/\σ'.n=σ.n/\ky σ σ' /\
   At σ r p t' m' [] v'/\place σ a w r p=some ⟨t',[],cs,ad⟩/\Ro P w A' t' v' cs:=by
 obtain ⟨hr,t1,m1,H1,v1,cs,ad,Fv,kk,h1,Y,h3,h4,h5,h6,h7,h8⟩:=h.Gn hk
 have qG:∀ b i,X b i+F r b i<=1:=fun b i=>by have:=h.iW b i;have:=bi F hr b i;omega
 split at h1
 ·rename_i hc
  simp only[Bool.and_eq_true,List.isEmpty_iff] at hc
  obtain ⟨rfl,hc⟩:=hc
  have l7:Ro P w (fun b i=>A b i\/1<=Fv b i) t1 v1 cs:=ak.o9 (fun _ _ h=>.inl h) t1 h4 (fun b i hp=>.inr hp)
  obtain ⟨t0,m3,H3,v3,Fr,A3,k1,⟨m0,H0,v0,k0⟩,k2,k3,k4⟩:=h8 _ _ _ h1 w (fun b i=>A b i\/1<=Fv b i) cs (fun _ _=>0) X (Ext.refl _ _) (fun _ _ h=>.inl h)
   (fun b i ha=>ha.imp id fun h1=>⟨by omega,by have:=h5 b i;have:=qG b i;omega⟩) (fun b i=>by omega) h6 (fun _=>rfl) (Ro.rep _ _ (cX _) l7)
  exact ⟨A3,_,_,t1,m1,v1,cs,ad,k1,fun b i ha=>k2 b i (.inl ha),k4 _ (AA (h.fA r) (.inr rfl)) (fun p' snap hb aA hl=>⟨bq p'+1,True,by omega,fun _=>.inr trivial,fun _=>trivial,
   lk.same ad h4 (fun _ _ _ _ h=>h) (fun _ _ _ _ h=>h) _ True⟩),nt _ _ _ _ _,qy hr v3 k0 (fun i=>rfl),⟨Y⟩,h3,Ro.mono (fun _ _ _ _ h=>h) k2 _ l7⟩
 ·cases h1
theorem a_ {t t':Ty} {v:t.den} {K:t'.den->Option R} (h:dV t t' v K=some x):∃ e:t=t',K (e ▸ v)=some x:=by
 unfold dV at h
 split at h
 ·rename_i e;exact ⟨e,h⟩
 ·cases h
theorem tk (h:Rel P C A X σ a w F) {r:Nat} {p:Path} {t:Ty} {m:Md} {v:t.den} {K:St->Option R} (hk:nX σ r p t m v K=some x) :
  r < σ.n/\∃ (m':Md) (H':List Path) (v':t.den) (cs:List Value) (ad:Option (Nat×Nat)) (F':FP),At σ r p t m' H' v'/\place σ a w r p=some ⟨t,H',cs,ad⟩/\ak P w A t m' H' v' cs F' /\
   (∀ b i,dp ad t.sz b i+F' b i<=F r b i)/\(∀ b o,ad=some (b,o)->Has w b o cs/\∀ j,j < t.sz->w.frozen? ⟨b,o+j,none⟩=false) /\
   ∀ (w2:World) (A2:Cells) (bm:List Value) (Fv X2:FP),Ext w w2 (fun b i=>X b i+(F' b i+dp ad t.sz b i))->(∀ b i,A b i->A2 b i)->(∀ b i,A2 b i->A b i\/(1<=X b i+F' b i/\X2 b i+Fv b i=0)) ->
    (∀ b i,X2 b i+Fv b i<=X b i+F' b i)->(∀ b o,ad=some (b,o)->Has w2 b o bm)->(ad=none->bm=cs)->ak P w2 A2 t m [] v bm Fv ->
    ∃ (A3:Cells) (σ':St) (Fr:FP),K σ'=some x/\(∀ b i,A2 b i->A3 b i)/\Rel P C A3 X2 σ' a w2 (cm F r Fr)/\σ'.n=σ.n /\
     ∀ g:List Nat->List Nat,Below (σ.eO r) (g (σ.eO r))->(g (σ.eO r)).length=5->bm=cs ->
      (∀ (p':Path) (snap:List Nat),Below snap (σ.eO r)->preB snap (g (σ.eO r))=true->(snap.length=min 5 (1+bq p')\/snap.length=min 5 (2+bq p')\/snap.length=5) ->
       ∃ D full,bq p'<=D+bq p/\(snap.length=min 5 (2+bq p')->bq p' < D+bq p\/full)/\(snap.length=5->full)/\lk D full w t H' cs ad w2 [] bm) ->
      Rel P C A3 X2 { σ' with vr:=(σ.fb r g).vr,aw:=σ.aw } a w2 (cm F r Fr):=by
 obtain ⟨hr,t1,m1,H1,v1,cs,ad,Fv,kk,h1,Y,h3,h4,h5,h6,h7,h8⟩:=h.Gn hk
 obtain ⟨e,h1⟩:=a_ h1
 subst e
 refine ⟨hr,m1,H1,v1,cs,ad,Fv,⟨Y⟩,h3,h4,h5,fun b o e=>⟨h6 b o e,h7 b o e⟩,fun w2 A2 bm R3 X2 g1 g2 g3 g4 g5 g6 g7=>?_⟩
 obtain ⟨t0,m3,H3,v3,Fr,A3,k1,⟨m0,H0,v0,k0⟩,k2,k3,k4⟩:=h8 m [] v h1 w2 A2 bm R3 X2 g1 g2 g3 g4 g5 g6 g7
 refine ⟨A3,_,Fr,k1,k2,k4 _ (Ck ?_ ?_ .inl) (fun p' snap hb aA hl=>?_),?_,fun g R4 R5 mh bf=>?_⟩
 ·split
  ·exact pX (h.fA r)
  ·exact nq _ (h.fA r)
 ·split
  ·exact vF (h.fA r)
  ·exact tV _ (h.fA r)
 ·unfold St.ok at aA
  rw[rJ,kx,if_pos rfl,kI] at aA
  by_cases hf:t.flat=true
  ·rw[if_pos hf] at aA
   have:=xK (h.fA r) hb aA
   exact ⟨bq p'+1,False,by omega,fun _=>.inl (by omega),fun _=>by omega,lk.flat (A:=A) ad g7 hf _⟩
  ·rw[if_neg hf] at aA
   have:=vG (bq p) (h.fA r) hb aA
   exact ⟨0,False,by omega,fun _=>.inl (by omega),fun _=>by omega,lk.zero (A:=A) ad g7⟩
 ·rw[yF];exact nt _ _ _ _ _
 ·refine k4 _ ⟨by rw[yF];exact nt _ _ _ _ _,fun i hi=>?_,?_,fun i hi=>?_,?_,?_,fun e he=>he,fun j k hm=>hm,fun e he=>?_,fun _ _=>.inr mh⟩ (fun p' snap hb aA hl=>bf p' snap hb ?_ hl)
  ·show (((σ.dT r t0 m3 H3 v3).fb r _).head r _).get i=_
   rw[rI];exact pY r t0 m3 H3 v3 i hi
  ·show (((σ.dT r t0 m3 H3 v3).fb r _).head r _).get r=_
   rw[rI];rfl
  ·show (σ.fb r g).eO i=σ.eO i
   rw[kx,if_neg (fun e=>hi e.symm)]
  ·show Below _ ((σ.fb r g).eO r)
   rw[kx,if_pos rfl];exact R4
  ·show ((σ.fb r g).eO r).length=5
   rw[kx,if_pos rfl];exact R5
  ·have he:e ∈ (((σ.dT r t0 m3 H3 v3).fb r _).head r _).gh:=he
   rw[Fe] at he;simp only[St.fb,tX] at he;exact he
  ·have aA:preB snap ((σ.fb r g).eO r)=true:=aA
   rw[kx,if_pos rfl] at aA;exact aA
end
end OT
set_option linter.unusedVariables false
set_option linter.unusedSimpArgs false
namespace OT
open Go
section
variable {P:Program} {C:Ctx} {A:Cells} {X:FP} {σ:St} {a:Act} {w:World} {F:Nat->FP} {R:Type} {x:R}
theorem Rel.grow (h:Rel P C A X σ a w F) {w1:World} (hw:Ext w w1 (fun _ _=>0)) {A1:Cells} {X1:FP} (hA:∀ b i,A b i->A1 b i)
  (vL:∀ b i,A1 b i->A b i\/(w.heap.size<=b/\b < w1.heap.size/\X1 b i=0)) (hX:∀ b i,X1 b i<=X b i\/(w.heap.size<=b/\b < w1.heap.size/\X1 b i<=1)):Rel P C A1 X1 σ a w1 F:=by
 have l8:∀ b i,A b i->∀ u,ce w b i=some u->ce w1 b i=some u:=fun b i ha u hu=>hw.cell b i (h.ek b i (.inr ha)) rfl u hu
 have Cn:∀ b i,w.heap.size<=b->az σ.n F b i=0:=fun b i hb=>by
  rcases Nat.eq_zero_or_pos (az σ.n F b i) with h0 | h0
  ·exact h0
  ·have:=h.ek b i (.inl (by omega));omega
 have vI:∀ j,j < σ.n->∀ b i,1<=F j b i->(∀ u,ce w b i=some u->ce w1 b i=some u)/\w1.frozen? ⟨b,i,none⟩=w.frozen? ⟨b,i,none⟩:=fun j hj b i hp=>by
  have hb:=h.ek b i (.inl (by have:=bi F hj b i;omega))
  exact ⟨fun u hu=>hw.cell b i hb rfl u hu,hw.qx b i hb⟩
 have gS:pL σ a w σ a w1:=fun r p snap hb=>⟨hb,fun aA=>⟨aA,fun hl pl dQ=>⟨pl.H,pl.cs,by
  have aj:=nr dQ
  exact of (h.dw r aj) rfl rfl l8 (fun b i hp=>(vI r aj b i hp).1) dQ,fun _=>rfl⟩⟩⟩
 refine ⟨h.size,h.defers,fun i hi=>a8.gf gS hA l8 hw.pF (vI i hi) (h.dw i hi),fun d r p snap hm=>kV.gf gS (h.gh d r p snap hm),fun b i=>?_,fun b i hp ha=>?_,fun b i hp=>?_,
  h.fA,h.ext.trans hw (fun _ _ _ _=>rfl),fun b i hp=>?_,fun b i ha=>hA b i (h.a0 b i ha),fun b i ha=>?_,h.iz,fun r t m H v hg hl=>?_,fun j k hm R' dK=>?_⟩
 ·have h1:=h.iW b i
  rcases hX b i with Y | ⟨Y,h3,h4⟩
  ·omega
  ·have:=Cn b i Y;omega
 ·rcases vL b i ha with ha | ⟨h1,Y,h3⟩
  ·have aj:=h.ek b i (.inr ha)
   rcases hX b i with Y | ⟨Y,_⟩
   ·exact h.jK b i (by omega) ha
   ·omega
  ·have:=Cn b i h1;omega
 ·rcases hp with hp | ha
  ·rcases hX b i with Y | ⟨Y,h3,_⟩
   ·exact Nat.lt_of_lt_of_le (h.ek b i (.inl (by omega))) hw.size
   ·exact h3
  ·rcases vL b i ha with ha | ⟨h1,Y,h3⟩
   ·exact Nat.lt_of_lt_of_le (h.ek b i (.inr ha)) hw.size
   ·exact Y
 ·rcases hX b i with Y | ⟨Y,_⟩
  ·exact h.own b i (by omega)
  ·exact .inr (Nat.le_trans h.ext.size Y)
 ·rcases vL b i ha with ha | ⟨h1,_⟩
  ·exact h.a1 b i ha
  ·exact .inr (.inr (Nat.le_trans h.ext.size h1))
 ·obtain ⟨b,h1,Y⟩:=h.whole r t m H v hg hl
  exact ⟨b,h1,hw.pF _ _ Y⟩
 ·rcases Nat.lt_or_ge j σ.n with hj | hj
  ·have ir:=h.dw j hj
   cases nU:bn w (tmp a j) (σ.get j) with
   | none=>exfalso;cases hg:σ.get j <;> rw[hg] at nU dK <;> simp only[bn] at nU dK <;> first | (cases dK;done) | (cases nU;done) | (split at nU <;> simp_all)
   | some R0=>
    rw[pc ir (fun b i hp=>(vI j hj b i hp).1) nU] at dK
    injection dK with dK
    subst dK
    exact h.gI j k hm _ nU
  ·rw[fd (Nat.not_lt.2 hj)] at dK;cases dK
def bu (P:Program):Operand->Bool
 | .func f=>(P.funcs[f]?).any (·.nfree == 0)
 | _=>true
theorem cq (h:Rel P C A X σ a w F) {o:Operand} (ho:bu P o=true):a8 P A σ a w (a.eval o) (bB σ o) (fun _ _=>0)\/∃ xs,bB σ o=.li xs:=by
 cases o with
 | tmp i=>
  show a8 P A σ a w (tmp a i) _ _\/_
  rcases Nat.lt_or_ge i σ.n with hi | hi
  ·have hs:=h.dw i hi
   simp only[bB]
   cases hg:σ.get i with
   | own t m H v=>
    rw[hg] at hs
    obtain ⟨cs,h1,Y⟩:=hs
    left
    have dQ:place σ a w i []=some ⟨t,H,cs,none⟩:=by
     unfold place;rw[hg];simp only[bn,h1,fB (ak.length t Y) (ak.one t Y),Option.bind_some,aH]
    have h5:=h.fA i
    refine ⟨?_,fun _=>⟨_,dQ,h1,?_⟩⟩
    ·unfold oO
     split
     ·intro j y hj;rw[List.getElem?_take] at hj;split at hj;exact ⟨y,hj,Nat.le_refl _⟩;cases hj
     ·intro j y hj;rw[List.getElem?_take] at hj;split at hj;exact ⟨y,hj,Nat.le_refl _⟩;cases hj
     ·exact Below.refl _
    ·unfold oO
     split
     ·left;simp[ou,bq,h5]
     ·left;simp[ou,bq,h5]
     ·right;exact h5
   | box t m H v=>
    rw[hg] at hs
    obtain ⟨b,o,L,F1,h1,Y,h3,h4,h5,h6⟩:=hs
    left
    have R6:=h.fA i
    refine ⟨?_,fun _=>⟨⟨t,H,L,some (b,o)⟩,b,o,?_,rfl,h1,by simp[oN,bq,R6]⟩⟩
    ·unfold oN
     intro j y hj;rw[List.getElem?_take] at hj;split at hj;exact ⟨y,hj,Nat.le_refl _⟩;cases hj
    ·unfold place;rw[hg,h1];simp only[bn,bC h3 Y,Option.bind_some,aH]
   | li xs=>exact .inr ⟨xs,rfl⟩
   | dead=>exact .inl trivial
   | o4=>rw[hg] at hs;exact .inl hs
   | val t v=>rw[hg] at hs;exact .inl hs
   | cp t v=>rw[hg] at hs;exact .inl hs
   | ref r p snap=>rw[hg] at hs;exact .inl hs
   | ptr r p snap=>rw[hg] at hs;exact .inl hs
   | sub r p snap lo hi=>rw[hg] at hs;exact .inl hs
  ·simp only[bB,fd (Nat.not_lt.2 hi)];exact .inl trivial
 | const v=>
  left
  show a8 P A σ a w v (qh v) _
  unfold qh
  split
  ·split
   ·rename_i hn;exact ⟨[_],rfl,by simp only[Ro,jD];rw[hn]⟩
   ·trivial
  ·exact ⟨[_],rfl,rfl⟩
  ·exact ⟨[_],rfl,rfl⟩
  ·exact ⟨[_],rfl,rfl⟩
  ·exact ⟨[_],rfl,rfl⟩
  ·exact ⟨[_],rfl,rfl⟩
  ·exact ⟨[_],rfl,by simp[Ro]⟩
  ·rfl
  ·trivial
 | func f=>
  left
  simp only[bu,Option.any_eq_true,beq_iff_eq] at ho
  obtain ⟨fn,h1,Y⟩:=ho
  exact ⟨[_],rfl,#[],rfl,fn,h1,.inl ⟨Y,rfl⟩⟩
 | global g=>exact .inl trivial
def AO (A:Cells) (σ:St) (F:Nat->FP):Cells:=fun b i=>A b i\/1<=az σ.n F b i
theorem bz (t:Ty) (y:Value) (h:isAgg t=false):bj t [y]=y:=by simp[bj,h]
theorem Ro.piece {e:Ty} {v:List e.den} {xa:Option Addr} {n cap lo hi cap':Nat} {nV:Option Addr} (h:Ro P w A (.U e) v [.slice xa n cap]) (h1:lo<=hi) (Y:hi<=n) (h3:cap'+lo=cap) (h4:xa=none->nV=none)
  (h5:∀ ad,xa=some ad->∃ a7,nV=some a7/\a7.spot=ad.spot/\a7.block=ad.block/\(lo < hi->a7.off=ad.off+lo*e.sz)) :
  Ro P w A (.U e) ((v.take hi).drop lo) [.slice nV (hi - lo) cap']:=by
 obtain ⟨a0,QR,g1,g2,g3,g4⟩:=h
 simp only[List.cons.injEq,Value.slice.injEq,and_true] at g1
 obtain ⟨rfl,rfl,rfl⟩:=g1
 have hlen:List.length ((v.take hi).drop lo)=hi - lo:=by simp;omega
 refine ⟨nV,cap',by rw[hlen],by rw[hlen];omega,fun hn=>?_,fun a7 xH=>?_⟩
 ·rw[hlen]
  cases rK:xa with
  | none=>have:=g3 rK;omega
  | some ad=>obtain ⟨a7,e1,_⟩:=h5 ad rK;rw[hn] at e1;cases e1
 ·cases rK:xa with
  | none=>rw[h4 rK] at xH;cases xH
  | some ad=>
   obtain ⟨sr,e1,e2,e3,e4⟩:=h5 ad rK
   rw[xH] at e1
   injection e1 with e1
   subst e1
   obtain ⟨f1,f2⟩:=g4 ad rK
   refine ⟨fun hp=>e2.trans (f1 (by omega)),fun i y hy=>?_⟩
   have eF:i < hi - lo:=by have:=(List.getElem?_eq_some_iff.1 hy).1;omega
   rw[List.getElem?_drop,List.getElem?_take] at hy
   split at hy
   ·obtain ⟨L,l1,l2,l3⟩:=f2 _ _ hy
    refine ⟨L,l1,fun j u hu=>?_,l3⟩
    rw[e3,e4 (by omega)]
    have:=l2 j u hu
    rw[Nat.add_mul,<- Nat.add_assoc ad.off] at this
    exact this
   ·cases hy
def AR (A:Cells) (F:Nat->FP) (rs:List Nat):Cells:=fun b i=>A b i\/∃ r ∈ rs,1<=F r b i
theorem AB (h:Rel P C A X σ a w F) {s:Slot} {tv:Value} {G:FP} (hs:a8 P A σ a w tv s G) {t:Ty} {K:t.den->Option R} (hk:ld σ s t K=some x) :
  ∃ (v:t.den) (cs:List Value),K v=some x/\tv=bj t cs/\Ro P w (AR A F (gr s)) t v cs:=by
 have Ff:∀ b i,A b i->AR A F (gr s) b i:=fun b i ha=>.inl ha
 have o_:∀ b i,A b i->∀ u,ce w b i=some u->ce w b i=some u:=fun _ _ _ _ h=>h
 cases s with
 | val t' v=>
  obtain ⟨e,hk⟩:=a_ hk;subst e
  obtain ⟨cs,h1,Y⟩:=hs
  exact ⟨v,cs,hk,h1,Ro.mono o_ Ff _ Y⟩
 | cp t' v=>
  obtain ⟨e,hk⟩:=a_ hk;subst e
  exact ⟨v,[tv],hk,(bz _ _ rfl).symm,Ro.mono o_ Ff _ hs⟩
 | o4=>
  simp only[ld] at hk
  split at hk
  ·rename_i t e
   have hs:tv=.slice none 0 0:=hs
   subst hs
   exact ⟨[],_,hk,(bz _ _ rfl).symm,none,0,rfl,Nat.le_refl _,fun _=>rfl,fun ad cZ=>by cases cZ⟩
  ·cases hk
 | ref r p snap=>
  simp only[ld] at hk
  split at hk
  ·rename_i aA
   obtain ⟨hr,t',m',H',v',aM,a7,F',h1,Y,h3,h4,h5,h6⟩:=fq h hk
   obtain ⟨pl,g1,g2,g3⟩:=hs.2 aA
   rw[h3] at g1
   injection g1 with g1
   subst g1
   split at h1
   ·rename_i hH
    have hH:=List.isEmpty_iff.1 hH;subst hH
    obtain ⟨e,h1⟩:=a_ h1;subst e
    exact ⟨v',aM,h1,g2,ak.o9 Ff _ h4 (fun b i hp=>.inr ⟨r,List.mem_singleton.2 rfl,by have:=h5 b i;omega⟩)⟩
   ·cases h1
  ·cases hk
 | sub r p snap lo hi=>
  simp only[ld] at hk
  split at hk
  ·rename_i aA
   obtain ⟨hr,t',m',H',v',aM,a7,F',h1,Y,h3,h4,h5,h6⟩:=fq h hk
   obtain ⟨pl,e,xa,n,cap,nV,cap',g1,g2,g3,g4,g5,g6,g7,Co,g8,g9,g10⟩:=hs.2 aA
   rw[h3] at g1
   injection g1 with g1
   subst g1
   simp only at g2 g3
   subst g2;subst g3
   split at h1
   ·rename_i hH
    have hH:=List.isEmpty_iff.1 hH;subst hH
    obtain ⟨e',h1⟩:=a_ h1;subst e'
    exact ⟨_,_,h1,by rw[bz _ _ rfl];exact g6,Ro.piece (ak.o9 Ff _ h4 (fun b i hp=>.inr ⟨r,List.mem_singleton.2 rfl,by have:=h5 b i;omega⟩)) g4 g5 g7 g8 g9⟩
   ·cases h1
  ·cases hk
 | ptr r p snap=>
  simp only[ld] at hk
  split at hk
  ·rename_i aA
   obtain ⟨hr,t',m',H',v',aM,a7,F',h1,Y,h3,h4,h5,h6⟩:=fq h hk
   obtain ⟨pl,b,o,g1,g2,g3,g4⟩:=hs.2 aA
   rw[h3] at g1
   injection g1 with g1
   subst g1
   split at h1
   ·rename_i hH
    have hH:=List.isEmpty_iff.1 hH;subst hH
    obtain ⟨e',h1⟩:=a_ h1;subst e'
    simp only at g2
    subst g2
    refine ⟨v',[tv],h1,(bz _ _ rfl).symm,⟨b,o,none⟩,by rw[g3],rfl,aM,ak.length _ h4,fun j u hu=>⟨h6 b o rfl j u hu,?_⟩,
     ak.o9 Ff _ h4 (fun b i hp=>.inr ⟨r,List.mem_singleton.2 rfl,by have:=h5 b i;omega⟩)⟩
    have hj:j < t'.sz:=ak.length _ h4 ▸ (List.getElem?_eq_some_iff.1 hu).1
    unfold place at h3
    cases hR:bn w (tmp a r) (σ.get r) with
    | none=>rw[hR] at h3;cases h3
    | some R0=>
     rw[hR] at h3
     obtain ⟨m0,v0,F1,q1,q2,q3,_⟩:=qP (h.dw r hr) hR
     exact Ic Ff p R0.t q1 (fun b i hp=>.inr ⟨r,List.mem_singleton.2 rfl,by have:=q2 b i;omega⟩) (fun b' o' e' j hj=>.inr ⟨r,List.mem_singleton.2 rfl,by
      have:=(q3 b' o' e').2.1 b' (o'+j)
      simp[bp,hj] at *;omega⟩) h3 b o rfl j hj
   ·cases h1
  ·cases hk
 | _=>simp[ld] at hk
theorem vM (h:Rel P C A X σ a w F) {s:Slot} {t:Ty} {K:t.den->Option R} (hk:ld σ s t K=some x):∀ r ∈ gr s,r < σ.n:=by
 intro r hr
 cases s <;> simp only[gr,List.mem_singleton,List.not_mem_nil] at hr
 all_goals
  subst hr
  simp only[ld] at hk
  split at hk
  ·exact (fq h hk).1
  ·cases hk
theorem Fg (h:Rel P C A X σ a w F) {s:Slot} {tv:Value} {G:FP} (hs:a8 P A σ a w tv s G) {t:Ty} {K:t.den->Option R} (hk:ld σ s t K=some x) :
  ∃ (v:t.den) (cs:List Value),K v=some x/\tv=bj t cs/\Ro P w (AO A σ F) t v cs:=by
 obtain ⟨v,cs,h1,Y,h3⟩:=AB h hs hk
 refine ⟨v,cs,h1,Y,Ro.mono (fun _ _ _ _ h=>h) (fun b i ha=>?_) t h3⟩
 rcases ha with ha | ⟨r,hr,hp⟩
 ·exact .inl ha
 ·have:=bi F (vM h hk r hr) b i
  exact .inr (by omega)
end
end OT
