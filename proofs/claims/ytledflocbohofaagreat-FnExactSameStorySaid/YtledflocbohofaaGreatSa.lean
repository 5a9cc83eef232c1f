/- The proof's parts, merged: The pure interpreter of the model s code over owned trees  definitions alone, nothing is claimed here.. No conditions but those that each states. -/
import GoSem.Core.Code
import GoSem.Core.View
import Derived.Laws.IdiomCopy
import Derived.Laws.Cells
import Derived.Laws.AppendOwn
import Derived.Calls
namespace OT
open Go
inductive Ty where
 | int (k:IntKind)
 | bool
 | str
 | unit
 | pair (a b:Ty)
 | arr (n:Nat) (e:Ty)
 | U (e:Ty)
 | ptr (e:Ty)
 | fn
 | map (k v:Ty)
 deriving DecidableEq
@[reducible] def st:IntKind->Type
 | .u8=>UInt8
 | _=>Int
@[reducible] def Ty.den:Ty->Type
 | .int k=>st k
 | .bool=>Bool
 | .str=>List UInt8
 | .unit=>Unit
 | .pair a b=>a.den×b.den
 | .arr _ e=>List e.den
 | .U e=>List e.den
 | .ptr e=>e.den
 | .fn=>Nat×Int
 | .map k v=>List (k.den×v.den)
def Ty.sz:Ty->Nat
 | .unit=>0
 | .pair a b=>a.sz+b.sz
 | .arr n e=>n*e.sz
 | _=>1
def Ty.flat:Ty->Bool
 | .pair a b=>a.flat&&b.flat
 | .arr _ e=>e.flat
 | .U _ | .ptr _ | .map _ _=>false
 | _=>true
def jg:(k:IntKind)->st k->Int
 | .u8,n=>(n.toNat:Int)
 | .i8,n=>n
 | .i16,n=>n
 | .i32,n=>n
 | .i64,n=>n
 | .u16,n=>n
 | .u32,n=>n
 | .u64,n=>n
def uj:(k:IntKind)->Int->st k
 | .u8,n=>UInt8.ofInt n
 | .i8,n=>IntKind.wrap .i8 n
 | .i16,n=>IntKind.wrap .i16 n
 | .i32,n=>IntKind.wrap .i32 n
 | .i64,n=>IntKind.wrap .i64 n
 | .u16,n=>IntKind.wrap .u16 n
 | .u32,n=>IntKind.wrap .u32 n
 | .u64,n=>IntKind.wrap .u64 n
def Kx:(k:IntKind)->Int->st k
 | .u8,n=>UInt8.ofInt n
 | .i8,n=>n
 | .i16,n=>n
 | .i32,n=>n
 | .i64,n=>n
 | .u16,n=>n
 | .u32,n=>n
 | .u64,n=>n
def Ty.zero:(t:Ty)->t.den
 | .int k=>Kx k 0
 | .bool=>false
 | .str=>[]
 | .unit=>()
 | .pair a b=>(a.zero,b.zero)
 | .arr n e=>List.replicate n e.zero
 | .U _=>[]
 | .ptr e=>e.zero
 | .fn=>(0,0)
 | .map _ _=>[]
def Ty.nT:Ty->Bool
 | .pair a b=>a.nT&&b.nT
 | .arr _ e=>e.nT
 | .ptr _ | .fn | .map _ _=>false
 | _=>true
def Ty.eq:(t:Ty)->t.den->t.den->Bool
 | .int .u8,a,b=>a == b
 | .int .i8,a,b=>decide (a=b)
 | .int .i16,a,b=>decide (a=b)
 | .int .i32,a,b=>decide (a=b)
 | .int .i64,a,b=>decide (a=b)
 | .int .u16,a,b=>decide (a=b)
 | .int .u32,a,b=>decide (a=b)
 | .int .u64,a,b=>decide (a=b)
 | .bool,a,b=>a == b
 | .str,a,b=>decide (a=b)
 | .pair x y,a,b=>x.eq a.1 b.1&&y.eq a.2 b.2
 | .arr _ e,a,b=>(a.zip b).all fun p=>e.eq p.1 p.2
 | _,_,_=>true
def Ty.gV:Ty->Bool
 | .int _ | .bool | .str | .unit=>true
 | .pair a b=>a.gV&&b.gV
 | .arr _ e=>e.gV
 | _=>false
def Ty.k9:Ty->Bool
 | .pair a b=>a.k9&&b.k9
 | .arr _ e | .U e | .ptr e=>e.k9
 | .map k v=>k.k9&&v.k9
 | .fn=>false
 | _=>true
inductive Md where
 | leaf
 | pair (a b:Md)
 | arr (e:Md)
 | U (own:Bool) (e:Md)
 | ptr (own:Bool) (e:Md)
 deriving DecidableEq
def mz (own:Bool):Ty->Md
 | .pair a b=>.pair (mz own a) (mz own b)
 | .arr _ e=>.arr (mz own e)
 | .U e=>.U own (mz own e)
 | .ptr e=>.ptr own (mz own e)
 | .map _ _=>.U own .leaf
 | _=>.leaf
abbrev ay:=mz false
abbrev aq:=mz true
def Md.l:Md->Md
 | .pair a _=>a
 | _=>.leaf
def Md.r:Md->Md
 | .pair _ b=>b
 | _=>.leaf
def Md.e:Md->Md
 | .arr e | .U _ e | .ptr _ e=>e
 | _=>.leaf
def Md.own:Md->Bool
 | .U o _ | .ptr o _=>o
 | _=>false
def Md.d9:Md->Bool
 | .leaf=>true
 | .pair a b=>a.d9&&b.d9
 | .arr e=>e.d9
 | .U o e=>!o&&e.d9
 | .ptr o e=>!o&&e.d9
def fits:Md->Md->Bool
 | .leaf,.leaf=>true
 | .pair a b,.pair c d=>fits a c&&fits b d
 | .arr a,.arr b=>fits a b
 | .U o a,.U o' b=>(o||!o')&&(o'||b.d9)&&fits a b
 | .ptr o a,.ptr o' b=>(o||!o')&&(o'||b.d9)&&fits a b
 | _,_=>false
inductive Step where
 | fst
 | snd
 | idx (i:Nat)
 | iW (i:Nat)
abbrev Path:=List Step
def bk:Path->Nat
 | []=>0
 | .idx _::p=>bk p+1
 | _::p=>bk p
structure xt where
 t:Ty
 m:Md
 v:t.den
inductive Slot where
 | dead
 | oo
 | val (t:Ty) (v:t.den)
 | cp (t:Ty) (v:t.den)
 | own (t:Ty) (m:Md) (H:List Path) (v:t.den)
 | box (t:Ty) (m:Md) (H:List Path) (v:t.den)
 | ref (r:Nat) (p:Path) (snap:List Nat)
 | sub (r:Nat) (p:Path) (snap:List Nat) (lo hi:Nat)
 | ptr (r:Nat) (p:Path) (snap:List Nat)
 | kC (xs:List xt)
structure St where
 n:Nat
 sl:List (Nat×Slot)
 vr:List (Nat×List Nat)
 av:List (Nat×Nat×Bool)
 gh:List (Nat×Nat×Path×List Nat):=[]
def f5 {α:Type}:List (Nat×α)->Nat->Option α
 | [],_=>none
 | (k,x)::l,i=>if Nat.beq k i then some x else f5 l i
def St.get (σ:St) (i:Nat):Slot:=if Nat.blt i σ.n then (match f5 σ.sl i with | some s=>s | none=>.dead) else .dead
def St.eH (σ:St) (i:Nat):List Nat:=match f5 σ.vr i with | some v=>v | none=>[0,0,0,0,0]
def k_:List Nat->List Nat:=fun v=>v.map (·+1)
def l_ (d:Nat):List Nat->List Nat
 | [b,x,y,z,w]=>match d with
  | 0=>[b,x+1,y,z,w+1]
  | 1=>[b,x,y+1,z,w+1]
  | 2=>[b,x,y,z+1,w+1]
  | _=>[b+1,x,y,z,w+1]
 | v=>k_ v
def oq:List Nat->List Nat
 | [b,x,y,z,w]=>[b,x,y,z,w+1]
 | v=>k_ v
def St.eY (σ:St) (i:Nat) (f:List Nat->List Nat):St:={ σ with vr:=(i,f (σ.eH i))::σ.vr }
def qC:List (Nat×Nat×Bool)->Nat->List (Nat×Nat×Bool)
 | [],_=>[]
 | (k,b)::l,i=>if Nat.beq k i then qC l i else (k,b)::qC l i
def Ba:List (Nat×Nat×Path×List Nat)->Nat->List (Nat×Nat×Path×List Nat)
 | [],_=>[]
 | (d,x)::l,i=>if Nat.beq d i then Ba l i else (d,x)::Ba l i
def qD:List (Nat×Nat×Bool)->Nat->List (Nat×Nat×Bool)
 | [],_=>[]
 | (k,n,b)::l,i=>if Nat.beq k i&&b then qD l i else (k,n,b)::qD l i
def su:List (Nat×Nat×Bool)->Nat->Nat->Bool->Bool
 | [],_,_,_=>false
 | (k,n,b)::l,i,j,c=>(Nat.beq k i&&Nat.beq n j&&(b == c))||su l i j c
def sS:List (Nat×Nat×Bool)->Nat->Bool
 | [],_=>false
 | (k,_,b)::l,i=>(Nat.beq k i&&!b)||sS l i
def xu:List (Nat×Nat×Bool)->Nat->Option Nat
 | [],_=>none
 | (k,n,b)::l,i=>if Nat.beq k i&&b then some n else xu l i
def St.put (σ:St) (i:Nat) (s:Slot):St:={ n:=σ.n,sl:=(i,s)::σ.sl,vr:=(i,k_ (σ.eH i))::σ.vr,av:=qC σ.av i,gh:=Ba σ.gh i }
def St.head (σ:St) (r d:Nat):St:=match d with
 | 0=>{ σ with av:=qD σ.av r }
 | _=>σ
def St.Bb (σ:St) (i:Nat) (s:Slot):St:={ σ with sl:=(i,s)::σ.sl }
def St.aQ (σ:St) (d:Option Tmp) (s:Slot):St:=match d with
 | some i=>σ.put i s
 | none=>σ
def preB:List Nat->List Nat->Bool
 | [],_=>true
 | a::x,b::y=>Nat.beq a b&&preB x y
 | _::_,[]=>false
section
variable {R:Type}
def dT (t t':Ty) (v:t.den) (K:t'.den->Option R):Option R:=
 if h:t=t' then K (h ▸ v) else none
def nt:Path->Option Path
 | .fst::p=>some p
 | _=>none
def nu:Path->Option Path
 | .snd::p=>some p
 | _=>none
def o6 (H:List Path) (i:Nat) (K:List Path->Option R):Option R:=
 match H with
 | []=>K []
 | [.idx j::q]=>if i=j then K [q] else none
 | _=>none
def gW:(p:Path)->(t:Ty)->Md->List Path->t.den->((t':Ty)->Md->List Path->t'.den->Option R)->Option R
 | [],t,m,H,v,K=>K t m H v
 | .fst::p,.pair a _,m,H,v,K=>if H.any (·.isEmpty) then none else gW p a m.l (H.filterMap nt) v.1 K
 | .snd::p,.pair _ b,m,H,v,K=>if H.any (·.isEmpty) then none else gW p b m.r (H.filterMap nu) v.2 K
 | .idx i::p,.U e,m,H,v,K=>o6 H i fun H'=>(v[i]?).bind fun x=>gW p e m.e H' x K
 | .iW i::p,.arr _ e,m,H,v,K=>if H.isEmpty then (v[i]?).bind fun x=>gW p e m.e [] x K else none
 | _,_,_,_,_,_=>none
def kd:(p:Path)->(t:Ty)->Md->List Path->t.den ->
    ((t':Ty)->Md->List Path->t'.den->(Md->List Path->t'.den->Option R)->Option R)->(Md->List Path->t.den->Option R)->Option R
 | [],t,m,H,v,f,K=>f t m H v K
 | .fst::p,.pair a _,m,H,v,f,K=>
  if H.any (·.isEmpty) then none else
  kd p a m.l (H.filterMap nt) v.1 f fun m' H' x=>K (.pair m' m.r) (H'.map (.fst::·)++(H.filterMap nu).map (.snd::·)) (x,v.2)
 | .snd::p,.pair _ b,m,H,v,f,K=>
  if H.any (·.isEmpty) then none else
  kd p b m.r (H.filterMap nu) v.2 f fun m' H' x=>K (.pair m.l m') ((H.filterMap nt).map (.fst::·)++H'.map (.snd::·)) (v.1,x)
 | .idx i::p,.U e,m,H,v,f,K=>
  if m.own then
   o6 H i fun H0=>(v[i]?).bind fun x=>
    kd p e m.e H0 x f fun m' H' y=>
     if m'=m.e then K (.U true m.e) (H'.map (.idx i::·)) (v.set i y)
     else if H'.isEmpty then K (.U true (ay e)) [] (v.set i y) else none
  else none
 | .iW i::p,.arr _ e,m,H,v,f,K=>
  if H.isEmpty then (v[i]?).bind fun x=>
   kd p e m.e [] x f fun _ H' y=>if H'.isEmpty then K m [] (v.set i y) else none
  else none
 | _,_,_,_,_,_,_=>none
def sd:Path->Ty->Option Ty
 | [],t=>some t
 | .fst::p,.pair a _=>sd p a
 | .snd::p,.pair _ b=>sd p b
 | .idx _::p,.U e=>sd p e
 | .iW _::p,.arr _ e=>sd p e
 | _,_=>none
def ot (σ:St) (r:Nat) (K:(t:Ty)->Md->List Path->t.den->Option R):Option R:=
 match σ.get r with
 | .own t m H v | .box t m H v=>K t m H v
 | _=>none
def St.dQ (σ:St) (r:Nat) (t:Ty) (m:Md) (H:List Path) (v:t.den):St:=
 match σ.get r with
 | .box ..=>σ.Bb r (.box t m H v)
 | _=>σ.Bb r (.own t m H v)
def St.ok (σ:St) (r:Nat) (snap:List Nat):Bool:=preB snap (σ.eH r)
def jz (σ:St) (r:Nat) (p:Path) (K:(t:Ty)->Md->List Path->t.den->Option R):Option R:=
 ot σ r fun t m H v=>gW p t m H v K
def np (σ:St) (r:Nat) (p:Path) (t:Ty) (m:Md) (v:t.den) (K:St->Option R):Option R:=
 ot σ r fun t0 m0 H0 v0=>
  kd p t0 m0 H0 v0 (fun t' _ _ _ k=>dT t t' v fun x=>k m [] x) fun m' H' v'=>
   K (((σ.dQ r t0 m' H' v').eY r (if t.flat then oq else l_ (bk p))).head r (bk p))
def lr:Ty->List Path
 | .pair a b=>(lr a).map (.fst::·)++(lr b).map (.snd::·)
 | .U _ | .ptr _ | .map _ _=>[[]]
 | .arr _ e=>if e.flat then [] else [[]]
 | _=>[]
def qc (σ:St) (r:Nat) (p:Path) (K:St->Option R):Option R:=
 ot σ r fun t0 m0 H0 v0=>
  kd p t0 m0 H0 v0 (fun t' m' _ x k=>k m' (lr t') x) fun m' H' v'=>
   K (((σ.dQ r t0 m' H' v').eY r (l_ (bk p))).head r (bk p))
def qx (σ:St) (r:Nat) (p:Path) (K:St->Option R):Option R:=
 ot σ r fun t0 m0 H0 v0=>
  kd p t0 m0 H0 v0 (fun t' m H x k=>if H.isEmpty&&fits m (ay t') then k (ay t') [] x else none) fun m' H' v'=>
   K (σ.dQ r t0 m' H' v')
def nU (σ:St) (r:Nat) (p:Path) (m1:Md) (K:St->Option R):Option R:=
 ot σ r fun t0 m0 H0 v0=>
  kd p t0 m0 H0 v0 (fun _ m H x k=>if H.isEmpty&&fits m m1 then k m1 [] x else none) fun m' H' v'=>
   K (σ.dQ r t0 m' H' v')
def nV (σ:St) (r:Nat) (p:Path):List Nat:=(σ.eH r).take (1+bk p)
def nW (σ:St) (r:Nat) (p:Path) (t:Ty):List Nat:=match t with
 | .U _ | .map _ _=>(σ.eH r).take (2+bk p)
 | _=>σ.eH r
def pA:Value->Slot
 | .int .u8 n=>if ((UInt8.ofInt n).toNat:Int)=n then .val (.int .u8) (UInt8.ofInt n) else .dead
 | .int .i64 n=>.val (.int .i64) n
 | .int .u64 n=>.val (.int .u64) n
 | .int .u32 n=>.val (.int .u32) n
 | .int .i32 n=>.val (.int .i32) n
 | .bool b=>.val .bool b
 | .string s=>.val .str s.data.toList
 | .slice none 0 0=>.oo
 | _=>.dead
def bs (σ:St):Operand->Slot
 | .tmp i=>match σ.get i with
  | .own t _ _ _=>.ref i [] (nW σ i [] t)
  | .box _ _ _ _=>.ptr i [] (nV σ i [])
  | s=>s
 | .const v=>pA v
 | .func f=>.val .fn (f,0)
 | .global _=>.dead
def gy (σ:St) (s:Slot) (mv:Bool) (t:Ty) (K:Md->t.den->St->Option R):Option R:=
 match s with
 | .val t' v=>dT t' t v fun v=>K (ay t) v σ
 | .cp t' v=>dT (.ptr t') t v fun v=>K (ay t) v σ
 | .oo=>match t with
  | .U e=>K (aq (.U e)) [] σ
  | _=>none
 | .ref r p snap=>
  if σ.ok r snap then
   jz σ r p fun t' m H v=>
    if H.isEmpty then dT t' t v fun v=>
     if m=ay t then K m v σ
     else if mv then qc σ r p fun σ=>K m v σ
     else qx σ r p fun σ=>K (ay t) v σ
    else none
  else none
 | .sub r p snap lo hi=>
  if σ.ok r snap then
   jz σ r p fun t' m H v=>
    if H.isEmpty then dT t' t v fun v=>match t,v with
     | .U e,v=>
      if m=ay (.U e) then K m ((v.take hi).drop lo) σ
      else if mv then (if lo=0 then qc σ r p fun σ=>K m ((v.take hi).drop lo) σ else none)
      else qx σ r p fun σ=>K (ay (.U e)) ((v.take hi).drop lo) σ
     | _,_=>none
    else none
  else none
 | .ptr r [] snap=>
  if σ.ok r snap then
   match σ.get r with
   | .box t' m H v=>if H.isEmpty&&!sS σ.av r then dT (.ptr t') t v fun v=>K (.ptr true m) v (σ.put r .dead) else none
   | _=>none
  else none
 | _=>none
def kx (σ:St) (s:Slot) (t:Ty) (K:t.den->Option R):Option R:=
 match s with
 | .val t' v=>dT t' t v K
 | .cp t' v=>dT (.ptr t') t v K
 | .oo=>match t with
  | .U _=>K []
  | _=>none
 | .ref r p snap=>
  if σ.ok r snap then jz σ r p fun t' _ H v=>if H.isEmpty then dT t' t v K else none
  else none
 | .sub r p snap lo hi=>
  if σ.ok r snap then
   jz σ r p fun t' _ H v=>if H.isEmpty then dT t' t v fun v=>match t,v with
    | .U _,v=>K ((v.take hi).drop lo)
    | _,_=>none
   else none
  else none
 | .ptr r p snap=>
  if σ.ok r snap then jz σ r p fun t' _ H v=>if H.isEmpty then dT (.ptr t') t v K else none
  else none
 | _=>none
def nJ (s:Slot) (K:Int->Option R):Option R:=
 match s with
 | .val (.int k) n=>K (jg k n)
 | _=>none
def xv (s:Slot) (K:Bool->Option R):Option R:=
 match s with
 | .val .bool b=>K b
 | _=>none
def laid (t:Ty) (m:Md) (v:t.den):Slot:=
 if m=ay t then .val t v else
 match t,m,v with
 | .ptr e,.ptr true m',v=>.box e m' [] v
 | t,m,v=>.own t m [] v
end
end OT
namespace OT
open Go
noncomputable section
inductive PM where
 | ro
 | i7 (m:Md)
 | gG (m:Md)
 | lD (m:Md)
 | jL (m:Md)
 | fix (f:Nat)
 deriving DecidableEq
def bz:List Ty->Ty
 | []=>.unit
 | t::ts=>.pair t (bz ts)
def eP:List (PM×Ty)->List Ty
 | []=>[]
 | (.i7 _,t)::ps=>t::eP ps
 | (.gG _,t)::ps=>t::eP ps
 | _::ps=>eP ps
structure mA where
 cap:Bool:=false
 ps:List (PM×Ty)
 rs:List (Ty×Md)
 F:(bz (ps.map (·.2))).den->Option (bz (rs.map (·.1)++eP ps)).den
structure Env where
 TI:Nat->Option Ty
 G:Nat->Option mA
 fz:List (Nat×Nat×Nat):=[]
 lv:List (Nat×List Nat):=[]
 lx:List (Nat×List Nat):=[]
 lf:List (Nat×List (Nat×Md)):=[]
 od:List (Nat×List Nat):=[]
 ar:List (Nat×List Nat):=[]
 bx:List (Nat×List Nat):=[]
 pd:List (Nat×List Nat):=[]
 er:List (Nat×List (Nat×Nat)):=[]
def Mp:List (Nat×Nat×Nat)->Nat->Nat->Nat->Bool
 | [],_,_,_=>false
 | (a,b,c)::l,i,j,k=>(Nat.beq a i&&Nat.beq b j&&Nat.beq c k)||Mp l i j k
def bm:Nat:=274877906944
section
variable {R:Type}
def jm (E:Env) (t:Nat) (K:Ty->Option R):Option R:=
 match E.TI t with
 | some t=>K t
 | none=>none
def gX:Nat->Path
 | 0=>[.fst]
 | n+1=>.snd::gX n
def mq:Nat->Ty->Option Ty
 | 0,.pair a _=>some a
 | n+1,.pair _ b=>mq n b
 | _,_=>none
def Fe:Nat->(t:Ty)->t.den->((t':Ty)->t'.den->Option R)->Option R
 | 0,.pair a _,v,K=>K a v.1
 | n+1,.pair _ b,v,K=>Fe n b v.2 K
 | _,_,_,_=>none
def Bc (σ:St) (r:Nat):Option Ty:=
 match σ.get r with
 | .own t _ _ _ | .box t _ _ _=>some t
 | _=>none
def wL (σ:St) (r:Nat) (p:Path):Option Ty:=
 match Bc σ r with
 | some t=>sd p t
 | none=>none
def xw (E:Env) (σ:St) (T:Nat) (a:Slot) (mv:Bool) (d:Option Tmp) (K:St->Option R):Option R:=
 jm E T fun T=>
 match a with
 | .cp t v=>if t=T then K (σ.aQ d (.val t v)) else none
 | .ptr r p snap=>
  if σ.ok r snap then
   jz σ r p fun t m H v=>
    if t=T then
     if t.flat then (if H.isEmpty then K (σ.aQ d (.val t v)) else none)
     else if m=ay t then (if H.isEmpty then K (σ.aQ d (.val t v)) else none)
     else match mv with
      | false=>K (σ.aQ d (.ref r p (nW σ r p t)))
      | true=>if H.isEmpty then qc σ r p fun σ=>K (σ.aQ d (laid t m v)) else none
    else none
  else none
 | _=>none
def Bd (E:Env) (σ:St) (T:Nat) (a x:Slot) (mv:Bool) (K:St->Option R):Option R:=
 jm E T fun T=>
 match a with
 | .ptr r p snap=>
  if σ.ok r snap then
   if wL σ r p=some T then gy σ x mv T fun m v σ=>np σ r p T m v K else none
  else none
 | _=>none
def sT (E:Env) (σ:St) (S:Nat) (x:Slot) (j:Nat) (d:Option Tmp) (K:St->Option R):Option R:=
 jm E S fun S=>
 match x with
 | .cp t v=>if t=S then Fe j t v fun t' v'=>K (σ.aQ d (.cp t' v')) else none
 | .ptr r p snap=>if σ.ok r snap then (if wL σ r p=some S then (if (mq j S).isSome then K (σ.aQ d (.ptr r (p++gX j) snap)) else none) else none) else none
 | _=>none
def y8 (E:Env) (σ:St) (S:Nat) (x:Slot) (j:Nat) (d:Option Tmp) (K:St->Option R):Option R:=
 jm E S fun S=>
 match x with
 | .val t v=>if t=S then Fe j t v fun t' v'=>K (σ.aQ d (.val t' v')) else none
 | .ref r p snap=>
  if σ.ok r snap then
   if wL σ r p=some S then
    jz σ r (p++gX j) fun t m H v=>
     if t.flat||(m=ay t) then (if H.isEmpty then K (σ.aQ d (.val t v)) else none)
     else K (σ.aQ d (.ref r (p++gX j) (nW σ r (p++gX j) t)))
   else none
  else none
 | _=>none
def He (n:Int) (len:Nat) (K:Nat->Option R):Option R:=
 if 0<=n/\n < (len:Int) then K n.toNat else none
def sU (E:Env) (σ:St) (T:Nat) (x ix:Slot) (d:Option Tmp) (K:St->Option R):Option R:=
 jm E T fun T=>nJ ix fun n=>
 match x with
 | .val (.U e) v=>if T=.U e then (if 0<=n then (v[n.toNat]?).bind fun y=>K (σ.aQ d (.cp e y)) else none) else none
 | .cp (.arr m e) v=>if T=.arr m e then (if 0<=n then (v[n.toNat]?).bind fun y=>K (σ.aQ d (.cp e y)) else none) else none
 | .ref r p snap=>
  if σ.ok r snap then
   jz σ r p fun t m H v=>
    if H.any (·.isEmpty) then none else
    if t=T then
     match t,v with
     | .U e,v=>
      if m.own then He n v.length fun i=>K (σ.aQ d (.ptr r (p++[.idx i]) (nV σ r (p++[.idx i]))))
      else if 0<=n then (v[n.toNat]?).bind fun y=>K (σ.aQ d (.cp e y)) else none
     | _,_=>none
    else none
  else none
 | .sub r p snap lo hi=>
  if σ.ok r snap then
   jz σ r p fun t _ H _=>if H.any (·.isEmpty) then none else if t=T then He n (hi - lo) fun i=>K (σ.aQ d (.ptr r (p++[.idx (lo+i)]) (nV σ r (p++[.idx (lo+i)])))) else none
  else none
 | .ptr r p snap=>
  if σ.ok r snap then
   jz σ r p fun t _ _ v=>
    if t=T then
     match t,v with
     | .arr _ _,v=>He n v.length fun i=>K (σ.aQ d (.ptr r (p++[.iW i]) snap))
     | _,_=>none
    else none
  else none
 | _=>none
def Be (E:Env) (σ:St) (T:Nat) (x ix:Slot) (d:Option Tmp) (K:St->Option R):Option R:=
 jm E T fun T=>nJ ix fun n=>
 match x with
 | .val .str s=>if T=.str then (if 0<=n then (s[n.toNat]?).bind fun c=>K (σ.aQ d (.val (.int .u8) c)) else none) else none
 | .val (.arr m e) v=>if T=.arr m e then (if 0<=n then (v[n.toNat]?).bind fun y=>K (σ.aQ d (.val e y)) else none) else none
 | _=>none
def ml (len:Nat) (lo hi:Option Slot) (K:Nat->Nat->Option R):Option R:=
 match lo,hi with
 | none,none=>K 0 len
 | some l,none=>nJ l fun l=>if 0<=l/\l<=(len:Int) then K l.toNat len else none
 | none,some h=>nJ h fun h=>if 0<=h/\h<=(len:Int) then K 0 h.toNat else none
 | some l,some h=>nJ l fun l=>nJ h fun h=>if 0<=l/\l<=h/\h<=(len:Int) then K l.toNat h.toNat else none
def Bf (E:Env) (σ:St) (T:Nat) (x:Slot) (lo hi:Option Slot) (d:Option Tmp) (K:St->Option R):Option R:=
 jm E T fun T=>
 match x with
 | .val .str s=>if T=.str then ml s.length lo hi fun l h=>K (σ.aQ d (.val .str ((s.take h).drop l))) else none
 | .val (.U e) v=>if T=.U e then ml v.length lo hi fun l h=>K (σ.aQ d (.val (.U e) ((v.take h).drop l))) else none
 | .ref r p snap=>
  if σ.ok r snap then
   jz σ r p fun t m H v=>
    if H.any (·.isEmpty) then none else
    if t=T then
     match t,v with
     | .U e,v=>
      if m.own then ml v.length lo hi fun l h=>K (σ.aQ d (.sub r p snap l h))
      else ml v.length lo hi fun l h=>K (σ.aQ d (.val (.U e) ((v.take h).drop l)))
     | _,_=>none
    else none
  else none
 | .sub r p snap l0 h0=>
  if σ.ok r snap then
   jz σ r p fun t _ H _=>if H.any (·.isEmpty) then none else if t=T then ml (h0 - l0) lo hi fun l h=>K (σ.aQ d (.sub r p snap (l0+l) (l0+h))) else none
  else none
 | _=>none
def Jl (E:Env) (σ:St) (t:Nat) (x:Slot) (K:Nat->Option R):Option R:=
 jm E t fun T=>
 match T with
 | .str=>match x with
  | .val .str s=>K s.length
  | _=>none
 | .U _=>match x with
  | .val (.U _) v=>K v.length
  | .oo=>K 0
  | .ref r p snap=>
   if σ.ok r snap then
    jz σ r p fun t _ H v=>if H.any (·.isEmpty) then none else match t,v with
     | .U _,v=>K v.length
     | _,_=>none
   else none
  | .sub r _ snap lo hi=>if σ.ok r snap then K (hi - lo) else none
  | _=>none
 | _=>none
def vV (σ:St) (x:Slot) (e:Ty) (mv:Bool) (K:Md->List e.den->St->Option R):Option R:=
 match x with
 | .val .str s=>dT (.U (.int .u8)) (.U e) s fun s=>K .leaf s σ
 | x=>gy σ x mv (.U e) fun m v σ=>K m.e v σ
def y9 (E:Env) (σ:St) (T:Nat) (b:Slot) (x:Operand) (mv:Bool) (d:Option Tmp) (K:St->Option R):Option R:=
 jm E T fun T=>
 match T with
 | .U e=>
  gy σ b true (.U e) fun m v σ=>
   if m.own then
    vV σ (bs σ x) e mv fun me y σ=>
     if v.length+y.length<=bm then
      K (σ.aQ d (.own (.U e) (.U true (if me=m.e then me else ay e)) [] (v++y)))
     else none
   else none
 | _=>none
def lc {α:Type} (v:List α) (lo n:Nat) (y:List α):List α:=v.take lo++y.take n++v.drop (lo+n)
def Ff (E:Env) (σ:St) (T:Nat) (b:Operand) (x:Slot) (d:Option Tmp) (K:St->Option R):Option R:=
 jm E T fun T=>
 match T with
 | .U e=>
  if e.flat then
   vV σ x e true fun _ y σ=>
    match bs σ b with
    | .sub r p snap lo hi=>
     if σ.ok r snap then
      jz σ r p fun t m H v=>
       if m.own&&H.isEmpty then dT t (.U e) v fun v=>
        np σ r p (.U e) m (lc v lo (min y.length (hi - lo)) y) fun σ'=>
         K (({ σ' with vr:=(σ.eY r oq).vr,av:=σ.av }).aQ d (.val (.int .i64) ((min y.length (hi - lo):Nat):Int)))
       else none
     else none
    | .ref r p snap=>
     if σ.ok r snap then
      jz σ r p fun t m H v=>
       if m.own&&H.isEmpty then dT t (.U e) v fun v=>
        np σ r p (.U e) m (lc v 0 (min y.length v.length) y) fun σ'=>
         K (({ σ' with vr:=(σ.eY r oq).vr,av:=σ.av }).aQ d (.val (.int .i64) ((min y.length v.length:Nat):Int)))
       else none
     else none
    | _=>none
  else none
 | _=>none
def uD:Nat->(t:Ty)->Md->t.den->(t':Ty)->Md->t'.den->(Md->t.den->Option R)->Option R
 | 0,.pair a _,m,v,t',m',x,K=>dT t' a x fun x=>K (.pair m' m.r) (x,v.2)
 | n+1,.pair _ b,m,v,t',m',x,K=>uD n b m.r v.2 t' m' x fun Q7 y=>K (.pair m.l Q7) (v.1,y)
 | _,_,_,_,_,_,_,_=>none
def uE (E:Env) (σ:St) (t:Ty) (fz:Nat->Bool):List (Nat×Operand)->Nat->Md->t.den->(Md->t.den->St->Option R)->Option R
 | [],_,m,v,K=>K m v σ
 | (j,x)::ps,n,m,v,K=>
  match mq j t with
  | some t'=>gy σ (bs σ x) (!fz n) t' fun m' y σ'=>uD j t m v t' m' y fun m v=>uE E σ' t fz ps (n+1) m v K
  | none=>none
def wM (σ:St) (e:Ty) (fz:Nat->Bool):List (Nat×Operand)->Nat->Md->List e.den->(Md->List e.den->St->Option R)->Option R
 | [],_,m,v,K=>K m v σ
 | (j,x)::ps,n,m,v,K=>
  if Nat.beq j n then
   gy σ (bs σ x) (!fz n) e fun m' y σ'=>wM σ' e fz ps (n+1) (if m'=m then m else ay e) (v++[y]) K
  else none
def Bg (σ:St) (e:Ty) (fz:Nat->Bool):List (Nat×Operand)->Nat->List e.den->(List e.den->St->Option R)->Option R
 | [],_,v,K=>K v σ
 | (j,x)::ps,n,v,K=>
  gy σ (bs σ x) (!fz n) e fun _ y σ'=>if j < v.length then Bg σ' e fz ps (n+1) (v.set j y) K else none
def Bh (op:BinOp) (k:IntKind) (a b:Int) (K:(t:Ty)->t.den->Option R):Option R:=
 match op with
 | .add=>K (.int k) (uj k (a+b))
 | .sub=>K (.int k) (uj k (a - b))
 | .mul=>K (.int k) (uj k (a*b))
 | .quo=>if b=0 then none else K (.int k) (uj k (a.tdiv b))
 | .rem=>if b=0 then none else K (.int k) (Kx k (a.tmod b))
 | .and=>K (.int k) (uj k ((BitVec.ofInt k.bits a &&& BitVec.ofInt k.bits b).toNat:Int))
 | .or=>K (.int k) (uj k ((BitVec.ofInt k.bits a ||| BitVec.ofInt k.bits b).toNat:Int))
 | .xor=>K (.int k) (uj k ((BitVec.ofInt k.bits a ^^^ BitVec.ofInt k.bits b).toNat:Int))
 | .shl=>if b < 0 then none else K (.int k) (uj k (a*2 ^ (min b.toNat k.bits)))
 | .shr=>if b < 0 then none else K (.int k) (Kx k (a.fdiv (2 ^ (min b.toNat k.bits))))
 | .eql=>K .bool (decide (a=b))
 | .neq=>K .bool (!decide (a=b))
 | .lss=>K .bool (decide (a < b))
 | .leq=>K .bool (decide (a<=b))
 | .gtr=>K .bool (decide (b < a))
 | .geq=>K .bool (decide (b<=a))
 | _=>none
def Jm (op:BinOp) (a b:List UInt8) (K:(t:Ty)->t.den->Option R):Option R:=
 match op with
 | .add=>if a.length+b.length<=bm then K .str (a++b) else none
 | .eql=>K .bool (decide (a=b))
 | .neq=>K .bool (!decide (a=b))
 | _=>none
def both (a b:Option R):Option R:=open Classical in if a=b then a else none
def uF {α:Type} (v:List α) (a b:Option R):Option R:=match v with
 | []=>both a b
 | _::_=>b
def Mq {α:Type} (op:BinOp) (v:List α) (K:(t:Ty)->t.den->Option R):Option R:=match op with
 | .eql=>uF v (K .bool true) (K .bool false)
 | .neq=>uF v (K .bool false) (K .bool true)
 | _=>none
def Bi (E:Env) (tid:Nat) (op:BinOp) (x y:Slot) (K:(t:Ty)->t.den->Option R):Option R:=
 match x,y with
 | .val (.int k) a,.val (.int k') b=>
  match op with
  | .shl | .shr=>Bh op k (jg k a) (jg k' b) K
  | _=>if k=k' then Bh op k (jg k a) (jg k' b) K else none
 | .val .str a,.val .str b=>Jm op a b K
 | .val t a,.val t' b=>
  match op with
  | .eql=>if t.gV then jm E tid fun T=>if T=t then dT t' t b fun b=>K .bool (t.eq a b) else none else none
  | .neq=>if t.gV then jm E tid fun T=>if T=t then dT t' t b fun b=>K .bool (!t.eq a b) else none else none
  | _=>none
 | .val (.U e) v,.oo=>jm E tid fun T=>if T=.U e then Mq op v K else none
 | _,_=>none
def sV (E:Env) (σ:St) (S T:Nat) (x:Slot) (d:Option Tmp) (K:St->Option R):Option R:=
 jm E S fun S=>jm E T fun T=>
 match T with
 | .int k=>match x with
  | .val (.int k') n=>if S=.int k' then K (σ.aQ d (.val (.int k) (uj k (jg k' n)))) else none
  | _=>none
 | .str=>match S with
  | .str=>match x with
   | .val .str s=>K (σ.aQ d (.val .str s))
   | _=>none
  | .U (.int .u8)=>kx σ x (.U (.int .u8)) fun v=>K (σ.aQ d (.val .str v))
  | _=>none
 | .U (.int .u8)=>match x with
  | .val .str s=>if S=.str then (if s.length<=bm then K (σ.aQ d (.own (.U (.int .u8)) (aq (.U (.int .u8))) [] s)) else none) else none
  | _=>none
 | _=>none
def Bj (σ:St) (s:Slot) (t:Ty) (K:t.den->Option R):Option R:=
 match s with
 | .val t' v=>dT t' t v K
 | .cp t' v=>dT (.ptr t') t v K
 | .oo=>match t with
  | .U _=>K []
  | _=>none
 | .ref r p snap=>
  if σ.ok r snap then jz σ r p fun t' m H v=>if H.isEmpty&&(t'.flat||decide (m=ay t')) then dT t' t v K else none
  else none
 | .sub r p snap lo hi=>
  if σ.ok r snap then
   jz σ r p fun t' m H v=>if H.isEmpty&&decide (m=ay t') then dT t' t v fun v=>match t,v with
    | .U _,v=>K ((v.take hi).drop lo)
    | _,_=>none
   else none
  else none
 | _=>none
def qE (σ:St) (ow:Bool) (pm:PM) (t:Ty) (s:Slot) (K:t.den->Option (Nat×Path)->Option R):Option R:=
 match pm with
 | .ro=>match ow with
  | true=>kx σ s t fun v=>K v none
  | false=>Bj σ s t fun v=>K v none
 | .fix f=>match s with
  | .val .fn v=>if Nat.beq v.1 f then dT .fn t v fun v=>K v none else none
  | _=>none
 | .i7 m=>match s with
  | .ptr r p snap=>
   if σ.ok r snap then jz σ r p fun t' m' H v=>if H.isEmpty&&decide (m'=m) then dT t' t v fun v=>K v (some (r,p)) else none
   else none
  | _=>none
 | .lD m=>match s with
  | .ptr r p snap=>
   if σ.ok r snap then jz σ r p fun t' m' H v=>if H.isEmpty&&decide (m'=m) then dT t' t v fun v=>K v (some (r,p)) else none
   else none
  | _=>none
 | .gG m | .jL m=>match s with
  | .ref r p snap=>
   if σ.ok r snap then jz σ r p fun t' m' H v=>if H.isEmpty&&decide (m'=m) then dT t' t v fun v=>K v (some (r,p)) else none
   else none
  | _=>none
def f_:Slot->List Nat
 | .ref r _ _ | .sub r _ _ _ _ | .ptr r _ _=>[r]
 | _=>[]
def AP (σ:St) (ow:Bool):(ps:List (PM×Ty))->List Slot->((bz (ps.map (·.2))).den->List (Nat×Path)->Option R)->Option R
 | [],[],K=>K () []
 | (pm,t)::ps,s::ss,K=>qE σ ow pm t s fun v w=>AP σ ow ps ss fun vs ws=>K (v,vs) (match w with | some x=>x::ws | none=>ws)
 | _,_,_=>none
def kI (σ:St):List (PM×Ty)->List Operand->(St->Option R)->Option R
 | (.i7 m,_)::ps,x::xs,K=>match bs σ x with
  | .ptr r p snap=>if σ.ok r snap then jz σ r p fun _ m' _ _=>if m'=m then kI σ ps xs K else nU σ r p m fun σ=>kI σ ps xs K else none
  | _=>none
 | (.lD m,_)::ps,x::xs,K=>match bs σ x with
  | .ptr r p snap=>if σ.ok r snap then jz σ r p fun _ m' _ _=>if m'=m then kI σ ps xs K else nU σ r p m fun σ=>kI σ ps xs K else none
  | _=>none
 | (.gG m,_)::ps,x::xs,K=>match bs σ x with
  | .ref r p snap=>if σ.ok r snap then jz σ r p fun _ m' _ _=>if m'=m then kI σ ps xs K else nU σ r p m fun σ=>kI σ ps xs K else none
  | _=>none
 | (.jL m,_)::ps,x::xs,K=>match bs σ x with
  | .ref r p snap=>if σ.ok r snap then jz σ r p fun _ m' _ _=>if m'=m then kI σ ps xs K else nU σ r p m fun σ=>kI σ ps xs K else none
  | _=>none
 | _::ps,_::xs,K=>kI σ ps xs K
 | _,_,K=>K σ
def Mr (x:Operand) (r:Nat) (t:Ty) (v:t.den) (σ:St):St:=match x with
 | .tmp i=>match Nat.beq i r||!Nat.blt i σ.n with
  | true=>σ
  | false=>(σ.put i .dead).put i (.cp t v)
 | _=>σ
def qF (σ:St):List (PM×Ty)->List Operand->(St->Option R)->Option R
 | (.ro,t)::ps,x::xs,K=>
  if t.flat then qF σ ps xs K else
  match bs σ x with
  | .ref r p snap=>if σ.ok r snap then qx σ r p fun σ=>qF σ ps xs K else none
  | .sub r p snap _ _=>if σ.ok r snap then qx σ r p fun σ=>qF σ ps xs K else none
  | .ptr r p snap=>if σ.ok r snap then
    match p,σ.get r with
    | [],.box t m H v=>if H.isEmpty&&fits m (ay t) then qF (Mr x r t v ((σ.put r .dead).put r (.cp t v))) ps xs K else none
    | _,_=>none
   else none
  | _=>qF σ ps xs K
 | _::ps,_::xs,K=>qF σ ps xs K
 | _,_,K=>K σ
def apart:List Nat->List (Nat×Path)->Bool
 | _,[]=>true
 | all,(r,_)::ws=>Nat.ble (all.count r) 1&&apart all ws
def lM (σ:St):(ps:List (PM×Ty))->List (Nat×Path)->(bz (eP ps)).den->(St->Option R)->Option R
 | [],[],_,K=>K σ
 | (.ro,_)::ps,ws,v,K=>lM σ ps ws v K
 | (.fix _,_)::ps,ws,v,K=>lM σ ps ws v K
 | (.i7 m,t)::ps,(r,p)::ws,v,K=>np σ r p t m v.1 fun σ=>lM σ ps ws v.2 K
 | (.lD m,t)::ps,(r,p)::ws,v,K=>match np σ r p t m t.zero (fun _=>some ()) with
  | some _=>lM (σ.put r .dead) ps ws v K
  | none=>none
 | (.jL _,_)::ps,(r,p)::ws,v,K=>qc σ r p fun σ=>lM σ ps ws v K
 | (.gG m,t)::ps,(r,p)::ws,v,K=>np σ r p t m v.1 fun σ'=>lM { σ' with vr:=(σ.eY r (l_ (bk p+1))).vr,av:=σ.av } ps ws v.2 K
 | _,_,_,_=>none
def fU:(rs:List (Ty×Md))->{ts:List Ty}->(bz (rs.map (·.1)++ts)).den->List xt×(bz ts).den
 | [],_,v=>([],v)
 | (t,m)::rs,_,v=>(⟨t,m,v.1⟩::(fU rs v.2).1,(fU rs v.2).2)
def o7:List xt->Slot
 | []=>.dead
 | [x]=>laid x.t x.m x.v
 | xs=>.kC xs
def qG:List (Ty×Md)->Bool
 | []=>true
 | (t,m)::rs=>(t.flat||decide (m=aq t))&&t.k9&&qG rs
def jA:List (PM×Ty)->Bool
 | []=>true
 | (.i7 m,t)::ps=>(t.flat||decide (m=aq t))&&t.k9&&jA ps
 | (.gG m,t)::ps=>(t.flat||decide (m=aq t))&&t.k9&&jA ps
 | (.lD m,t)::ps=>(t.flat||decide (m=aq t))&&t.k9&&jA ps
 | (.jL m,t)::ps=>(t.flat||decide (m=aq t))&&t.k9&&jA ps
 | _::ps=>jA ps
def xx (g:mA) (ow:Bool) (σ:St) (xs:List Operand) (ex:List Slot) (d:Option Tmp) (K:St->Option R):Option R:=
 kI σ g.ps xs fun σ=>
  AP σ ow g.ps (xs.map (bs σ)++ex) fun v ws=>
   if Nat.ble ws.length 1&&apart ((xs.map (bs σ)++ex).flatMap f_) ws then
    (g.F v).bind fun out=>
     lM σ g.ps ws (fU g.rs out).2 fun σ=>K (σ.aQ d (o7 (fU g.rs out).1))
   else none
def sW (g:mA) (σ:St) (xs:List Operand) (ex:List Slot) (d:Option Tmp) (K:St->Option R):Option R:=
 match qG g.rs&&jA g.ps with
 | true=>xx g true σ xs ex d K
 | false=>qF σ g.ps xs fun σ=>xx g false σ xs ex d K
def y_ (E:Env) (σ:St) (T:Nat) (x:Operand) (mv:Bool) (d:Option Tmp) (K:St->Option R):Option R:=
 match bs σ x with
 | .dead=>K (σ.aQ d .dead)
 | .oo=>jm E T fun T=>match T with
  | .U e=>K (σ.aQ d (.own (.U e) (aq (.U e)) [] []))
  | _=>none
 | .kC []=>K (σ.aQ d (.kC []))
 | .kC _=>none
 | .ref r p snap=>
  if σ.ok r snap then
   match wL σ r p with
   | some t=>gy σ (.ref r p snap) mv t fun m v σ=>K (σ.aQ d (laid t m v))
   | none=>none
  else none
 | .sub r p snap lo hi=>
  if σ.ok r snap then
   match wL σ r p with
   | some t=>gy σ (.sub r p snap lo hi) mv t fun m v σ=>K (σ.aQ d (laid t m v))
   | none=>none
  else none
 | .ptr r p snap=>
  match p,σ.get r with
  | [],.box t m H v=>if σ.ok r snap&&mv&&!sS σ.av r then (match d with | some i=>K ((σ.put r .dead).put i (.box t m H v)) | none=>none) else K (σ.aQ d (.ptr r [] snap))
  | p,_=>K (σ.aQ d (.ptr r p snap))
 | s=>K (σ.aQ d s)
def Fg (σ:St) (x:Operand) (d:Option Tmp) (K:St->Option R):Option R:=
 match bs σ x,x with
 | .kC xs,.tmp i=>K ((σ.put i .dead).aQ d (.kC xs))
 | .kC _,_=>none
 | s,_=>K (σ.aQ d s)
def Bk (σ:St) (x:Operand) (d:Option Tmp) (σ':St):St:=
 match x,d with
 | .tmp i,some d=>match σ.get i with
  | .own _ _ _ _=>match xu σ.av i with
   | some n=>{ σ' with av:=(d,n,true)::σ'.av }
   | none=>σ'
  | _=>σ'
 | _,_=>σ'
def Bl:Slot->Option (Nat×Int)
 | .val .fn f=>some f
 | _=>none
def dq {α:Type} (k:Ty) (m:List (k.den×α)) (x:k.den):Option α:=(m.find? fun e=>k.eq x e.1).map (·.2)
def gH {α:Type} (k:Ty) (m:List (k.den×α)) (x:k.den) (y:α):List (k.den×α):=match m.findIdx? (fun e=>k.eq x e.1) with
 | some i=>m.set i (x,y)
 | none=>m++[(x,y)]
def qH {α:Type} (o:Option α) (z:α):α:=match o with
 | some x=>x
 | none=>z
def za (E:Env) (σ:St) (T:Nat) (x ix:Slot) (ok:Bool) (d:Option Tmp) (K:St->Option R):Option R:=
 jm E T fun T=>
 match T with
 | .map k v=>
  if v.nT then
   match x with
   | .ref r p snap=>
    if σ.ok r snap then
     jz σ r p fun t _ H y=>
      if H.isEmpty then dT t (.map k v) y fun y=>
       match ix with
       | .val t2 i=>dT t2 k i fun i=>
        match ok with
        | true=>K (σ.aQ d (.kC [⟨v,ay v,qH (dq k y i) v.zero⟩,⟨.bool,.leaf,(dq k y i).isSome⟩]))
        | false=>K (σ.aQ d (.val v (qH (dq k y i) v.zero)))
       | _=>none
      else none
    else none
   | _=>none
  else none
 | _=>none
def zb (E:Env) (σ:St) (T:Nat) (x ix y:Slot) (K:St->Option R):Option R:=
 jm E T fun T=>
 match T with
 | .map k v=>
  match x with
  | .ref r p snap=>
   if σ.ok r snap then
    jz σ r p fun t m H z=>
     if m.own&&H.isEmpty then dT t (.map k v) z fun z=>
      match ix,y with
      | .val t2 i,.val t3 w=>dT t2 k i fun i=>dT t3 v w fun w=>
       np σ r p (.map k v) m (gH k z i w) fun σ'=>K { σ' with vr:=(σ.eY r oq).vr,av:=σ.av }
      | _,_=>none
     else none
   else none
  | _=>none
 | _=>none
def Hf:Option Ty->Bool
 | some (.map _ _)=>true
 | _=>false
def zd (E:Env) (σ:St) (T:Nat) (x:Slot) (K:Nat->Option R):Option R:=
 jm E T fun T=>
 match T with
 | .map k v=>
  match x with
  | .ref r p snap=>
   if σ.ok r snap then
    jz σ r p fun t _ H y=>if H.isEmpty then dT t (.map k v) y fun y=>K (List.length y) else none
   else none
  | _=>none
 | _=>none
def ky (E:Env) (cB i:Nat) (o:Oper) (σ:St) (K:St->Option R):Option R:=
 let fz:=Mp E.fz cB i
 let d:=o.dst
 match o.op with
 | .move x=>Fg σ x d K
 | .assign x=>y_ E σ o.type x (!fz 0) d K
 | .pick c a b=>xv (bs σ c) fun c=>match bs σ (bif c then a else b) with
  | .val .bool x=>K (σ.aQ d (.val .bool x))
  | _=>none
 | .alloc t=>jm E t fun t=>if t.nT then K (σ.aQ d (.box t (aq t) [] t.zero)) else none
 | .box t x=>jm E t fun t=>gy σ (bs σ x) (!fz 0) t fun m v σ'=>K (Bk σ x d (σ'.aQ d (.box t m [] v)))
 | .build t ps=>jm E t fun t=>match t with
  | .arr n e=>if e.nT then Bg σ e fz ps.toList 0 (Ty.arr n e).zero fun v σ=>K (σ.aQ d (laid (.arr n e) (aq (.arr n e)) v)) else none
  | .pair t1 t2=>if (Ty.pair t1 t2).nT then uE E σ (.pair t1 t2) fz ps.toList 0 (aq (.pair t1 t2)) (Ty.pair t1 t2).zero fun m v σ=>K (σ.aQ d (laid (.pair t1 t2) m v)) else none
  | _=>none
 | .buildSlice t n ps=>jm E t fun t=>match t with
  | .U e=>if Nat.beq n ps.size&&e.nT&&Nat.ble (n*e.sz) 16777216 then wM σ e fz ps.toList 0 (aq e) [] fun m v σ=>K (σ.aQ d (.own (.U e) (.U true m) [] v)) else none
  | _=>none
 | .load t a=>xw E σ t (bs σ a) (fz 7) d K
 | .store t a x=>match d with
  | none=>Bd E σ t (bs σ a) (bs σ x) (!fz 1) K
  | some _=>none
 | .nilCheck x=>match bs σ x with
  | .ptr r p snap=>if σ.ok r snap then K (σ.aQ d (.ptr r p snap)) else none
  | .cp t v=>K (σ.aQ d (.cp t v))
  | .val .fn f=>K (σ.aQ d (.val .fn f))
  | _=>none
 | .binOp op t x y _=>Bi E t op (bs σ x) (bs σ y) fun t v=>K (σ.aQ d (.val t v))
 | .unOp op _ x=>match op,bs σ x with
  | .not,.val .bool b=>K (σ.aQ d (.val .bool (!b)))
  | .neg,.val (.int k) n=>K (σ.aQ d (.val (.int k) (uj k (0 - jg k n))))
  | _,_=>none
 | .convert s t x=>sV E σ s t (bs σ x) d K
 | .fieldAddr t x j=>sT E σ t (bs σ x) j d K
 | .field t x j=>y8 E σ t (bs σ x) j d K
 | .indexAddr t x ix=>sU E σ t (bs σ x) (bs σ ix) d K
 | .index t x ix=>Be E σ t (bs σ x) (bs σ ix) d K
 | .slice t x lo hi none=>Bf E σ t (bs σ x) (lo.map (bs σ)) (hi.map (bs σ)) d K
 | .makeSlice t n c=>jm E t fun t=>match t with
  | .U e=>nJ (bs σ n) fun n=>nJ (bs σ c) fun c=>
   if e.nT then (if 0<=n/\n<=c/\c<=(bm:Int) then K (σ.aQ d (.own (.U e) (aq (.U e)) [] (List.replicate n.toNat e.zero))) else none) else none
  | _=>none
 | .extract x j=>match x with
  | .tmp i=>match σ.get i with
   | .kC xs=>match xs[j]? with
    | some x=>if x.t=.unit then none else K ((σ.put i (.kC (xs.set j ⟨.unit,.leaf,()⟩))).aQ d (laid x.t x.m x.v))
    | none=>none
   | _=>none
  | _=>none
 | .makeFunc (.func f) first cs=>
  if first.size=0 then
   match cs.toList with
   | []=>K (σ.aQ d (.val .fn (f,0)))
   | [.tmp i]=>match σ.get i with
    | .box (.int .i64) _ _ n=>K (((σ.put i .dead).put i (.cp (.int .i64) n)).aQ d (.val .fn (f,n)))
    | _=>none
   | _=>none
  else none
 | .makeMap t none=>jm E t fun t=>match t with
  | .map k v=>if k.flat&&v.flat then K (σ.aQ d (.own (.map k v) (aq (.map k v)) [] [])) else none
  | _=>none
 | .lookup t x ix ok=>za E σ t (bs σ x) (bs σ ix) ok d K
 | .mapUpdate t x ix y=>match d with
  | none=>zb E σ t (bs σ x) (bs σ ix) (bs σ y) K
  | some _=>none
 | .call c=>match c.callee with
  | .builtin .len=>match c.args.toList,c.argTypes.toList with
   | [x],[t]=>match Hf (E.TI t) with
    | false=>Jl E σ t (bs σ x) fun n=>K (σ.aQ d (.val (.int .i64) (n:Int)))
    | true=>zd E σ t (bs σ x) fun n=>K (σ.aQ d (.val (.int .i64) (n:Int)))
   | _,_=>none
  | .builtin .append=>match c.args.toList,c.argTypes.toList with
   | [b,x],t::_=>y9 E σ t (bs σ b) x (!fz 1) d K
   | _,_=>none
  | .builtin .copy=>match c.args.toList,c.argTypes.toList with
   | [b,x],t::_=>Ff E σ t b (bs σ x) d K
   | _,_=>none
  | .value (.func f)=>match E.G f with
   | some g=>match g.cap with
    | false=>sW g σ c.args.toList [] d K
    | true=>none
   | none=>none
  | .value (.tmp i)=>match Bl (σ.get i) with
   | some (f,n)=>match E.G f with
    | some g=>match g.cap with
     | true=>sW g σ c.args.toList [.cp (.int .i64) n] d K
     | false=>sW g σ c.args.toList [] d K
    | none=>none
   | none=>none
  | _=>none
 | _=>none
def hJ (l:List (Nat×List Nat)) (i:Nat):List Nat:=match f5 l i with | some x=>x | none=>[]
def uG (ops:List Oper) (σ:St) (g:Option (Nat×Bool)) (K:Bool->St->Option R):Option R:=
 match g with
 | none=>K true σ
 | some (j,want)=>match (ops[j]?).bind (·.dst) with
  | none=>none
  | some t=>match σ.get t with
   | .val .bool b=>match b with
    | true=>K (want == true) (σ.Bb t (.val .bool true))
    | false=>K (want == false) (σ.Bb t (.val .bool false))
   | .kC []=>K false σ
   | _=>none
def ze (E:Env) (cB:Nat) (ops:List Oper):List Oper->Nat->St->(St->Option R)->Option R
 | [],_,σ,K=>K σ
 | o::rest,i,σ,K=>uG ops σ o.guard fun b σ=>
  match b with
  | true=>ky E cB i o σ fun σ=>ze E cB ops rest (i+1) σ K
  | false=>ze E cB ops rest (i+1) (σ.aQ o.dst (.kC [])) K
def Bm (σ:St) (o:Oper):Bool:=match o.op with
 | .load _ x=>match bs σ x with
  | .cp _ _=>true
  | _=>false
 | .convert _ _ x=>match bs σ x with
  | .val (.int _) _=>true
  | .val .str _=>true
  | .val (.U (.int .u8)) _=>true
  | _=>false
 | _=>false
def Bn (E:Env) (cB i:Nat):Bool:=(hJ E.ar cB).any (Nat.beq i)
def vW:Op->Bool
 | .store .. | .mapUpdate .. | .call ..=>true
 | _=>false
def pj:Path->Path->Bool
 | [],[]=>true
 | .fst::p,.fst::q=>pj p q
 | .snd::p,.snd::q=>pj p q
 | .idx i::p,.idx j::q=>Nat.beq i j&&pj p q
 | .iW i::p,.iW j::q=>Nat.beq i j&&pj p q
 | _,_=>false
def Jn (σ:St) (o:Oper):Bool:=match o.op,o.dst with
 | .load _ (.tmp i),some d=>match σ.get i with
  | .ptr r p s=>match σ.get d with
   | .ref r' p' s'=>Nat.beq r r'&&(σ.ok r s&&σ.ok r s')&&pj p p'
   | _=>false
  | _=>false
 | _,_=>false
def xy (l:List (Nat×List (Nat×Nat))) (i:Nat):List (Nat×Nat):=match f5 l i with | some x=>x | none=>[]
def Fh (E:Env) (cB i:Nat):Bool:=(xy E.er cB).any fun e=>Nat.beq i e.1
def Fl (E:Env) (cB:Nat) (ops:List Oper) (is:List Nat) (σ:St):Bool:=(xy E.er cB).all fun e=>is.any (Nat.beq e.1)||!(is.any (Nat.beq e.2)||Nat.ble ops.length e.2)||(match ops[e.1]? with
 | some o=>Jn σ o
 | none=>false)
def xz (E:Env) (cB:Nat) (ops:List Oper) (i:Nat) (o:Oper) (is:List Nat) (σ:St):Bool:=!(vW o.op||Fh E cB i)||Fl E cB ops is σ
def Eo (σ:St):List Nat->(St->Option R)->Option R
 | [],K=>K σ
 | i::is,K=>match σ.get i with
  | .box t m H v=>if H.isEmpty&&fits m (ay t) then Eo ((σ.put i .dead).put i (.cp t v)) is K else none
  | _=>none
def zf (σ:St) (d:Nat):Bool:=Nat.blt d σ.n&&(match σ.get d with
 | .dead=>true
 | _=>false)&&!sS σ.av d&&!σ.gh.any fun e=>Nat.beq e.1 d
def Fm (E:Env) (cB:Nat) (ops:List Oper) (is:List Nat) (σ:St):Bool:=(hJ E.pd cB).all fun j=>!is.any (Nat.beq j)||(match (ops[j]?).bind (·.dst) with
 | some d=>zf σ d
 | none=>false)
def Hg (ops:List Oper) (σ:St):List Nat->(St->Option R)->Option R
 | [],K=>K σ
 | j::js,K=>match (ops[j]?).bind (·.dst) with
  | some d=>Hg ops (σ.put d .dead) js K
  | none=>none
def uH (E:Env) (cB:Nat) (ops:List Oper):List Nat->St->(St->Option R)->Option R
 | [],σ,K=>K σ
 | i::is,σ,K=>
  match Fm E cB ops (i::is) σ with
  | false=>none
  | true=>
  match ops[i]? with
  | none=>none
  | some o=>uG ops σ o.guard fun b σ=>
   match b with
   | true=>match Bn E cB i&&!Bm σ o with
    | true=>none
    | false=>ky E cB i o σ fun σ=>match xz E cB ops i o is σ with
     | true=>uH E cB ops is σ K
     | false=>none
   | false=>uH E cB ops is (σ.aQ o.dst (.kC [])) K
def ld:Code->Nat
 | .region id _ _=>id
 | .seq a _=>ld a
 | .block _ b=>ld b
 | .loop b=>ld b
 | .scope b=>ld b
 | _=>0
def uI (live:List Nat) (fr:List (Nat×Md)) (r:Nat):Bool:=live.any (Nat.beq r)&&(match f5 fr r with
 | none=>true
 | some _=>false)
def dy (live:List Nat) (fr:List (Nat×Md)) (σ:St) (i:Nat):Slot:=
 match σ.get i with
 | .ptr r p snap=>if σ.ok r snap&&uI live fr r then .ptr r p (snap.map fun _=>0) else .dead
 | .ref r p snap=>if σ.ok r snap&&uI live fr r then .ref r p (snap.map fun _=>0) else .dead
 | .sub r p snap lo hi=>if σ.ok r snap&&uI live fr r then .sub r p (snap.map fun _=>0) lo hi else .dead
 | s=>s
def pM (live:List Nat) (σ:St):St:={ n:=σ.n,sl:=live.map fun i=>(i,dy live [] σ i),vr:=[],av:=σ.av }
def qI (fr:List (Nat×Md)) (i:Nat) (s:Slot):Slot:=
 match f5 fr i with
 | none=>s
 | some m1=>
  match s with
  | .own t m H v=>if H.isEmpty&&fits m m1 then (if m1=ay t then .val t v else .own t m1 [] v) else .dead
  | .box t m H v=>if H.isEmpty&&fits m m1 then .box t m1 [] v else .dead
  | s=>s
def bY (live:List Nat) (fr:List (Nat×Md)) (σ:St):St:={ n:=σ.n,sl:=live.map fun i=>(i,qI fr i (dy live fr σ i)),vr:=[],av:=σ.av }
def Fo (l:List (Nat×List (Nat×Md))) (i:Nat):List (Nat×Md):=match f5 l i with | some x=>x | none=>[]
inductive Ex where
 | normal
 | exit (id:Nat)
def c9 (rec:St->Option R) (kp:St->St) (K:Ex->St->Option R):Ex->St->Option R
 | .normal,σ=>rec (kp σ)
 | .exit j,σ=>K (.exit j) σ
def an (B:St->(Ex->St->Option R)->Option R) (K:Ex->St->Option R):Ex->St->Option R
 | .normal,σ=>B σ K
 | .exit j,σ=>K (.exit j) σ
def af (id:Nat) (K:Ex->St->Option R):Ex->St->Option R
 | .normal,σ=>K .normal σ
 | .exit j,σ=>if Nat.beq j id then K .normal σ else K (.exit j) σ
def sX (F:St->(Ex->St->Option R)->Option R) (kp:St->St) (K:Ex->St->Option R):Nat->St->Option R
 | 0,_=>none
 | k+1,σ=>F σ (c9 (sX F kp K k) kp K)
def mr (E:Env) (k:Nat) (fin:St->Option R):Code->St->(Ex->St->Option R)->Option R
 | .skip,σ,K=>K .normal σ
 | .region id ops d,σ,K=>match d with
  | false=>ze E id ops.toList ops.toList 0 σ fun σ=>Eo σ (hJ E.bx id) fun σ=>K .normal σ
  | true=>Eo σ (hJ E.bx id) fun σ=>Hg ops.toList σ (hJ E.pd id) fun σ=>uH E id ops.toList (hJ E.od id) σ fun σ=>K .normal σ
 | .seq a b,σ,K=>mr E k fin a σ (an (mr E k fin b) K)
 | .cond c a b,σ,K=>xv (bs σ c) fun c=>match c with
  | true=>mr E k fin a σ K
  | false=>mr E k fin b σ K
 | .block id b,σ,K=>mr E k fin b σ (af id K)
 | .loop b,σ,K=>sX (mr E k fin b) (bY (hJ E.lv (ld b)) (Fo E.lf (ld b))) K k (bY (hJ E.lv (ld b)) (Fo E.lf (ld b)) σ)
 | .scope b,σ,K=>mr E k fin b σ K
 | .exit id,σ,K=>K (.exit id) (pM (hJ E.lx id) σ)
 | .ret,σ,_=>fin σ
 | _,_,_=>none
end
def sub:List Nat->Code->Code
 | [],c=>c
 | i::p,.seq a b=>match i with
  | 0=>sub p a
  | _=>sub p b
 | i::p,.cond _ a b=>match i with
  | 0=>sub p a
  | _=>sub p b
 | _::p,.block _ b=>sub p b
 | _::p,.loop b=>sub p b
 | _::p,.scope b=>sub p b
 | _,c=>c
def al {V R:Type} (B:(V->Option R)->V->Option R):Nat->V->Option R
 | 0,_=>none
 | k+1,v=>B (al B k) v
theorem am {V R:Type} (F:St->(Ex->St->Option R)->Option R) (kp:St->St) (K:Ex->St->Option R) (σ:V->St) (B:(V->Option R)->V->Option R)
  (h:∀ (rec:St->Option R) (v:V),F (σ v) (c9 rec kp K)=B (fun v'=>rec (σ v')) v):∀ (n:Nat) (v:V),sX F kp K n (σ v)=al B n v:=by
 intro n
 induction n with
 | zero=>intro v;rfl
 | succ n ih=>
  intro v
  show F (σ v) (c9 (sX F kp K n) kp K)=B (al B n) v
  rw[h]
  have e:(fun v'=>sX F kp K n (σ v'))=al B n:=funext ih
  rw[e]
end
end OT
namespace OT
open Go
noncomputable section
def cP:(ps:List (PM×Ty))->(bz (ps.map (·.2))).den->List Slot
 | [],_=>[]
 | (.ro,.ptr e)::ps,v=>.cp e v.1::cP ps v.2
 | (.fix f,.fn)::ps,v=>.val .fn (f,v.1.2)::cP ps v.2
 | (.fix _,_)::ps,v=>.dead::cP ps v.2
 | (.ro,t)::ps,v=>.val t v.1::cP ps v.2
 | (.i7 m,t)::ps,v=>.box t m [] v.1::cP ps v.2
 | (.gG m,t)::ps,v=>.own t m [] v.1::cP ps v.2
 | (.jL m,t)::ps,v=>.own t m [] v.1::cP ps v.2
 | (.lD m,t)::ps,v=>.box t m [] v.1::cP ps v.2
def qJ:Nat->List Slot->List (Nat×Slot)
 | _,[]=>[]
 | i,s::ss=>(i,s)::qJ (i+1) ss
def mB:Nat->List (PM×Ty)->List (Nat×Nat×Bool)
 | _,[]=>[]
 | i,(.i7 _,_)::ps=>(i,i,false)::mB (i+1) ps
 | i,(.gG _,_)::ps=>(i,i,true)::mB (i+1) ps
 | i,(.lD _,_)::ps=>(i,i,false)::mB (i+1) ps
 | i,_::ps=>mB (i+1) ps
def sv (ps:List (PM×Ty)) (v:(bz (ps.map (·.2))).den) (n:Nat):St:={ n:=n,sl:=qJ 0 (cP ps v),vr:=[],av:=mB 0 ps }
section
variable {R:Type}
def ou (σ:St):Nat->(ps:List (PM×Ty))->List Nat->((bz (eP ps)).den->Option R)->Option R
 | _,[],_,K=>K ()
 | j,(.ro,_)::ps,es,K=>ou σ (j+1) ps es K
 | j,(.fix _,_)::ps,es,K=>ou σ (j+1) ps es K
 | j,(.lD _,_)::ps,es,K=>ou σ (j+1) ps es K
 | j,(.jL _,_)::ps,es,K=>ou σ (j+1) ps es K
 | j,(.i7 m,t)::ps,i::es,K=>match σ.get i with
  | .box t' m' H v=>if H.isEmpty&&(decide (m'=m)||fits m' m)&&su σ.av i j false then dT t' t v fun v=>ou σ (j+1) ps es fun vs=>K (v,vs) else none
  | _=>none
 | j,(.gG m,t)::ps,i::es,K=>match σ.get i with
  | .own t' m' H v | .box t' m' H v=>if H.isEmpty&&(decide (m'=m)||fits m' m)&&su σ.av i j true then dT t' t v fun v=>ou σ (j+1) ps es fun vs=>K (v,vs) else none
  | _=>none
 | _,_,_,_=>none
def xA (σ:St):ResultVar->Slot
 | .tmp i=>bs σ (.tmp i)
 | .cell a _=>match σ.get a with
  | .box _ _ _ _=>.ref a [] (σ.eH a)
  | _=>.dead
def Fq (σ:St) (ts:List Ty) (mv:Nat->Bool) (fin:St->((bz ts).den->Option R)->Option R) :
    (rs:List (Ty×Md))->List ResultVar->Nat->((bz (rs.map (·.1)++ts)).den->Option R)->Option R
 | [],[],_,K=>fin σ K
 | (t,m)::rs,x::xs,j,K=>gy σ (xA σ x) (mv j) t fun m' v σ'=>
  if m'=m\/fits m' m=true then Fq σ' ts mv fin rs xs (j+1) fun vs=>K (v,vs) else none
 | _,_,_,_=>none
end
def Bo (ps:List (PM×Ty)) (rs:List (Ty×Md)) (es:List Nat) (sw:List ResultVar) (mv:Nat->Bool) (σ:St):Option (bz (rs.map (·.1)++eP ps)).den:=
 Fq σ (eP ps) mv (fun σ K=>ou σ 0 ps es K) rs sw 0 some
def Ky (fr:List Nat) (j:Nat):Bool:=!(fr.any (Nat.beq j))
def Ms {R:Type} (fin:St->Option R):Ex->St->Option R
 | .normal,σ=>fin σ
 | .exit _,_=>none
def uJ (fn:Func):Code:=match fn.body with
 | some c=>c
 | none=>.refuse ""
abbrev PQ:Type:=List (PM×Ty)
abbrev RQ:Type:=List (Ty×Md)
abbrev TL:Type:=List (Nat×Ty)
abbrev GL:Type:=List (Nat×mA)
abbrev KT (R:Type):Type:=Ex->St->Option R
abbrev RT (R:Type):Type:=St->Option R
def AQ (E:Env) (k:Nat) (fn:Func) (ps:List (PM×Ty)) (rs:List (Ty×Md)) (es fr:List Nat) (v:(bz (ps.map (·.2))).den):Option (bz (rs.map (·.1)++eP ps)).den:=
 mr E k (Bo ps rs es fn.results.toList (Ky fr)) (uJ fn) (sv ps v fn.ntmps) (Ms (Bo ps rs es fn.results.toList (Ky fr)))
def lift {R:Type} (f:Nat->Option R):Option R:=open Classical in if h:∃ out,∃ k,∀ k',k<=k'->f k'=some out then some h.choose else none
theorem ag {R:Type} {f:Nat->Option R} {out:R} {k:Nat} (h:∀ k',k<=k'->f k'=some out):lift f=some out:=by
 have hex:∃ out,∃ k,∀ k',k<=k'->f k'=some out:=⟨out,k,h⟩
 unfold lift
 rw[dif_pos hex]
 obtain ⟨k2,Y⟩:=hex.choose_spec
 have e1:=h (max k k2) (Nat.le_max_left _ _)
 have e2:=Y (max k k2) (Nat.le_max_right _ _)
 rw[e1] at e2
 exact e2.symm
theorem Hh {R:Type} {f:Nat->Option R} {out:R} (h:lift f=some out):∃ k,f k=some out:=by
 unfold lift at h
 split at h
 ·rename_i hex
  obtain ⟨k,hk⟩:=hex.choose_spec
  injection h with h
  exact ⟨k,by rw[<-h];exact hk k (Nat.le_refl _)⟩
 ·cases h
abbrev i64:Ty:=.int .i64
abbrev u8:Ty:=.int .u8
def ae (n:Int):Int:=IntKind.wrap .i64 n
end
end OT
set_option linter.unusedVariables false
set_option linter.unusedSimpArgs false
namespace OT
open Go
abbrev FP:=Nat->Nat->Nat
abbrev Cells:=Nat->Nat->Prop
def isAgg:Ty->Bool
 | .unit | .pair _ _ | .arr _ _=>true
 | _=>false
def bf (t:Ty) (cs:List Value):Value:=if isAgg t then .agg cs.toArray else cs.headD undef
def sY (jW:List (Value×Value)):Value:=.tuple (jW.map fun kv=>Value.tuple #[kv.1,kv.2]).toArray
def entriesOf (es:Array MapEntry):List (Value×Value):=es.toList.map fun e=>(e.key,e.val)
def Fs (u:Value):Option Value:=if u.oneCell' then some u else none
def ce (w:World) (b i:Nat):Option Value:=match w.heap[b]? with
 | some (.map es _)=>if i=0 then some (sY (entriesOf es)) else none
 | _=>(w.cell? ⟨b,i,none⟩).bind Fs
theorem o8 {w w2:World} {b:Nat} (h:w2.heap[b]?=w.heap[b]?) (i:Nat):ce w2 b i=ce w b i:=by simp only[ce,World.cell?,h]
theorem uK {u v:Value} (h:Fs u=some v):v=u/\u.oneCell'=true:=by
 unfold Fs at h
 split at h
 ·rename_i hu;injection h with h;exact ⟨h.symm,hu⟩
 ·cases h
theorem mZ {w:World} {b i:Nat} {u:Value} (h:ce w b i=some u) (hu:u.oneCell'=true):w.cell? ⟨b,i,none⟩=some u:=by
 unfold ce at h
 split at h
 ·split at h
  ·injection h with h;subst h;cases hu
  ·cases h
 ·cases hc:w.cell? ⟨b,i,none⟩ with
  | none=>rw[hc] at h;cases h
  | some v=>
   rw[hc] at h
   have:=uK h
   rw[this.1]
theorem vX {w:World} {b i:Nat} {u:Value} (h:w.cell? ⟨b,i,none⟩=some u) (hu:u.oneCell'=true):ce w b i=some u:=by
 have h':=h
 unfold World.cell? at h
 unfold ce
 split at h
 ·rename_i heq;simp only at heq;simp only[heq,h',Option.bind_some,Fs,hu,if_true]
 ·cases h
theorem Jo:∀ {a b:List (Value×Value)},sY a=sY b->a=b:=by
 have main:∀ (a b:List (Value×Value)),(a.map fun kv=>Value.tuple #[kv.1,kv.2])=(b.map fun kv=>Value.tuple #[kv.1,kv.2])->a=b:=by
  intro a
  induction a with
  | nil=>intro b h;cases b with
   | nil=>rfl
   | cons _ _=>cases h
  | cons x a ih=>
   intro b h
   cases b with
   | nil=>cases h
   | cons y b=>
    simp only[List.map_cons,List.cons.injEq] at h
    obtain ⟨h1,Y⟩:=h
    injection h1 with h1
    have h3:=congrArg Array.toList h1
    simp only[List.cons.injEq,and_true] at h3
    rw[ih b Y,Prod.ext h3.1 h3.2]
 intro a b h
 unfold sY at h
 injection h with h
 exact main a b (by simpa using congrArg Array.toList h)
theorem Hj {w:World} {r:Nat} {jW:List (Value×Value)} (h:ce w r 0=some (sY jW)):∃ es clock,w.heap[r]?=some (.map es clock)/\entriesOf es=jW:=by
 unfold ce at h
 split at h
 ·rename_i es clock heq
  simp only[if_true] at h
  injection h with h
  exact ⟨es,clock,heq,Jo h⟩
 ·cases hc:w.cell? ⟨r,0,none⟩ with
  | none=>rw[hc] at h;cases h
  | some v=>
   rw[hc] at h
   have:=uK h
   have Y:=this.2
   rw[<-this.1] at Y
   cases Y
theorem Hk {w:World} {r:Nat} {es:Array MapEntry} {clock:Nat} (h:w.heap[r]?=some (.map es clock)):ce w r 0=some (sY (entriesOf es)):=by
 simp only[ce,h,if_true]
def Has (w:World) (b o:Nat) (L:List Value):Prop:=∀ j u,L[j]?=some u->ce w b (o+j)=some u
def Bp:Ty->Bool
 | .int .u8=>true
 | _=>false
def de (w:World) (b:Nat) (n:Nat×Bool):Prop:=∃ c e fr,w.heap[b]?=some (.cells c e fr)/\c.size=n.1/\(∀ i,i < n.1->¬ (fr.1<=i/\i < fr.2))/\(n.2=false->¬ (fr.1<=n.1/\n.1 < fr.2))
def bj (b o n:Nat):FP:=fun b' i=>if b'=b/\o<=i/\i < o+n then 1 else 0
def az:Nat->(Nat->FP)->FP
 | 0,_=>fun _ _=>0
 | n+1,f=>fun b i=>az n f b i+f n b i
def bW (f:Nat->FP) (j:Nat) (g:FP):Nat->FP:=fun i=>if i=j then g else f i
theorem jM {n:Nat} {f g:Nat->FP} (h:∀ j,j < n->f j=g j):az n f=az n g:=by
 induction n with
 | zero=>rfl
 | succ n ih=>
  funext b i
  simp only[az]
  rw[ih (fun j hj=>h j (by omega)),h n (by omega)]
theorem lN {n:Nat} (f:Nat->FP) {j:Nat} (hj:j < n) (g:FP) (b i:Nat):az n (bW f j g) b i+f j b i=az n f b i+g b i:=by
 induction n with
 | zero=>omega
 | succ n ih=>
  simp only[az]
  by_cases h:j=n
  ·subst h
   have:az j (bW f j g)=az j f:=jM fun k hk=>by simp[bW];omega
   rw[this]
   simp[bW]
   omega
  ·have:=ih (by omega)
   have e:bW f j g n=f n:=by simp[bW];omega
   rw[e];omega
theorem Bq {n:Nat} (f:Nat->FP) {j:Nat} (hj:n<=j) (g:FP):az n (bW f j g)=az n f:=
 jM fun k hk=>by simp[bW];omega
theorem be {n:Nat} (f:Nat->FP) {j:Nat} (hj:j < n) (b i:Nat):f j b i<=az n f b i:=by
 induction n with
 | zero=>omega
 | succ n ih=>
  simp only[az]
  by_cases h:j=n
  ·subst h;omega
  ·have:=ih (by omega);omega
theorem mC {n:Nat} (f:Nat->FP) {j k:Nat} (hj:j < n) (hk:k < n) (ey:j≠k) (b i:Nat):f j b i+f k b i<=az n f b i:=by
 have h1:=lN f hj (fun _ _=>0) b i
 have Y:=be (bW f j fun _ _=>0) hk b i
 have e:bW f j (fun _ _=>0) k=f k:=by simp[bW];omega
 rw[e] at Y
 simp at h1
 omega
theorem gC (n:Nat) (b i:Nat):az n (fun _ _ _=>0) b i=0:=by
 induction n with
 | zero=>rfl
 | succ n ih=>simp[az,ih]
theorem nK (n m:Nat) (f:Nat->FP) (b i:Nat):az (n+m) f b i=az n f b i+az m (fun j=>f (n+j)) b i:=by
 induction m with
 | zero=>simp[az]
 | succ m ih=>rw[<-Nat.add_assoc];simp only[az];rw[ih];omega
theorem zg {n:Nat} {f g:Nat->FP} (b i:Nat) (h:∀ j,j < n->f j b i<=g j b i):az n f b i<=az n g b i:=by
 induction n with
 | zero=>exact Nat.le_refl _
 | succ n ih=>
  simp only[az]
  have:=ih fun j hj=>h j (by omega)
  have:=h n (by omega)
  omega
theorem Hl (n:Nat) (f:Nat->FP) (k m:Nat) (h:k+m<=n) (b i:Nat):az m (fun j=>f (k+j)) b i<=az n f b i:=by
 have e:n=k+(m+(n - k - m)):=by omega
 rw[e,nK,nK]
 omega
theorem Br {n:Nat} {f:Nat->FP} {b i:Nat} (h:1<=az n f b i):∃ j,j < n/\1<=f j b i:=by
 induction n with
 | zero=>simp[az] at h
 | succ n ih=>
  simp only[az] at h
  by_cases h1:1<=az n f b i
  ·obtain ⟨j,hj,hh⟩:=ih h1
   exact ⟨j,by omega,hh⟩
  ·exact ⟨n,by omega,by omega⟩
section
variable (P:Program) (w:World) (A:Cells)
def Ro:(t:Ty)->t.den->List Value->Prop
 | .int k,v,cs=>cs=[.int k (jg k v)]
 | .bool,v,cs=>cs=[.bool v]
 | .str,v,cs=>cs=[.string ⟨List.toArray v⟩]
 | .unit,_,cs=>cs=[]
 | .pair a b,v,cs=>Ro a v.1 (cs.take a.sz)/\Ro b v.2 (cs.drop a.sz)
 | .arr n e,v,cs=>e.flat=true/\List.length v=n/\cs.length=n*e.sz/\∀ (i:Nat) (x:e.den),v[i]?=some x->Ro e x ((cs.drop (i*e.sz)).take e.sz)
 | .U e,v,cs=>∃ a cap,cs=[.slice a (List.length v) cap]/\List.length v<=cap/\(a=none->List.length v=0)/\∀ ad,a=some ad->(0 < cap->ad.spot=none) /\
   ∀ (i:Nat) (x:e.den),v[i]?=some x->∃ L:List Value,L.length=e.sz/\(∀ j u,L[j]?=some u->ce w ad.block (ad.off+i*e.sz+j)=some u/\A ad.block (ad.off+i*e.sz+j))/\Ro e x L
 | .ptr e,v,cs=>∃ ad,cs=[.pointer (some ad)]/\ad.spot=none /\
   ∃ L:List Value,L.length=e.sz/\(∀ j u,L[j]?=some u->ce w ad.block (ad.off+j)=some u/\A ad.block (ad.off+j))/\Ro e v L
 | .fn,v,cs=>∃ pN,cs=[.func (.func v.1) #[] pN]/\∃ fn,P.funcs[v.1]?=some fn /\
   ((fn.nfree=0/\pN=#[])\/(fn.nfree=1/\∃ ad:Addr,pN=#[.pointer (some ad)]/\ad.spot=none/\ce w ad.block ad.off=some (.int .i64 v.2)/\A ad.block ad.off))
 | .map k v,x,cs=>k.flat=true/\v.flat=true/\∃ (r:Nat) (jW:List (Value×Value)),cs=[.map (some r)]/\ce w r 0=some (sY jW)/\A r 0/\jW.length=List.length x /\
   ∀ (i:Nat) (y:k.den×v.den),x[i]?=some y->∃ (kc vc:List Value),jW[i]?=some (bf k kc,bf v vc)/\Ro k y.1 kc/\Ro v y.2 vc
def hole (H:List Path):Bool:=H.any (·.isEmpty)
def gb (i:Nat):Path->Option Path
 | .idx j::p=>if i=j then some p else none
 | _=>none
def ai:(t:Ty)->Md->List Path->t.den->List Value->FP->Prop
 | .pair a b,m,H,v,cs,F=>hole H=false/\∃ F1 F2:FP,(∀ x i,F1 x i+F2 x i<=F x i) /\
   ai a m.l (H.filterMap nt) v.1 (cs.take a.sz) F1/\ai b m.r (H.filterMap nu) v.2 (cs.drop a.sz) F2
 | .U e,m,H,v,cs,F=>
   if hole H then ∃ x:Value,cs=[x]/\x.oneCell'=true
   else if m.own then ∃ a cap,cs=[.slice a (List.length v) cap]/\List.length v<=cap/\cap<=maxLen/\(a=none->cap=0)/\∀ ad,a=some ad->ad.off=0/\ad.spot=none /\
    de w ad.block (cap*e.sz,Bp e)/\∃ Fi:Nat->FP,(∀ x i,bj ad.block 0 (cap*e.sz) x i+az (List.length v) Fi x i<=F x i) /\
    ∀ (i:Nat) (x:e.den),v[i]?=some x->∃ L:List Value,L.length=e.sz/\Has w ad.block (i*e.sz) L/\ai e m.e (H.filterMap (gb i)) x L (Fi i)
   else H=[]/\m.e.d9=true/\Ro P w A (.U e) v cs
 | .ptr e,m,H,v,cs,F=>
   if hole H then ∃ x:Value,cs=[x]/\x.oneCell'=true
   else if m.own then ∃ b,cs=[.pointer (some ⟨b,0,none⟩)]/\de w b (e.sz,false)/\∃ (L:List Value) (F1:FP),L.length=e.sz/\Has w b 0 L /\
    (∀ x i,bj b 0 e.sz x i+F1 x i<=F x i)/\ai e m.e [] v L F1
   else H=[]/\m.e.d9=true/\Ro P w A (.ptr e) v cs
 | .int k,_,_,v,cs,_=>Ro P w A (.int k) v cs
 | .bool,_,_,v,cs,_=>Ro P w A .bool v cs
 | .str,_,_,v,cs,_=>Ro P w A .str v cs
 | .unit,_,_,v,cs,_=>Ro P w A .unit v cs
 | .arr n e,_,H,v,cs,_=>H=[]/\Ro P w A (.arr n e) v cs
 | .fn,_,_,v,cs,_=>Ro P w A .fn v cs
 | .map k v,m,H,x,cs,F=>
   if hole H then ∃ x:Value,cs=[x]/\x.oneCell'=true
   else if m.own then k.flat=true/\v.flat=true/\∃ (r:Nat) (jW:List (Value×Value)),cs=[.map (some r)]/\ce w r 0=some (sY jW)/\1<=F r 0/\jW.length=List.length x /\
    ∀ (i:Nat) (y:k.den×v.den),x[i]?=some y->∃ (kc vc:List Value),jW[i]?=some (bf k kc,bf v vc)/\Ro P w A k y.1 kc/\Ro P w A v y.2 vc
   else H=[]/\m.e.d9=true/\Ro P w A (.map k v) x cs
end
theorem Ro.length {P:Program} {w:World} {A:Cells}:∀ (t:Ty) {v:t.den} {cs:List Value},Ro P w A t v cs->cs.length=t.sz:=by
 intro t
 induction t with
 | pair a b eg dZ=>
  intro v cs h
  have h1:=eg h.1
  have Y:=dZ h.2
  simp only[List.length_take,List.length_drop] at h1 Y
  simp only[Ty.sz];omega
 | arr n e ih=>intro v cs h;exact h.2.2.1
 | U e ih=>rintro v cs ⟨a,cap,rfl,_⟩;rfl
 | ptr e ih=>rintro v cs ⟨a,rfl,_⟩;rfl
 | fn=>rintro v cs ⟨a,rfl,_⟩;rfl
 | map k v=>rintro v cs ⟨_,_,r,jW,rfl,_⟩;rfl
 | unit=>intro v cs h;simp only[Ro] at h;subst h;rfl
 | _=>intro v cs h;simp only[Ro] at h;subst h;rfl
theorem ai.length {P:Program} {w:World} {A:Cells}:∀ (t:Ty) {m:Md} {H:List Path} {v:t.den} {cs:List Value} {F:FP},ai P w A t m H v cs F->cs.length=t.sz:=by
 intro t
 induction t with
 | pair a b eg dZ=>
  intro m H v cs F h
  obtain ⟨_,F1,F2,_,h1,Y⟩:=h
  have h1:=eg h1
  have Y:=dZ Y
  simp only[List.length_take,List.length_drop] at h1 Y
  simp only[Ty.sz];omega
 | U e ih=>
  intro m H v cs F h
  simp only[ai] at h
  split at h
  ·obtain ⟨x,rfl,_⟩:=h;rfl
  ·split at h
   ·obtain ⟨a,cap,rfl,_⟩:=h;rfl
   ·exact Ro.length _ h.2.2
 | ptr e ih=>
  intro m H v cs F h
  simp only[ai] at h
  split at h
  ·obtain ⟨x,rfl,_⟩:=h;rfl
  ·split at h
   ·obtain ⟨a,rfl,_⟩:=h;rfl
   ·exact Ro.length _ h.2.2
 | arr n e ih=>intro m H v cs F h;exact Ro.length _ h.2
 | map k v=>
  intro m H v cs F h
  simp only[ai] at h
  split at h
  ·obtain ⟨x,rfl,_⟩:=h;rfl
  ·split at h
   ·obtain ⟨_,_,r,jW,rfl,_⟩:=h;rfl
   ·exact Ro.length _ h.2.2
 | _=>intro m H v cs F h;exact Ro.length _ h
structure Ts (w w':World) (S:Nat->Nat->Prop):Prop where
 cell:∀ b i,S b i->∀ u,ce w b i=some u->ce w' b i=some u
 o3:∀ b n,de w b n->de w' b n
theorem Ro.mono {P:Program} {w w':World} {A A':Cells} (hc:∀ b i,A b i->∀ u,ce w b i=some u->ce w' b i=some u) (hA:∀ b i,A b i->A' b i) :
  ∀ (t:Ty) {v:t.den} {cs:List Value},Ro P w A t v cs->Ro P w' A' t v cs:=by
 intro t
 induction t with
 | pair a b eg dZ=>intro v cs h;exact ⟨eg h.1,dZ h.2⟩
 | arr n e ih=>intro v cs h;exact ⟨h.1,h.2.1,h.2.2.1,fun i x hx=>ih (h.2.2.2 i x hx)⟩
 | U e ih=>
  rintro v cs ⟨a,cap,h1,Y,h3,h4⟩
  refine ⟨a,cap,h1,Y,h3,fun ad cO=>⟨(h4 ad cO).1,fun i x hx=>?_⟩⟩
  obtain ⟨L,hl,hL,hr⟩:=(h4 ad cO).2 i x hx
  exact ⟨L,hl,fun j u hu=>⟨hc _ _ (hL j u hu).2 u (hL j u hu).1,hA _ _ (hL j u hu).2⟩,ih hr⟩
 | ptr e ih=>
  rintro v cs ⟨ad,h1,Y,L,hl,hL,hr⟩
  exact ⟨ad,h1,Y,L,hl,fun j u hu=>⟨hc _ _ (hL j u hu).2 u (hL j u hu).1,hA _ _ (hL j u hu).2⟩,ih hr⟩
 | fn=>
  rintro v cs ⟨pN,h1,fn,Y,h3⟩
  refine ⟨pN,h1,fn,Y,?_⟩
  rcases h3 with h3 | ⟨h3,ad,h4,h5,h6,h7⟩
  ·exact .inl h3
  ·exact .inr ⟨h3,ad,h4,h5,hc _ _ h7 _ h6,hA _ _ h7⟩
 | map k v Kz KA=>
  rintro x cs ⟨h1,Y,r,jW,h3,h4,h5,h6,h7⟩
  refine ⟨h1,Y,r,jW,h3,hc _ _ h5 _ h4,hA _ _ h5,h6,fun i y hy=>?_⟩
  obtain ⟨kc,vc,g1,g2,g3⟩:=h7 i y hy
  exact ⟨kc,vc,g1,Kz g2,KA g3⟩
 | _=>intro v cs h;exact h
theorem ai.mono {P:Program} {w w':World} {A A':Cells} (hA:∀ b i,A b i->A' b i) (hc:∀ b i,A b i->∀ u,ce w b i=some u->ce w' b i=some u) (hb:∀ b n,de w b n->de w' b n) :
  ∀ (t:Ty) {m:Md} {H:List Path} {v:t.den} {cs:List Value} {F F':FP},ai P w A t m H v cs F->(∀ b i,F b i<=F' b i)->(∀ b i,1<=F b i->∀ u,ce w b i=some u->ce w' b i=some u)->ai P w' A' t m H v cs F':=by
 intro t
 induction t with
 | pair a b eg dZ=>
  intro m H v cs F F' h hF ov
  obtain ⟨h0,F1,F2,hs,h1,Y⟩:=h
  exact ⟨h0,F1,F2,fun x i=>Nat.le_trans (hs x i) (hF x i),eg h1 (fun _ _=>Nat.le_refl _) (fun b i hp=>ov b i (by have:=hs b i;omega)),
   dZ Y (fun _ _=>Nat.le_refl _) (fun b i hp=>ov b i (by have:=hs b i;omega))⟩
 | U e ih=>
  intro m H v cs F F' h hF ov
  simp only[ai] at h ⊢
  split at h
  ·rename_i hh;rw[if_pos hh];exact h
  ·rename_i hh;rw[if_neg hh]
   split at h
   ·rename_i hm;rw[if_pos hm]
    obtain ⟨a,cap,h1,Y,h3,h4,h5⟩:=h
    refine ⟨a,cap,h1,Y,h3,h4,fun ad cO=>?_⟩
    obtain ⟨g1,g2,g3,Fi,g4,g5⟩:=h5 ad cO
    refine ⟨g1,g2,hb _ _ g3,Fi,fun x i=>Nat.le_trans (g4 x i) (hF x i),fun i x hx=>?_⟩
    obtain ⟨L,hl,hL,hr⟩:=g5 i x hx
    have hi:i < List.length v:=(List.getElem?_eq_some_iff.1 hx).1
    refine ⟨L,hl,fun j u hu=>ov _ _ ?_ u (hL j u hu),ih hr (fun _ _=>Nat.le_refl _) (fun b k hp=>ov b k ?_)⟩
    ·have:=g4 ad.block (i*e.sz+j)
     have hj:j < e.sz:=hl ▸ (List.getElem?_eq_some_iff.1 hu).1
     have:i*e.sz+j < cap*e.sz:=by
      have h1:(i+1)*e.sz<=cap*e.sz:=Nat.mul_le_mul_right _ (by omega)
      rw[Nat.add_mul] at h1;omega
     simp[bj,this] at *
     omega
    ·have h1:=g4 b k
     have Y:=be Fi hi b k
     omega
   ·rename_i hm;rw[if_neg hm];exact ⟨h.1,h.2.1,Ro.mono hc hA _ h.2.2⟩
 | ptr e ih=>
  intro m H v cs F F' h hF ov
  simp only[ai] at h ⊢
  split at h
  ·rename_i hh;rw[if_pos hh];exact h
  ·rename_i hh;rw[if_neg hh]
   split at h
   ·rename_i hm;rw[if_pos hm]
    obtain ⟨b,h1,Y,L,F1,h3,h4,h5,h6⟩:=h
    refine ⟨b,h1,hb _ _ Y,L,F1,h3,fun j u hu=>ov _ _ ?_ u (h4 j u hu),fun x i=>Nat.le_trans (h5 x i) (hF x i),ih h6 (fun _ _=>Nat.le_refl _) (fun b' k hp=>ov b' k ?_)⟩
    ·have:=h5 b (0+j)
     have hj:j < e.sz:=h3 ▸ (List.getElem?_eq_some_iff.1 hu).1
     simp[bj,hj] at *
     omega
    ·have:=h5 b' k;omega
   ·rename_i hm;rw[if_neg hm];exact ⟨h.1,h.2.1,Ro.mono hc hA _ h.2.2⟩
 | arr n e ih=>intro m H v cs F F' h hF ov;exact ⟨h.1,Ro.mono hc hA _ h.2⟩
 | map k v Kz KA=>
  intro m H x cs F F' h hF ov
  simp only[ai] at h ⊢
  split at h
  ·rename_i hh;rw[if_pos hh];exact h
  ·rename_i hh;rw[if_neg hh]
   split at h
   ·rename_i hm;rw[if_pos hm]
    obtain ⟨h1,Y,r,jW,h3,h4,h5,h6,h7⟩:=h
    refine ⟨h1,Y,r,jW,h3,ov _ _ h5 _ h4,Nat.le_trans h5 (hF r 0),h6,fun i y hy=>?_⟩
    obtain ⟨kc,vc,g1,g2,g3⟩:=h7 i y hy
    exact ⟨kc,vc,g1,Ro.mono hc hA k g2,Ro.mono hc hA v g3⟩
   ·rename_i hm;rw[if_neg hm];exact ⟨h.1,h.2.1,Ro.mono hc hA _ h.2.2⟩
 | _=>intro m H v cs F F' h hF ov;exact Ro.mono hc hA _ h
theorem ai.le {P:Program} {w:World} {A:Cells} {t:Ty} {m:Md} {H:List Path} {v:t.den} {cs:List Value} {F F':FP} (h:ai P w A t m H v cs F) (hF:∀ b i,F b i<=F' b i):ai P w A t m H v cs F':=
 ai.mono (fun _ _ h=>h) (fun _ _ _ _ h=>h) (fun _ _ h=>h) t h hF (fun _ _ _ _ h=>h)
theorem ai.ox {P:Program} {w:World} {A A':Cells} (hA:∀ b i,A b i->A' b i) :
  ∀ (t:Ty) {m:Md} {v:t.den} {cs:List Value} {F:FP},ai P w A t m [] v cs F->(∀ b i,1<=F b i->A' b i)->Ro P w A' t v cs:=by
 intro t
 induction t with
 | pair a b eg dZ=>
  intro m v cs F h hF
  obtain ⟨h0,F1,F2,hs,h1,Y⟩:=h
  exact ⟨eg h1 (fun b i hp=>hF b i (by have:=hs b i;omega)),dZ Y (fun b i hp=>hF b i (by have:=hs b i;omega))⟩
 | U e ih=>
  intro m v cs F h hF
  simp only[ai,hole,List.any_nil,Bool.false_eq_true,if_false] at h
  split at h
  ·obtain ⟨a,cap,h1,Y,h3,h4,h5⟩:=h
   refine ⟨a,cap,h1,Y,fun hn=>by have:=h4 hn;omega,fun ad cO=>?_⟩
   obtain ⟨g1,g2,g3,Fi,g4,g5⟩:=h5 ad cO
   refine ⟨fun _=>g2,fun i x hx=>?_⟩
   obtain ⟨L,hl,hL,hr⟩:=g5 i x hx
   have hi:i < List.length v:=(List.getElem?_eq_some_iff.1 hx).1
   refine ⟨L,hl,fun j u hu=>?_,ih hr fun b k hp=>hF b k ?_⟩
   ·rw[g1,Nat.zero_add]
    refine ⟨hL j u hu,hF _ _ ?_⟩
    have:=g4 ad.block (i*e.sz+j)
    have hj:j < e.sz:=hl ▸ (List.getElem?_eq_some_iff.1 hu).1
    have:i*e.sz+j < cap*e.sz:=by
     have h1:(i+1)*e.sz<=cap*e.sz:=Nat.mul_le_mul_right _ (by omega)
     rw[Nat.add_mul] at h1;omega
    simp[bj,this] at *
    omega
   ·have h1:=g4 b k
    have Y:=be Fi hi b k
    omega
  ·exact Ro.mono (fun _ _ _ _ h=>h) hA _ h.2.2
 | ptr e ih=>
  intro m v cs F h hF
  simp only[ai,hole,List.any_nil,Bool.false_eq_true,if_false] at h
  split at h
  ·obtain ⟨b,h1,Y,L,F1,h3,h4,h5,h6⟩:=h
   refine ⟨_,h1,rfl,L,h3,fun j u hu=>⟨h4 j u hu,hF _ _ ?_⟩,ih h6 fun b' k hp=>hF _ _ ?_⟩
   ·have:=h5 b (0+j)
    have hj:j < e.sz:=h3 ▸ (List.getElem?_eq_some_iff.1 hu).1
    simp[bj,hj] at *
    omega
   ·have:=h5 b' k;omega
  ·exact Ro.mono (fun _ _ _ _ h=>h) hA _ h.2.2
 | arr n e ih=>intro m v cs F h hF;exact Ro.mono (fun _ _ _ _ h=>h) hA _ h.2
 | map k v Kz KA=>
  intro m x cs F h hF
  simp only[ai,hole,List.any_nil,Bool.false_eq_true,if_false] at h
  split at h
  ·obtain ⟨h1,Y,r,jW,h3,h4,h5,h6,h7⟩:=h
   refine ⟨h1,Y,r,jW,h3,h4,hF _ _ h5,h6,fun i y hy=>?_⟩
   obtain ⟨kc,vc,g1,g2,g3⟩:=h7 i y hy
   exact ⟨kc,vc,g1,Ro.mono (fun _ _ _ _ h=>h) hA k g2,Ro.mono (fun _ _ _ _ h=>h) hA v g3⟩
  ·exact Ro.mono (fun _ _ _ _ h=>h) hA _ h.2.2
 | _=>intro m v cs F h hF;exact Ro.mono (fun _ _ _ _ h=>h) hA _ h
end OT
set_option linter.unusedVariables false
set_option linter.unusedSimpArgs false
namespace OT
open Go
theorem Ep {m:Md} (h:m.d9=true):m.l.d9=true:=by cases m <;> simp_all [Md.d9,Md.l]
theorem Er {m:Md} (h:m.d9=true):m.r.d9=true:=by cases m <;> simp_all [Md.d9,Md.r]
theorem zh {m:Md} (h:m.d9=true):m.e.d9=true:=by cases m <;> simp_all [Md.d9,Md.e]
theorem nX {m:Md} (h:m.d9=true):m.own=false:=by cases m <;> simp_all [Md.d9,Md.own]
theorem cM (t:Ty):(ay t).d9=true:=by
 induction t <;> simp_all [ay,mz,Md.d9]
theorem Mt {m m1:Md} (h:fits m m1=true):fits m.l m1.l=true:=by cases m <;> cases m1 <;> simp_all [fits,Md.l]
theorem Mu {m m1:Md} (h:fits m m1=true):fits m.r m1.r=true:=by cases m <;> cases m1 <;> simp_all [fits,Md.r]
theorem Hm {m m1:Md} (h:fits m m1=true):fits m.e m1.e=true:=by cases m <;> cases m1 <;> simp_all [fits,Md.e]
theorem wN {m m1:Md} (h:fits m m1=true):m1.own=true->m.own=true:=by
 intro h1;cases m <;> cases m1 <;> simp_all [fits,Md.own]
theorem zi {m m1:Md} (h:fits m m1=true) (h1:m1.own=false):m1.e.d9=true\/∃ e,m1=.arr e:=by
 cases m <;> cases m1 <;> simp_all [fits,Md.own,Md.e,Md.d9]
theorem sZ:∀ {m m1:Md},fits m m1=true->m.d9=true->m1.d9=true:=by
 intro m
 induction m with
 | leaf=>intro m1 h hn;cases m1 <;> simp_all [fits,Md.d9]
 | pair a b eg dZ=>
  intro m1 h hn
  cases m1 with
  | pair c d=>simp only[fits,Md.d9,Bool.and_eq_true] at *;exact ⟨eg h.1 hn.1,dZ h.2 hn.2⟩
  | _=>simp[fits] at h
 | arr e ih=>
  intro m1 h hn
  cases m1 with
  | arr d=>simp only[fits,Md.d9] at *;exact ih h hn
  | _=>simp[fits] at h
 | U o e ih=>
  intro m1 h hn
  cases m1 with
  | U o' d=>
   simp only[fits,Md.d9,Bool.and_eq_true,Bool.or_eq_true,Bool.not_eq_true'] at *
   rw[hn.1] at h
   exact ⟨by rcases h.1.1 with h | h;exact absurd h (by simp);exact h,ih h.2 hn.2⟩
  | _=>simp[fits] at h
 | ptr o e ih=>
  intro m1 h hn
  cases m1 with
  | ptr o' d=>
   simp only[fits,Md.d9,Bool.and_eq_true,Bool.or_eq_true,Bool.not_eq_true'] at *
   rw[hn.1] at h
   exact ⟨by rcases h.1.1 with h | h;exact absurd h (by simp);exact h,ih h.2 hn.2⟩
  | _=>simp[fits] at h
section
variable {P:Program} {w:World} {A:Cells}
theorem Ro.rep:∀ (t:Ty) {m:Md} {v:t.den} {cs:List Value} (F:FP),m.d9=true->Ro P w A t v cs->ai P w A t m [] v cs F:=by
 intro t
 induction t with
 | pair a b eg dZ=>
  intro m v cs F hm h
  exact ⟨rfl,fun _ _=>0,fun _ _=>0,fun _ _=>Nat.zero_le _,eg _ (Ep hm) h.1,dZ _ (Er hm) h.2⟩
 | U e ih=>intro m v cs F hm h;simp only[ai,hole,List.any_nil,Bool.false_eq_true,if_false,nX hm];exact ⟨trivial,zh hm,h⟩
 | ptr e ih=>intro m v cs F hm h;simp only[ai,hole,List.any_nil,Bool.false_eq_true,if_false,nX hm];exact ⟨trivial,zh hm,h⟩
 | arr n e ih=>intro m v cs F hm h;exact ⟨rfl,h⟩
 | map k v=>intro m x cs F hm h;simp only[ai,hole,List.any_nil,Bool.false_eq_true,if_false,nX hm];exact ⟨trivial,zh hm,h⟩
 | _=>intro m v cs F hm h;exact h
theorem ai.ro:∀ (t:Ty) {m:Md} {v:t.den} {cs:List Value} {F:FP},m.d9=true->ai P w A t m [] v cs F->Ro P w A t v cs:=by
 intro t
 induction t with
 | pair a b eg dZ=>
  intro m v cs F hm h
  obtain ⟨_,F1,F2,_,h1,Y⟩:=h
  exact ⟨eg (Ep hm) h1,dZ (Er hm) Y⟩
 | U e ih=>intro m v cs F hm h;simp only[ai,hole,List.any_nil,Bool.false_eq_true,if_false,nX hm] at h;exact h.2.2
 | ptr e ih=>intro m v cs F hm h;simp only[ai,hole,List.any_nil,Bool.false_eq_true,if_false,nX hm] at h;exact h.2.2
 | arr n e ih=>intro m v cs F hm h;exact h.2
 | map k v=>intro m x cs F hm h;simp only[ai,hole,List.any_nil,Bool.false_eq_true,if_false,nX hm] at h;exact h.2.2
 | _=>intro m v cs F hm h;exact h
theorem Ro.flat:∀ (t:Ty) {m:Md} {v:t.den} {cs:List Value} (F:FP),t.flat=true->Ro P w A t v cs->ai P w A t m [] v cs F:=by
 intro t
 induction t with
 | pair a b eg dZ=>
  intro m v cs F hm h
  simp only[Ty.flat,Bool.and_eq_true] at hm
  exact ⟨rfl,fun _ _=>0,fun _ _=>0,fun _ _=>Nat.zero_le _,eg _ hm.1 h.1,dZ _ hm.2 h.2⟩
 | U e ih=>intro m v cs F hm;simp[Ty.flat] at hm
 | ptr e ih=>intro m v cs F hm;simp[Ty.flat] at hm
 | arr n e ih=>intro m v cs F hm h;exact ⟨rfl,h⟩
 | map k v=>intro m v cs F hm;simp[Ty.flat] at hm
 | _=>intro m v cs F hm h;exact h
theorem ai.flat:∀ (t:Ty) {m:Md} {H:List Path} {v:t.den} {cs:List Value} {F:FP},t.flat=true->ai P w A t m H v cs F->Ro P w A t v cs:=by
 intro t
 induction t with
 | pair a b eg dZ=>
  intro m H v cs F hm h
  simp only[Ty.flat,Bool.and_eq_true] at hm
  obtain ⟨_,F1,F2,_,h1,Y⟩:=h
  exact ⟨eg hm.1 h1,dZ hm.2 Y⟩
 | U e ih=>intro m H v cs F hm;simp[Ty.flat] at hm
 | ptr e ih=>intro m H v cs F hm;simp[Ty.flat] at hm
 | arr n e ih=>intro m H v cs F hm h;exact h.2
 | map k v=>intro m H v cs F hm;simp[Ty.flat] at hm
 | _=>intro m H v cs F hm h;exact h
theorem ai.fits:∀ (t:Ty) {m m1:Md} {v:t.den} {cs:List Value} {F:FP},fits m m1=true->ai P w A t m [] v cs F->(∀ b i,F b i<=1) ->
  ∃ F1:FP,(∀ b i,F1 b i<=F b i)/\∀ A':Cells,(∀ b i,A b i->A' b i)->(∀ b i,1<=F b i->F1 b i=0->A' b i)->ai P w A' t m1 [] v cs F1:=by
 intro t
 induction t with
 | pair a b eg dZ=>
  intro m m1 v cs F hf h hF
  obtain ⟨_,Fa,Fb,hs,h1,Y⟩:=h
  obtain ⟨G1,O7,k1⟩:=eg (Mt hf) h1 (fun b i=>by have:=hs b i;have:=hF b i;omega)
  obtain ⟨G2,O8,k2⟩:=dZ (Mu hf) Y (fun b i=>by have:=hs b i;have:=hF b i;omega)
  refine ⟨fun b i=>G1 b i+G2 b i,fun b i=>by have:=hs b i;have:=O7 b i;have:=O8 b i;show G1 b i+G2 b i<=_;omega,fun A' hA gU=>⟨rfl,G1,G2,fun _ _=>Nat.le_refl _,k1 A' hA fun b i hp hz=>?_,k2 A' hA fun b i hp hz=>?_⟩⟩
  ·have:=hs b i;have:=hF b i;have:=O8 b i
   exact gU b i (by omega) (by show G1 b i+G2 b i=0;omega)
  ·have:=hs b i;have:=hF b i;have:=O7 b i
   exact gU b i (by omega) (by show G1 b i+G2 b i=0;omega)
 | U e ih=>
  intro m m1 v cs F hf h hF
  by_cases nY:m1.own=true
  ·have hm:=wN hf nY
   simp only[ai,hole,List.any_nil,Bool.false_eq_true,if_false,hm,if_true] at h
   obtain ⟨a,cap,h1,Y,h3,h4,h5⟩:=h
   cases a with
   | none=>
    refine ⟨fun _ _=>0,fun _ _=>Nat.zero_le _,fun A' hA gU=>?_⟩
    simp only[ai,hole,List.any_nil,Bool.false_eq_true,if_false,nY,if_true]
    exact ⟨none,cap,h1,Y,h3,h4,fun ad cO=>by cases cO⟩
   | some ad=>
    obtain ⟨g1,g2,g3,Fi,g4,g5⟩:=h5 ad rfl
    have each:∀ i,∃ Gi:FP,(∀ b k,Gi b k<=Fi i b k)/\∀ A':Cells,(∀ b i,A b i->A' b i)->(∀ b k,1<=Fi i b k->Gi b k=0->A' b k) ->
      ∀ x,v[i]?=some x->∃ L:List Value,L.length=e.sz/\Has w ad.block (i*e.sz) L/\ai P w A' e m1.e (([]:List Path).filterMap (gb i)) x L Gi:=by
     intro i
     cases hx:(v:List e.den)[i]? with
     | none=>exact ⟨fun _ _=>0,fun _ _=>Nat.zero_le _,fun A' _ _ x Bs=>by cases Bs⟩
     | some x=>
      obtain ⟨L,hl,hL,hr⟩:=g5 i x hx
      have hi:i < List.length v:=(List.getElem?_eq_some_iff.1 hx).1
      obtain ⟨G,hG,k⟩:=ih (Hm hf) hr (fun b k=>by have:=be Fi hi b k;have:=g4 b k;have:=hF b k;omega)
      exact ⟨G,hG,fun A' hA gU x' Bs=>by injection Bs with Bs;subst Bs;exact ⟨L,hl,hL,k A' hA gU⟩⟩
    have ⟨Gi,Mv⟩:=Classical.axiomOfChoice each
    refine ⟨fun b k=>bj ad.block 0 (cap*e.sz) b k+az (List.length v) Gi b k,fun b k=>?_,fun A' hA gU=>?_⟩
    ·have:=g4 b k;have:=zg b k (f:=Gi) (g:=Fi) (n:=List.length v) fun j _=>(Mv j).1 b k
     show bj ad.block 0 (cap*e.sz) b k+az (List.length v) Gi b k<=_;omega
    ·simp only[ai,hole,List.any_nil,Bool.false_eq_true,if_false,nY,if_true]
     refine ⟨some ad,cap,h1,Y,h3,h4,fun aZ wO=>?_⟩
     injection wO with wO;subst wO
     refine ⟨g1,g2,g3,Gi,fun _ _=>Nat.le_refl _,fun i x hx=>(Mv i).2 A' hA (fun b k hp hz=>?_) x hx⟩
     have hi:i < List.length v:=(List.getElem?_eq_some_iff.1 hx).1
     have h1:=g4 b k;have Y:=hF b k;have h3:=be Fi hi b k
     refine gU b k (by omega) ?_
     show bj ad.block 0 (cap*e.sz) b k+az (List.length v) Gi b k=0
     have:az (List.length v) Gi b k=0:=by
      rcases Nat.eq_zero_or_pos (az (List.length v) Gi b k) with h0 | h0
      ·exact h0
      ·obtain ⟨j,hj,O9⟩:=Br h0
       have:=(Mv j).1 b k
       by_cases fZ:j=i
       ·subst fZ;omega
       ·have:=mC Fi hj hi fZ b k;omega
     omega
  ·have uL:m1.own=false:=by simpa using nY
   have kD:m1.e.d9=true:=by
    rcases zi hf uL with h | ⟨e',rfl⟩
    ·exact h
    ·cases m <;> simp[OT.fits] at hf
     simp only[ai,hole,List.any_nil,Bool.false_eq_true,if_false,Md.own] at h
     exact sZ hf h.2.1
   refine ⟨fun _ _=>0,fun _ _=>Nat.zero_le _,fun A' hA gU=>?_⟩
   have ls:=ai.ox hA _ h (fun b i hp=>gU b i hp rfl)
   simp only[ai,hole,List.any_nil,Bool.false_eq_true,if_false,uL]
   exact ⟨trivial,kD,ls⟩
 | ptr e ih=>
  intro m m1 v cs F hf h hF
  by_cases nY:m1.own=true
  ·have hm:=wN hf nY
   simp only[ai,hole,List.any_nil,Bool.false_eq_true,if_false,hm,if_true] at h
   obtain ⟨b,h1,Y,L,F1,h3,h4,h5,h6⟩:=h
   obtain ⟨G,hG,k⟩:=ih (Hm hf) h6 (fun b' i=>by have:=h5 b' i;have:=hF b' i;omega)
   refine ⟨fun b' k=>bj b 0 e.sz b' k+G b' k,fun b' k=>by have:=h5 b' k;have:=hG b' k;show bj b 0 e.sz b' k+G b' k<=_;omega,fun A' hA gU=>?_⟩
   simp only[ai,hole,List.any_nil,Bool.false_eq_true,if_false,nY,if_true]
   refine ⟨b,h1,Y,L,G,h3,h4,fun _ _=>Nat.le_refl _,k A' hA fun b' i hp hz=>gU b' i ?_ ?_⟩
   ·have:=h5 b' i;omega
   ·have:=h5 b' i;have:=hF b' i
    show bj b 0 e.sz b' i+G b' i=0
    omega
  ·have uL:m1.own=false:=by simpa using nY
   have kD:m1.e.d9=true:=by
    rcases zi hf uL with h | ⟨e',rfl⟩
    ·exact h
    ·cases m <;> simp[OT.fits] at hf
     simp only[ai,hole,List.any_nil,Bool.false_eq_true,if_false,Md.own] at h
     exact sZ hf h.2.1
   refine ⟨fun _ _=>0,fun _ _=>Nat.zero_le _,fun A' hA gU=>?_⟩
   have ls:=ai.ox hA _ h (fun b i hp=>gU b i hp rfl)
   simp only[ai,hole,List.any_nil,Bool.false_eq_true,if_false,uL]
   exact ⟨trivial,kD,ls⟩
 | arr n e ih=>intro m m1 v cs F hf h hF;exact ⟨fun _ _=>0,fun _ _=>Nat.zero_le _,fun A' hA gU=>⟨rfl,Ro.mono (fun _ _ _ _ h=>h) hA _ h.2⟩⟩
 | map k v Kz KA=>
  intro m m1 x cs F hf h hF
  by_cases nY:m1.own=true
  ·have hm:=wN hf nY
   simp only[ai,hole,List.any_nil,Bool.false_eq_true,if_false,hm,if_true] at h
   obtain ⟨h1,Y,r,jW,h3,h4,h5,h6,h7⟩:=h
   refine ⟨F,fun _ _=>Nat.le_refl _,fun A' hA gU=>?_⟩
   simp only[ai,hole,List.any_nil,Bool.false_eq_true,if_false,nY,if_true]
   refine ⟨h1,Y,r,jW,h3,h4,h5,h6,fun i y hy=>?_⟩
   obtain ⟨kc,vc,g1,g2,g3⟩:=h7 i y hy
   exact ⟨kc,vc,g1,Ro.mono (fun _ _ _ _ h=>h) hA k g2,Ro.mono (fun _ _ _ _ h=>h) hA v g3⟩
  ·have uL:m1.own=false:=by simpa using nY
   have kD:m1.e.d9=true:=by
    rcases zi hf uL with h | ⟨e',rfl⟩
    ·exact h
    ·cases m <;> simp[OT.fits] at hf
     simp only[ai,hole,List.any_nil,Bool.false_eq_true,if_false,Md.own] at h
     exact sZ hf h.2.1
   refine ⟨fun _ _=>0,fun _ _=>Nat.zero_le _,fun A' hA gU=>?_⟩
   have ls:=ai.ox hA _ h (fun b i hp=>gU b i hp rfl)
   simp only[ai,hole,List.any_nil,Bool.false_eq_true,if_false,uL]
   exact ⟨trivial,kD,ls⟩
 | _=>intro m m1 v cs F hf h hF;exact ⟨fun _ _=>0,fun _ _=>Nat.zero_le _,fun A' hA gU=>Ro.mono (fun _ _ _ _ h=>h) hA _ h⟩
end
end OT
set_option linter.unusedVariables false
set_option linter.unusedSimpArgs false
namespace OT
open Go
def rd (w:World) (b o n:Nat):List Value:=(List.range n).map fun j=>(ce w b (o+j)).getD undef
theorem pB (w:World) (b o n:Nat):(rd w b o n).length=n:=by simp[rd]
theorem bt {w:World} {b o:Nat} {L:List Value} {n:Nat} (h:Has w b o L) (hn:L.length=n):rd w b o n=L:=by
 subst hn
 apply List.ext_getElem?
 intro j
 unfold rd
 rw[List.getElem?_map]
 by_cases hj:j < L.length
 ·rw[List.getElem?_range hj]
  have:=h j L[j] (List.getElem?_eq_getElem hj)
  simp[this,List.getElem?_eq_getElem hj]
 ·simp[List.getElem?_eq_none (Nat.le_of_not_lt hj),List.getElem?_eq_none (l:=List.range L.length) (by simpa using Nat.le_of_not_lt hj)]
structure Pl where
 t:Ty
 H:List Path
 cs:List Value
 ad:Option (Nat×Nat)
def cv (ad:Option (Nat×Nat)) (k:Nat):Option (Nat×Nat):=ad.map fun x=>(x.1,x.2+k)
def aG (w:World):Path->Ty->List Path->List Value->Option (Nat×Nat)->Option Pl
 | [],t,H,cs,ad=>some ⟨t,H,cs,ad⟩
 | .fst::p,.pair a _,H,cs,ad=>if hole H then none else aG w p a (H.filterMap nt) (cs.take a.sz) ad
 | .snd::p,.pair a b,H,cs,ad=>if hole H then none else aG w p b (H.filterMap nu) (cs.drop a.sz) (cv ad a.sz)
 | .idx i::p,.U e,H,cs,_=>if hole H then none else match cs with
  | [.slice (some a) n _]=>if i < n then aG w p e (H.filterMap (gb i)) (rd w a.block (a.off+i*e.sz) e.sz) (some (a.block,a.off+i*e.sz)) else none
  | _=>none
 | .iW i::p,.arr n e,H,cs,ad=>if H.isEmpty then (if i < n then aG w p e [] ((cs.drop (i*e.sz)).take e.sz) (cv ad (i*e.sz)) else none) else none
 | _,_,_,_,_=>none
def nD:Ty->Bool
 | .U _ | .map _ _=>true
 | _=>false
def kE (d:Nat) (full:Prop) (w:World) (t:Ty) (H:List Path) (cs:List Value) (ad:Option (Nat×Nat)) (w2:World) (H2:List Path) (bh:List Value):Prop:=
 ∀ q pl,bk q<=d->aG w q t H cs ad=some pl->∃ H' aJ,aG w2 q t H2 bh ad=some ⟨pl.t,H',aJ,pl.ad⟩/\((bk q < d/\nD pl.t=true)\/full->aJ=pl.cs)
theorem uM {R:Type} {H:List Path} {i:Nat} {K:List Path->Option R} {r:R} (h:o6 H i K=some r) :
  K (H.filterMap (gb i))=some r/\(∀ j,j≠i->H.filterMap (gb j)=[])/\hole H=false:=by
 unfold o6 at h
 split at h
 ·exact ⟨h,fun _ _=>rfl,rfl⟩
 ·rename_i j q
  split at h
  ·rename_i iX;subst iX
   refine ⟨by simpa [gb] using h,fun j hj=>by simp[gb,hj],rfl⟩
  ·cases h
 ·cases h
theorem s7 {R S:Type} {H:List Path} {i:Nat} {K:List Path->Option R} {r:R} (h:o6 H i K=some r) (K2:List Path->Option S) :
  o6 H i K2=K2 (H.filterMap (gb i)):=by
 unfold o6 at h ⊢
 split at h
 ·rfl
 ·rename_i j q
  split at h
  ·rename_i iX;subst iX
   simp[gb]
  ·cases h
 ·cases h
theorem ma (H:List Path):(H.map (.fst::·)).filterMap nt=H:=by
 induction H with
 | nil=>rfl
 | cons a H ih=>simp only[List.map_cons,List.filterMap_cons,nt,ih]
theorem mb (H:List Path):(H.map (.snd::·)).filterMap nu=H:=by
 induction H with
 | nil=>rfl
 | cons a H ih=>simp only[List.map_cons,List.filterMap_cons,nu,ih]
theorem mD (H:List Path):(H.map (.snd::·)).filterMap nt=[]:=by
 induction H with
 | nil=>rfl
 | cons a H ih=>simp[nt] at *
theorem mE (H:List Path):(H.map (.fst::·)).filterMap nu=[]:=by
 induction H with
 | nil=>rfl
 | cons a H ih=>simp[nu] at *
theorem uk (i:Nat) (H:List Path):(H.map (.idx i::·)).filterMap (gb i)=H:=by
 induction H with
 | nil=>rfl
 | cons a H ih=>simp only[List.map_cons,List.filterMap_cons,gb,if_true,ih]
theorem qK {i j:Nat} (h:j≠i) (H:List Path):(H.map (.idx i::·)).filterMap (gb j)=[]:=by
 induction H with
 | nil=>rfl
 | cons a H ih=>simp[gb,h] at *
theorem jG (s:Step) (H:List Path):hole (H.map (s::·))=false:=by
 induction H with
 | nil=>rfl
 | cons a H ih=>simp[hole] at *
theorem lg (H1 H2:List Path):hole (H1++H2)=(hole H1||hole H2):=by simp[hole]
theorem Of {w:World}:∀ (q:Path) (t:Ty) {H H2:List Path} {cs:List Value} {ad:Option (Nat×Nat)} {pl Bt:Pl},aG w q t H cs ad=some pl->aG w q t H2 cs ad=some Bt->Bt.t=pl.t/\Bt.cs=pl.cs/\Bt.ad=pl.ad:=by
 intro q
 induction q with
 | nil=>intro t H H2 cs ad pl Bt h Y;simp only[aG,Option.some.injEq] at h Y;subst h;subst Y;exact ⟨rfl,rfl,rfl⟩
 | cons s q ih=>
  intro t H H2 cs ad pl Bt h Y
  cases t with
  | pair a b=>
   cases s with
   | fst=>simp only[aG] at h Y;split at h;cases h;split at Y;cases Y;exact ih a h Y
   | snd=>simp only[aG] at h Y;split at h;cases h;split at Y;cases Y;exact ih b h Y
   | _=>simp[aG] at h
  | U e=>
   cases s with
   | idx i=>
    simp only[aG] at h Y
    split at h
    ·cases h
    ·split at Y
     ·cases Y
     ·split at h
      ·split at h
       ·rename_i hi;simp only[hi,if_true] at Y;exact ih e h Y
       ·cases h
      ·cases h
   | _=>simp[aG] at h
  | arr n e=>
   cases s with
   | iW i=>
    simp only[aG] at h Y
    split at h
    ·split at h
     ·split at Y
      ·exact ih e h Y
      ·cases Y
     ·cases h
    ·cases h
   | _=>simp[aG] at h
  | _=>cases s <;> simp[aG] at h
section
variable {P:Program}
theorem nZ {w w2:World} {A:Cells} (hA:∀ b i,A b i->∀ u,ce w b i=some u->ce w2 b i=some u) :
  ∀ (q:Path) (t:Ty) {m:Md} {H:List Path} {v:t.den} {cs:List Value} {F:FP} {ad:Option (Nat×Nat)} {pl:Pl},ai P w A t m H v cs F->(∀ b i,1<=F b i->∀ u,ce w b i=some u->ce w2 b i=some u) ->
  aG w q t H cs ad=some pl->aG w2 q t H cs ad=some pl:=by
 intro q
 induction q with
 | nil=>intro t m H v cs F ad pl _ _ h;exact h
 | cons s q ih=>
  intro t m H v cs F ad pl hr hF h
  cases t with
  | pair a b=>
   obtain ⟨h0,F1,F2,hs,h1,Y⟩:=hr
   cases s with
   | fst=>simp only[aG,h0,if_false] at h ⊢;exact ih a h1 (fun b i hp=>hF b i (by have:=hs b i;omega)) h
   | snd=>simp only[aG,h0,if_false] at h ⊢;exact ih b Y (fun b i hp=>hF b i (by have:=hs b i;omega)) h
   | idx i=>simp[aG] at h
   | iW i=>simp[aG] at h
  | U e=>
   cases s with
   | fst=>simp[aG] at h
   | snd=>simp[aG] at h
   | iW i=>simp[aG] at h
   | idx i=>
    simp only[ai] at hr
    simp only[aG] at h ⊢
    split at h
    ·cases h
    ·rename_i hh
     rw[if_neg hh]
     rw[if_neg hh] at hr
     split at hr
     ·obtain ⟨a,cap,rfl,Y,h3,h4,h5⟩:=hr
      cases a with
      | none=>cases h
      | some bZ=>
       obtain ⟨g1,g2,g3,Fi,g4,g5⟩:=h5 bZ rfl
       simp only at h ⊢
       split at h
       ·rename_i hi
        rw[if_pos hi]
        obtain ⟨L,hl,hL,cx⟩:=g5 i _ (List.getElem?_eq_getElem hi)
        have aj:(i+1)*e.sz<=cap*e.sz:=Nat.mul_le_mul_right _ (by omega)
        rw[Nat.add_mul] at aj
        have Q8:Has w2 bZ.block (i*e.sz) L:=fun j u hu=>by
         have hj:j < e.sz:=hl ▸ (List.getElem?_eq_some_iff.1 hu).1
         refine hF _ _ ?_ u (hL j u hu)
         have:=g4 bZ.block (i*e.sz+j)
         have h0:i*e.sz+j < cap*e.sz:=by omega
         simp[bj,h0] at this;omega
        rw[g1,Nat.zero_add,bt hL hl] at h
        rw[g1,Nat.zero_add,bt Q8 hl]
        exact ih e cx (fun b k hp=>hF b k (by have:=g4 b k;have:=be Fi hi b k;omega)) h
       ·cases h
     ·obtain ⟨rfl,kD,a,cap,rfl,Y,h3,h4⟩:=hr
      cases a with
      | none=>cases h
      | some bZ=>
       simp only at h ⊢
       split at h
       ·rename_i hi
        rw[if_pos hi]
        obtain ⟨L,hl,hL,cx⟩:=(h4 bZ rfl).2 i _ (List.getElem?_eq_getElem hi)
        rw[bt (fun j u hu=>(hL j u hu).1) hl] at h
        rw[bt (fun j u hu=>hA _ _ (hL j u hu).2 u (hL j u hu).1) hl]
        exact ih e (Ro.rep e (fun _ _=>0) kD cx) (fun b k hp=>by simp at hp) h
       ·cases h
  | arr n e=>
   cases s with
   | fst=>simp[aG] at h
   | snd=>simp[aG] at h
   | idx i=>simp[aG] at h
   | iW i=>
    obtain ⟨rfl,hf,hl,hlen,hr⟩:=hr
    simp only[aG,List.isEmpty_nil,if_true] at h ⊢
    split at h
    ·rename_i hi
     rw[if_pos hi]
     exact ih e (Ro.flat e (m:=.leaf) (fun _ _=>0) hf (hr i _ (List.getElem?_eq_getElem (by rw[hl];exact hi)))) (fun b k hp=>by simp at hp) h
    ·cases h
  | _=>cases s <;> simp[aG] at h
theorem Hn {w:World} {A:Cells} {S:Nat->Nat->Prop} (hA:∀ b i,A b i->S b i) :
  ∀ (q:Path) (t:Ty) {m:Md} {H:List Path} {v:t.den} {cs:List Value} {F:FP} {ad:Option (Nat×Nat)} {pl:Pl},ai P w A t m H v cs F->(∀ b i,1<=F b i->S b i) ->
  (∀ b o,ad=some (b,o)->∀ j,j < t.sz->S b (o+j))->aG w q t H cs ad=some pl->∀ b o,pl.ad=some (b,o)->∀ j,j < pl.t.sz->S b (o+j):=by
 intro q
 induction q with
 | nil=>intro t m H v cs F ad pl _ _ cO h;simp only[aG,Option.some.injEq] at h;subst h;exact cO
 | cons s q ih=>
  intro t m H v cs F ad pl hr hF cO h
  cases t with
  | pair a b=>
   obtain ⟨h0,F1,F2,hs,h1,Y⟩:=hr
   cases s with
   | fst=>simp only[aG,h0,if_false] at h;exact ih a h1 (fun b i hp=>hF b i (by have:=hs b i;omega)) (fun b' o e j hj=>cO b' o e j (by simp only[Ty.sz];omega)) h
   | snd=>
    simp only[aG,h0,if_false] at h
    refine ih b Y (fun b i hp=>hF b i (by have:=hs b i;omega)) (fun b' o e j hj=>?_) h
    cases ad with
    | none=>cases e
    | some y=>
     simp only[cv,Option.map_some,Option.some.injEq,Prod.mk.injEq] at e
     obtain ⟨rfl,rfl⟩:=e
     have:=cO y.1 y.2 rfl (a.sz+j) (by simp only[Ty.sz];omega)
     rwa [Nat.add_assoc]
   | idx i=>simp[aG] at h
   | iW i=>simp[aG] at h
  | U e=>
   cases s with
   | fst=>simp[aG] at h
   | snd=>simp[aG] at h
   | iW i=>simp[aG] at h
   | idx i=>
    simp only[ai] at hr
    simp only[aG] at h
    split at h
    ·cases h
    ·rename_i hh
     rw[if_neg hh] at hr
     split at hr
     ·obtain ⟨a,cap,rfl,Y,h3,h4,h5⟩:=hr
      cases a with
      | none=>cases h
      | some bZ=>
       obtain ⟨g1,g2,g3,Fi,g4,g5⟩:=h5 bZ rfl
       simp only at h
       split at h
       ·rename_i hi
        obtain ⟨L,hl,hL,cx⟩:=g5 i _ (List.getElem?_eq_getElem hi)
        have aj:(i+1)*e.sz<=cap*e.sz:=Nat.mul_le_mul_right _ (by omega)
        rw[Nat.add_mul] at aj
        rw[g1,Nat.zero_add,bt hL hl] at h
        refine ih e cx (fun b k hp=>hF b k (by have:=g4 b k;have:=be Fi hi b k;omega)) (fun b' o e' j hj=>?_) h
        simp only[Option.some.injEq,Prod.mk.injEq] at e'
        obtain ⟨rfl,rfl⟩:=e'
        refine hF _ _ ?_
        have:=g4 bZ.block (i*e.sz+j)
        have h0:i*e.sz+j < cap*e.sz:=by omega
        simp[bj,h0] at this;omega
       ·cases h
     ·obtain ⟨rfl,kD,a,cap,rfl,Y,h3,h4⟩:=hr
      cases a with
      | none=>cases h
      | some bZ=>
       simp only at h
       split at h
       ·rename_i hi
        obtain ⟨L,hl,hL,cx⟩:=(h4 bZ rfl).2 i _ (List.getElem?_eq_getElem hi)
        rw[bt (fun j u hu=>(hL j u hu).1) hl] at h
        refine ih e (Ro.rep e (fun _ _=>0) kD cx) (fun b k hp=>by simp at hp) (fun b' o e' j hj=>?_) h
        simp only[Option.some.injEq,Prod.mk.injEq] at e'
        obtain ⟨rfl,rfl⟩:=e'
        exact hA _ _ (hL j _ (List.getElem?_eq_getElem (by omega))).2
       ·cases h
  | arr n e=>
   cases s with
   | fst=>simp[aG] at h
   | snd=>simp[aG] at h
   | idx i=>simp[aG] at h
   | iW i=>
    obtain ⟨rfl,hf,hl,hlen,hr⟩:=hr
    simp only[aG,List.isEmpty_nil,if_true] at h
    split at h
    ·rename_i hi
     refine ih e (Ro.flat e (m:=.leaf) (fun _ _=>0) hf (hr i _ (List.getElem?_eq_getElem (by rw[hl];exact hi)))) (fun b k hp=>by simp at hp) (fun b' o e' j hj=>?_) h
     cases ad with
     | none=>cases e'
     | some y=>
      simp only[cv,Option.map_some,Option.some.injEq,Prod.mk.injEq] at e'
      obtain ⟨rfl,rfl⟩:=e'
      have aj:(i+1)*e.sz<=n*e.sz:=Nat.mul_le_mul_right _ hi
      rw[Nat.add_mul] at aj
      have:=cO y.1 y.2 rfl (i*e.sz+j) (by simp only[Ty.sz];omega)
      rwa [Nat.add_assoc]
    ·cases h
  | _=>cases s <;> simp[aG] at h
theorem LI {w:World} {A:Cells} :
  ∀ (q:Path) (t:Ty) {m:Md} {H:List Path} {v:t.den} {cs:List Value} {F:FP} {ad:Option (Nat×Nat)} {pl:Pl},ai P w A t m H v cs F ->
  (∀ b o,ad=some (b,o)->Has w b o cs)->aG w q t H cs ad=some pl->(∀ b o,pl.ad=some (b,o)->Has w b o pl.cs)/\∃ (m':Md) (v':pl.t.den) (F':FP),ai P w A pl.t m' pl.H v' pl.cs F':=by
 intro q
 induction q with
 | nil=>intro t m H v cs F ad pl hr cO h;simp only[aG,Option.some.injEq] at h;subst h;exact ⟨cO,m,v,F,hr⟩
 | cons s q ih=>
  intro t m H v cs F ad pl hr cO h
  cases t with
  | pair a b=>
   obtain ⟨h0,F1,F2,hs,h1,Y⟩:=hr
   cases s with
   | fst=>
    simp only[aG,h0,if_false] at h
    exact ih a h1 (fun b' o e j u hu=>cO b' o e j u (by rw[List.getElem?_take] at hu;split at hu;exact hu;cases hu)) h
   | snd=>
    simp only[aG,h0,if_false] at h
    refine ih b Y (fun b' o e j u hu=>?_) h
    cases ad with
    | none=>cases e
    | some y=>
     simp only[cv,Option.map_some,Option.some.injEq,Prod.mk.injEq] at e
     obtain ⟨rfl,rfl⟩:=e
     rw[List.getElem?_drop] at hu
     have:=cO y.1 y.2 rfl (a.sz+j) u hu
     rwa [Nat.add_assoc]
   | idx i=>simp[aG] at h
   | iW i=>simp[aG] at h
  | U e=>
   cases s with
   | fst=>simp[aG] at h
   | snd=>simp[aG] at h
   | iW i=>simp[aG] at h
   | idx i=>
    simp only[ai] at hr
    simp only[aG] at h
    split at h
    ·cases h
    ·rename_i hh
     rw[if_neg hh] at hr
     split at hr
     ·obtain ⟨a,cap,rfl,Y,h3,h4,h5⟩:=hr
      cases a with
      | none=>cases h
      | some bZ=>
       obtain ⟨g1,g2,g3,Fi,g4,g5⟩:=h5 bZ rfl
       simp only at h
       split at h
       ·rename_i hi
        obtain ⟨L,hl,hL,cx⟩:=g5 i _ (List.getElem?_eq_getElem hi)
        rw[g1,Nat.zero_add,bt hL hl] at h
        refine ih e cx (fun b' o e'=>?_) h
        simp only[Option.some.injEq,Prod.mk.injEq] at e'
        obtain ⟨rfl,rfl⟩:=e'
        exact hL
       ·cases h
     ·obtain ⟨rfl,kD,a,cap,rfl,Y,h3,h4⟩:=hr
      cases a with
      | none=>cases h
      | some bZ=>
       simp only at h
       split at h
       ·rename_i hi
        obtain ⟨L,hl,hL,cx⟩:=(h4 bZ rfl).2 i _ (List.getElem?_eq_getElem hi)
        rw[bt (fun j u hu=>(hL j u hu).1) hl] at h
        refine ih e (Ro.rep e (fun _ _=>0) kD cx) (fun b' o e'=>?_) h
        simp only[Option.some.injEq,Prod.mk.injEq] at e'
        obtain ⟨rfl,rfl⟩:=e'
        exact fun j u hu=>(hL j u hu).1
       ·cases h
  | arr n e=>
   cases s with
   | fst=>simp[aG] at h
   | snd=>simp[aG] at h
   | idx i=>simp[aG] at h
   | iW i=>
    obtain ⟨rfl,hf,hl,hlen,hr⟩:=hr
    simp only[aG,List.isEmpty_nil,if_true] at h
    split at h
    ·rename_i hi
     refine ih e (Ro.flat e (m:=.leaf) (fun _ _=>0) hf (hr i _ (List.getElem?_eq_getElem (by rw[hl];exact hi)))) (fun b' o e' j u hu=>?_) h
     cases ad with
     | none=>cases e'
     | some y=>
      simp only[cv,Option.map_some,Option.some.injEq,Prod.mk.injEq] at e'
      obtain ⟨rfl,rfl⟩:=e'
      rw[List.getElem?_take] at hu
      split at hu
      ·rw[List.getElem?_drop] at hu
       have:=cO y.1 y.2 rfl (i*e.sz+j) u hu
       rwa [Nat.add_assoc]
      ·cases hu
    ·cases h
  | _=>cases s <;> simp[aG] at h
theorem rE {w w2:World} {A A2:Cells} :
  ∀ (q:Path) (t:Ty) {m m2:Md} {H H2:List Path} {v v2:t.den} {cs bh:List Value} {F F2:FP} {ad:Option (Nat×Nat)} {pl:Pl},
  ai P w2 A2 t m2 H2 v2 bh F2->(bk q=0\/t.flat=true) ->
  aG w q t H cs ad=some pl->∃ H' aJ,aG w2 q t H2 bh ad=some ⟨pl.t,H',aJ,pl.ad⟩/\(t.flat=true->nD pl.t=false):=by
 intro q
 induction q with
 | nil=>
  intro t m m2 H H2 v v2 cs bh F F2 ad pl hr hq h
  simp only[aG,Option.some.injEq] at h
  subst h
  exact ⟨_,_,rfl,fun hf=>by cases t <;> simp_all [Ty.flat,nD]⟩
 | cons s q ih=>
  intro t m m2 H H2 v v2 cs bh F F2 ad pl hr hq h
  cases t with
  | pair a b=>
   obtain ⟨h0,F1,F2,hs,h1,Y⟩:=hr
   simp only[Ty.flat,Bool.and_eq_true] at hq ⊢
   cases s with
   | fst=>
    simp only[aG,h0,if_false] at h ⊢
    split at h
    ·cases h
    ·obtain ⟨H',aJ,h3,h4⟩:=ih a (v:=v.1) (m:=.leaf) (F:=F) h1 (hq.imp (fun h=>by simpa [bk] using h) (·.1)) h
     exact ⟨H',aJ,by simpa using h3,fun hf=>h4 hf.1⟩
   | snd=>
    simp only[aG,h0,if_false] at h ⊢
    split at h
    ·cases h
    ·obtain ⟨H',aJ,h3,h4⟩:=ih b (v:=v.2) (m:=.leaf) (F:=F) Y (hq.imp (fun h=>by simpa [bk] using h) (·.2)) h
     exact ⟨H',aJ,by simpa using h3,fun hf=>h4 hf.2⟩
   | idx i=>simp[aG] at h
   | iW i=>simp[aG] at h
  | U e=>
   cases s with
   | fst=>simp[aG] at h
   | snd=>simp[aG] at h
   | iW i=>simp[aG] at h
   | idx i=>simp[bk,Ty.flat] at hq
  | arr n e=>
   cases s with
   | fst=>simp[aG] at h
   | snd=>simp[aG] at h
   | idx i=>simp[aG] at h
   | iW i=>
    obtain ⟨rfl,hf,hl,hlen,hr⟩:=hr
    simp only[aG,List.isEmpty_nil,if_true] at h ⊢
    split at h
    ·split at h
     ·rename_i hi
      rw[if_pos hi]
      obtain ⟨H',aJ,h3,h4⟩:=ih e (v:=e.zero) (m:=.leaf) (F:=F) (Ro.flat e (m:=.leaf) (fun _ _=>0) hf (hr i _ (List.getElem?_eq_getElem (by rw[hl];exact hi)))) (.inr hf) h
      exact ⟨H',aJ,h3,fun _=>h4 hf⟩
     ·cases h
    ·cases h
  | _=>cases s <;> simp[aG] at h
theorem kE.zero {w w2:World} {A A2:Cells} {t:Ty} {m2:Md} {H H2:List Path} {v2:t.den} {cs bh:List Value} {F2:FP} (ad:Option (Nat×Nat)) (h:ai P w2 A2 t m2 H2 v2 bh F2):kE 0 False w t H cs ad w2 H2 bh:=by
 intro q pl hq hp
 obtain ⟨H',aJ,h1,_⟩:=rE (A:=A) (m:=m2) (v:=v2) (F:=F2) q t h (.inl (by omega)) hp
 exact ⟨H',aJ,h1,fun h=>by rcases h with h | h;omega;exact h.elim⟩
theorem kE.flat {w w2:World} {A A2:Cells} {t:Ty} {m2:Md} {H H2:List Path} {v2:t.den} {cs bh:List Value} {F2:FP} (ad:Option (Nat×Nat)) (h:ai P w2 A2 t m2 H2 v2 bh F2) (hf:t.flat=true) (d:Nat):kE d False w t H cs ad w2 H2 bh:=by
 intro q pl hq hp
 obtain ⟨H',aJ,h1,Y⟩:=rE (A:=A) (m:=m2) (v:=v2) (F:=F2) q t h (.inr hf) hp
 exact ⟨H',aJ,h1,fun h=>by rcases h with ⟨_,hs⟩ | h;rw[Y hf] at hs;cases hs;exact h.elim⟩
theorem kE.same {w w2:World} {A:Cells} {t:Ty} {m:Md} {H:List Path} {v:t.den} {cs:List Value} {F:FP} (ad:Option (Nat×Nat)) (h:ai P w A t m H v cs F)
  (hA:∀ b i,A b i->∀ u,ce w b i=some u->ce w2 b i=some u) (hF:∀ b i,1<=F b i->∀ u,ce w b i=some u->ce w2 b i=some u) (d:Nat) (full:Prop):kE d full w t H cs ad w2 H cs:=by
 intro q pl hq hp
 exact ⟨pl.H,pl.cs,nZ hA q t h hF hp,fun _=>rfl⟩
end
end OT
set_option linter.unusedVariables false
set_option linter.unusedSimpArgs false
namespace OT
open Go
def qL (cs:List Value) (off:Nat) (n:Nat) (c2:List Value):List Value:=cs.take off++c2++cs.drop (off+n)
def eR (loc:Option Nat) (cs:List Value) (n:Nat) (c2:List Value):List Value:=match loc with
 | some off=>qL cs off n c2
 | none=>cs
theorem m7 {cs c2:List Value} {off n:Nat} (h:off+n<=cs.length) (Y:c2.length=n):(qL cs off n c2).length=cs.length:=by
 simp[qL];omega
theorem qM {cs:List Value} {off n:Nat} (h:off+n<=cs.length):qL cs off n ((cs.drop off).take n)=cs:=by
 unfold qL
 rw[List.append_assoc]
 have:(cs.drop off).take n++cs.drop (off+n)=cs.drop off:=by
  rw[<-List.drop_drop];exact List.take_append_drop n (cs.drop off)
 rw[this];exact List.take_append_drop off cs
theorem sx {cs c2:List Value} {off n:Nat} (h:off+n<=cs.length) (Y:c2.length=n) (j:Nat):(qL cs off n c2)[j]?=if off<=j/\j < off+n then c2[j - off]? else cs[j]?:=by
 unfold qL
 rw[List.getElem?_append,List.getElem?_append]
 simp only[List.length_append,List.length_take]
 have h1:min off cs.length=off:=by omega
 rw[h1,Y]
 split
 ·split
  ·rw[if_neg (by omega),List.getElem?_take,if_pos (by omega)]
  ·rw[if_pos (by omega)]
 ·rw[if_neg (by omega),List.getElem?_drop]
  congr 1;omega
theorem LJ {cs c2:List Value} {k n' off n:Nat} (h:off+n<=n') (h':k+n'<=cs.length) (Y:c2.length=n) :
  qL cs k n' (qL ((cs.drop k).take n') off n c2)=qL cs (k+off) n c2:=by
 have hl:((cs.drop k).take n').length=n':=by simp;omega
 apply List.ext_getElem?
 intro j
 rw[sx h' (by rw[m7 (by omega) Y,hl]),sx (by omega) Y,sx (by omega) Y]
 by_cases h3:k<=j/\j < k+n'
 ·rw[if_pos h3]
  by_cases h4:off<=j - k/\j - k < off+n
  ·rw[if_pos h4,if_pos (by omega)];congr 1;omega
  ·rw[if_neg h4,if_neg (by omega),List.getElem?_take,if_pos (by omega),List.getElem?_drop];congr 1;omega
 ·rw[if_neg h3,if_neg (by omega)]
theorem Es {w2:World} {b o:Nat} {cs c2:List Value} {off n:Nat} (h:off+n<=cs.length) (Y:c2.length=n)
  (hc:Has w2 b (o+off) c2) (hk:∀ j u,cs[j]?=some u->¬ (off<=j/\j < off+n)->ce w2 b (o+j)=some u):Has w2 b o (qL cs off n c2):=by
 intro j u hu
 rw[sx h Y] at hu
 split at hu
 ·have:=hc _ u hu
  rw[show o+off+(j - off)=o+j by omega] at this
  exact this
 ·exact hk j u hu (by assumption)
section
variable {P:Program} {R:Type}
theorem Mw {w:World} {A:Cells} {r:R}:∀ (p:Path) (t:Ty) {m:Md} {H:List Path} {v:t.den} {cs:List Value} {F:FP} {ad:Option (Nat×Nat)} {K:(t':Ty)->Md->List Path->t'.den->Option R},
  gW p t m H v K=some r->ai P w A t m H v cs F->(∀ b o,ad=some (b,o)->Has w b o cs) ->
  ∃ (t':Ty) (m':Md) (H':List Path) (v':t'.den) (aJ:List Value) (aZ:Option (Nat×Nat)) (F':FP),K t' m' H' v'=some r/\(∀ {S:Type} (K0:(t:Ty)->Md->List Path->t.den->Option S),gW p t m H v K0=K0 t' m' H' v')/\aG w p t H cs ad=some ⟨t',H',aJ,aZ⟩/\ai P w A t' m' H' v' aJ F' /\
   (∀ b i,F' b i<=F b i)/\(∀ b o,aZ=some (b,o)->Has w b o aJ)/\(ad.isSome=true->aZ.isSome=true):=by
 intro p
 induction p with
 | nil=>intro t m H v cs F ad K h hr cO;exact ⟨t,m,H,v,cs,ad,F,h,fun _=>rfl,rfl,hr,fun _ _=>Nat.le_refl _,cO,fun h=>h⟩
 | cons s p ih=>
  intro t m H v cs F ad K h hr cO
  cases t with
  | pair a b=>
   obtain ⟨h0,F1,F2,hs,h1,Y⟩:=hr
   have hle:=ai.length a h1
   have Bu:=ai.length b Y
   simp only[List.length_take,List.length_drop] at hle Bu
   cases s with
   | fst=>
    have o4:H.any (·.isEmpty)=false:=h0
    simp only[gW,o4] at h
    obtain ⟨t',m',H',v',aJ,aZ,F',k1,kn,k2,k3,k4,k5,k6⟩:=ih a h h1 (ad:=ad) (fun b o hb j u hu=>by
     rw[List.getElem?_take] at hu;split at hu;exact cO b o hb j u hu;cases hu)
    exact ⟨t',m',H',v',aJ,aZ,F',k1,fun K0=>by simp only[gW,o4];exact kn K0,by simp only[aG,h0];exact k2,k3,fun b i=>by have:=hs b i;have:=k4 b i;omega,k5,k6⟩
   | snd=>
    have o4:H.any (·.isEmpty)=false:=h0
    simp only[gW,o4] at h
    obtain ⟨t',m',H',v',aJ,aZ,F',k1,kn,k2,k3,k4,k5,k6⟩:=ih b h Y (ad:=cv ad a.sz) (fun b' o hb j u hu=>by
     cases ad with
     | none=>cases hb
     | some x=>
      simp only[cv,Option.map_some,Option.some.injEq,Prod.mk.injEq] at hb
      obtain ⟨rfl,rfl⟩:=hb
      rw[List.getElem?_drop] at hu
      have:=cO x.1 x.2 rfl _ u hu
      rwa [Nat.add_assoc])
    exact ⟨t',m',H',v',aJ,aZ,F',k1,fun K0=>by simp only[gW,o4];exact kn K0,by simp only[aG,h0];exact k2,k3,fun b i=>by have:=hs b i;have:=k4 b i;omega,k5,fun h=>k6 (by cases ad <;> simp_all [cv])⟩
   | idx i=>simp[gW] at h
   | iW i=>simp[gW] at h
  | U e=>
   cases s with
   | fst=>simp[gW] at h
   | snd=>simp[gW] at h
   | iW i=>simp[gW] at h
   | idx i=>
    simp only[gW] at h
    obtain ⟨h1,Y,h3⟩:=uM h
    cases hx:(v:List e.den)[i]? with
    | none=>rw[hx] at h1;cases h1
    | some x=>
     rw[hx] at h1
     simp only[Option.bind_some] at h1
     have hi:i < List.length v:=(List.getElem?_eq_some_iff.1 hx).1
     simp only[ai,h3,Bool.false_eq_true,if_false] at hr
     split at hr
     ·obtain ⟨a,cap,rfl,g2,g3,g4,g5⟩:=hr
      cases a with
      | none=>have:=g4 rfl;omega
      | some bZ=>
       obtain ⟨q1,q2,q3,Fi,q4,q5⟩:=g5 bZ rfl
       obtain ⟨L,hl,hL,cx⟩:=q5 i x hx
       obtain ⟨t',m',H',v',aJ,aZ,F',k1,kn,k2,k3,k4,k5,k6⟩:=ih e h1 cx (ad:=some (bZ.block,i*e.sz)) (fun b o hb=>by
        simp only[Option.some.injEq,Prod.mk.injEq] at hb;obtain ⟨rfl,rfl⟩:=hb;exact hL)
       refine ⟨t',m',H',v',aJ,aZ,F',k1,fun K0=>by simp only[gW];rw[s7 h,hx];exact kn K0,?_,k3,fun b k=>?_,k5,fun _=>k6 rfl⟩
       ·simp only[aG,h3,Bool.false_eq_true,if_false,hi,if_true,q1,Nat.zero_add,bt hL hl];exact k2
       ·have:=k4 b k;have:=q4 b k;have:=be Fi hi b k;omega
     ·obtain ⟨rfl,kD,a,cap,rfl,g2,g3,g4⟩:=hr
      cases a with
      | none=>have:=g3 rfl;omega
      | some bZ=>
       obtain ⟨L,hl,hL,cx⟩:=(g4 bZ rfl).2 i x hx
       have KB:Has w bZ.block (bZ.off+i*e.sz) L:=fun j u hu=>(hL j u hu).1
       obtain ⟨t',m',H',v',aJ,aZ,F',k1,kn,k2,k3,k4,k5,k6⟩:=ih e h1 (Ro.rep e (fun _ _=>0) kD cx) (ad:=some (bZ.block,bZ.off+i*e.sz)) (fun b o hb=>by
        simp only[Option.some.injEq,Prod.mk.injEq] at hb;obtain ⟨rfl,rfl⟩:=hb;exact KB)
       refine ⟨t',m',H',v',aJ,aZ,F',k1,fun K0=>by simp only[gW];rw[s7 h,hx];exact kn K0,?_,k3,fun b k=>?_,k5,fun _=>k6 rfl⟩
       ·simp only[aG,h3,Bool.false_eq_true,if_false,hi,if_true,bt KB hl];exact k2
       ·have:=k4 b k;omega
  | arr n e=>
   cases s with
   | fst=>simp[gW] at h
   | snd=>simp[gW] at h
   | idx i=>simp[gW] at h
   | iW i=>
    obtain ⟨rfl,hf,hl,hlen,hr⟩:=hr
    simp only[gW,List.isEmpty_nil,if_true] at h
    cases hx:(v:List e.den)[i]? with
    | none=>rw[hx] at h;cases h
    | some x=>
     rw[hx] at h
     simp only[Option.bind_some] at h
     have hi:i < n:=hl ▸ (List.getElem?_eq_some_iff.1 hx).1
     obtain ⟨t',m',H',v',aJ,aZ,F',k1,kn,k2,k3,k4,k5,k6⟩:=ih e h (Ro.flat e (fun _ _=>0) hf (hr i x hx)) (ad:=cv ad (i*e.sz)) (fun b' o hb j u hu=>by
      cases ad with
      | none=>cases hb
      | some y=>
       simp only[cv,Option.map_some,Option.some.injEq,Prod.mk.injEq] at hb
       obtain ⟨rfl,rfl⟩:=hb
       rw[List.getElem?_take] at hu
       split at hu
       ·rw[List.getElem?_drop] at hu
        have:=cO y.1 y.2 rfl _ u hu
        rwa [Nat.add_assoc]
       ·cases hu)
     exact ⟨t',m',H',v',aJ,aZ,F',k1,fun K0=>by simp only[gW,List.isEmpty_nil,if_true,hx,Option.bind_some];exact kn K0,by simp only[aG,List.isEmpty_nil,if_true,hi];exact k2,k3,fun b k=>by have:=k4 b k;omega,k5,fun h=>k6 (by cases ad <;> simp_all [cv])⟩
  | _=>cases s <;> simp[gW] at h
structure Og (P:Program) (w:World) (A:Cells) {R:Type} (r:R) (p:Path) (t:Ty) (m:Md) (H:List Path) (v:t.den) (cs:List Value) (F:FP) (ad:Option (Nat×Nat))
  (f:(t':Ty)->Md->List Path->t'.den->(Md->List Path->t'.den->Option R)->Option R) (K:Md->List Path->t.den->Option R)
  (t':Ty) (m':Md) (H':List Path) (v':t'.den) (aJ:List Value) (aZ:Option (Nat×Nat)) (F' G:FP) (kk:Md->List Path->t'.den->Option R) (loc:Option Nat):Prop where
 run:f t' m' H' v' kk=some r
 Ho:∀ {S:Type} (K0:(t':Ty)->Md->List Path->t'.den->Option S),gW p t m H v K0=K0 t' m' H' v'
 place:aG w p t H cs ad=some ⟨t',H',aJ,aZ⟩
 rep:ai P w A t' m' H' v' aJ F'
 sum:∀ b i,F' b i+G b i<=F b i
 has:∀ b o,aZ=some (b,o)->Has w b o aJ
 mc:∀ off,loc=some off->off+t'.sz<=t.sz/\aJ=(cs.drop off).take t'.sz/\aZ=cv ad off
 Ft:1<=bk p->loc=none
 out:loc=none->∃ b o,aZ=some (b,o)/\∀ j,j < t'.sz->1<=G b (o+j)/\w.frozen? ⟨b,o+j,none⟩=false
 back:∀ m2 H2 (v2:t'.den),kk m2 H2 v2=some r->∀ (w2:World) (A2:Cells) (bh:List Value) (F2:FP),
  (∀ b n,de w b n->de w2 b n)->(∀ b i,A b i->A2 b i)->(∀ b i,A b i->∀ u,ce w b i=some u->ce w2 b i=some u) ->
  (∀ b i,1<=G b i->(∀ o,aZ=some (b,o)->¬ (o<=i/\i < o+t'.sz))->∀ u,ce w b i=some u->ce w2 b i=some u) ->
  (∀ b o,aZ=some (b,o)->Has w2 b o bh)->ai P w2 A2 t' m2 H2 v2 bh F2->(∀ b i,F2 b i+G b i<=1) ->
  ∃ m3 H3 v3 F3,K m3 H3 v3=some r/\(∀ b i,F3 b i<=F2 b i+G b i) /\
   (∀ A3:Cells,(∀ b i,A2 b i->A3 b i)->(∀ b i,1<=F2 b i+G b i->F3 b i=0->A3 b i)->ai P w2 A3 t m3 H3 v3 (eR loc cs t'.sz bh) F3) /\
   (∀ d full,kE d full w t' H' aJ aZ w2 H2 bh->kE (d+bk p) full w t H cs ad w2 H3 (eR loc cs t'.sz bh))
theorem de.frozen {w:World} {b:Nat} {n:Nat×Bool} (h:de w b n) {i:Nat} (hi:i < n.1):w.frozen? ⟨b,i,none⟩=false:=by
 obtain ⟨c,e,fr,h1,Y,h3,_⟩:=h
 obtain ⟨lo,eZ⟩:=fr
 have:=h3 i hi
 simp only[World.frozen?,h1]
 simp only[Bool.and_eq_false_iff,decide_eq_false_iff_not]
 simp only at this
 omega
theorem Mx {w:World} {A:Cells} {r:R}:∀ (p:Path) (t:Ty) {m:Md} {H:List Path} {v:t.den} {cs:List Value} {F:FP} {ad:Option (Nat×Nat)}
  {f:(t':Ty)->Md->List Path->t'.den->(Md->List Path->t'.den->Option R)->Option R} {K:Md->List Path->t.den->Option R},
  kd p t m H v f K=some r->ai P w A t m H v cs F->(∀ b i,F b i<=1)->(∀ b o,ad=some (b,o)->Has w b o cs)->(∀ b o,ad=some (b,o)->∀ j,j < t.sz->F b (o+j)=0) ->
  ∃ t' m' H' v' aJ aZ F' G kk loc,Og P w A r p t m H v cs F ad f K t' m' H' v' aJ aZ F' G kk loc:=by
 intro p
 induction p with
 | nil=>
  intro t m H v cs F ad f K h hr hF cO s8
  have hlen:=ai.length t hr
  refine ⟨t,m,H,v,cs,ad,F,fun _ _=>0,K,some 0,h,fun _=>rfl,rfl,hr,fun _ _=>by simp,cO,?_,(fun h=>by simp[bk] at h),(fun h=>by cases h),?_⟩
  ·intro off ho
   injection ho with ho;subst ho
   refine ⟨by omega,?_,?_⟩
   ·rw[List.drop_zero,<- hlen,List.take_length]
   ·cases ad <;> simp[cv]
  ·intro m2 H2 v2 hk w2 A2 bh F2 hb hA lu hG s9 nv hs
   have n7:=ai.length t nv
   have Qc:eR (some 0) cs t.sz bh=bh:=by
    simp[eR,qL,List.drop_eq_nil_of_le (show cs.length<=t.sz by omega)]
   rw[Qc]
   refine ⟨m2,H2,v2,F2,hk,fun _ _=>by simp,fun A3 jX _=>ai.mono jX (fun _ _ _ _ h=>h) (fun _ _ h=>h) t nv (fun _ _=>Nat.le_refl _) (fun _ _ _ _ h=>h),fun d full hd=>hd⟩
 | cons s p ih=>
  intro t m H v cs F ad f K h hr hF cO s8
  cases t with
  | pair a b=>
   obtain ⟨h0,F1,F2,hs,h1,Y⟩:=hr
   have hle:=ai.length a h1
   have Bu:=ai.length b Y
   simp only[List.length_take,List.length_drop] at hle Bu
   have o4:H.any (·.isEmpty)=false:=h0
   have Oh:∀ b o,ad=some (b,o)->Has w b o (cs.take a.sz):=fun b o hb j u hu=>by
    rw[List.getElem?_take] at hu;split at hu;exact cO b o hb j u hu;cases hu
   have Oi:∀ b' o,cv ad a.sz=some (b',o)->Has w b' o (cs.drop a.sz):=fun b' o hb j u hu=>by
    cases ad with
    | none=>cases hb
    | some x=>
     simp only[cv,Option.map_some,Option.some.injEq,Prod.mk.injEq] at hb
     obtain ⟨rfl,rfl⟩:=hb
     rw[List.getElem?_drop] at hu
     have:=cO x.1 x.2 rfl _ u hu
     rwa [Nat.add_assoc]
   cases s with
   | fst=>
    simp only[kd,o4] at h
    obtain ⟨t',m',H',v',aJ,aZ,F',G,kk,loc,M⟩:=ih a h h1 (fun b i=>by have:=hs b i;have:=hF b i;omega) Oh (fun b' o hb j hj=>by
     have:=s8 b' o hb j (by simp only[Ty.sz];omega);have:=hs b' (o+j);omega)
    refine ⟨t',m',H',v',aJ,aZ,F',fun b i=>G b i+F2 b i,kk,loc,M.run,fun K0=>by simp only[gW,o4];exact M.Ho K0,by simp only[aG,h0];exact M.place,M.rep,fun b i=>by have:=hs b i;have:=M.sum b i;omega,M.has,?_,(fun h=>M.Ft (by simpa [bk] using h)),?_,?_⟩
    ·intro off ho
     obtain ⟨q1,q2,q3⟩:=M.mc off ho
     refine ⟨by simp only[Ty.sz];omega,?_,q3⟩
     rw[q2,List.drop_take,List.take_take]
     congr 1;omega
    ·intro ho
     obtain ⟨b',o,q1,q2⟩:=M.out ho
     exact ⟨b',o,q1,fun j hj=>⟨by have:=(q2 j hj).1;omega,(q2 j hj).2⟩⟩
    ·intro m2 H2 v2 hk w2 A2 bh zJ hb hA lu hG s9 nv fF
     obtain ⟨m3,H3,v3,F3,k1,k2,k3,k4⟩:=M.back m2 H2 v2 hk w2 A2 bh zJ hb hA lu (fun b' i hp hn=>hG b' i (by omega) hn) s9 nv (fun b' i=>by have:=fF b' i;omega)
     have n7:=ai.length t' nv
     have lE:eR loc cs t'.sz bh=eR loc (cs.take a.sz) t'.sz bh++cs.drop a.sz:=by
      cases loc with
      | none=>simp[eR]
      | some off=>
       have:=(M.mc off rfl).1
       simp only[eR,qL]
       rw[List.take_take,show min off a.sz=off by omega,List.append_assoc,List.append_assoc,List.append_assoc]
       congr 2
       rw[List.drop_take]
       have e:cs.drop a.sz=(cs.drop (off+t'.sz)).drop (a.sz - (off+t'.sz)):=by rw[List.drop_drop];congr 1;omega
       rw[e,List.take_append_drop]
     have n8:(eR loc (cs.take a.sz) t'.sz bh).length=a.sz:=by
      cases loc with
      | none=>simp[eR];omega
      | some off=>have:=(M.mc off rfl).1;simp only[eR];rw[m7 (by simp;omega) n7];simp;omega
     have oy:∀ d full,kE d full w t' H' aJ aZ w2 H2 bh->full->eR loc cs t'.sz bh=cs:=fun d full hd oz=>by
      obtain ⟨H5,c5,e1,e2⟩:=hd [] ⟨t',H',aJ,aZ⟩ (Nat.zero_le _) rfl
      simp only[aG,Option.some.injEq,Pl.mk.injEq] at e1
      have e3:bh=aJ:=e1.2.2.1.trans (e2 (.inr oz))
      cases loc with
      | none=>rfl
      | some off=>
       have:=M.mc off rfl
       rw[e3,this.2.1,List.drop_take,List.take_take,show min t'.sz (a.sz - off)=t'.sz by omega]
       exact qM (by omega)
     have gw:(eR loc cs t'.sz bh).take a.sz=eR loc (cs.take a.sz) t'.sz bh:=by rw[lE];exact List.take_left' n8
     have ul:(eR loc cs t'.sz bh).drop a.sz=cs.drop a.sz:=by rw[lE];exact List.drop_left' n8
     have zK:∀ b' i,1<=F2 b' i->∀ u,ce w b' i=some u->ce w2 b' i=some u:=fun b' i hp u hu=>by
      refine hG b' i (by omega) (fun o fE qN=>?_) u hu
      have Q9:=hs b' i;have Q_:=hF b' i
      cases loc with
      | none=>
       obtain ⟨b0,o0,q1,q2⟩:=M.out rfl
       rw[q1] at fE
       simp only[Option.some.injEq,Prod.mk.injEq] at fE
       obtain ⟨rfl,rfl⟩:=fE
       have:=(q2 (i - o0) (by omega)).1
       rw[show o0+(i - o0)=i by omega] at this
       have:=M.sum b0 i
       omega
      | some off=>
       obtain ⟨q1,q2,q3⟩:=M.mc off rfl
       cases ad with
       | none=>rw[q3] at fE;cases fE
       | some x=>
        rw[q3] at fE
        simp only[cv,Option.map_some,Option.some.injEq,Prod.mk.injEq] at fE
        obtain ⟨rfl,rfl⟩:=fE
        have:=s8 x.1 x.2 rfl (i - x.2) (by simp only[Ty.sz];omega)
        rw[show x.2+(i - x.2)=i by omega] at this
        omega
     refine ⟨_,_,_,fun b' i=>F3 b' i+F2 b' i,k1,fun b' i=>by have:=k2 b' i;show F3 b' i+F2 b' i<=_;omega,fun A3 jX gU=>?_,fun d full hd=>?_⟩
     ·refine ⟨by rw[lg,jG,jG];rfl,F3,F2,fun _ _=>Nat.le_refl _,?_,?_⟩
      ·rw[gw,List.filterMap_append,ma,mD,List.append_nil]
       refine k3 A3 jX fun b' i hp hz=>gU b' i (by omega) ?_
       have:=fF b' i
       show F3 b' i+F2 b' i=0;omega
      ·rw[ul,List.filterMap_append,mE,mb,List.nil_append]
       exact ai.mono (fun b' i ha=>jX b' i (hA b' i ha)) lu hb b Y (fun _ _=>Nat.le_refl _) zK
     ·intro q pl hq hp
      cases q with
      | nil=>
       simp only[aG,Option.some.injEq] at hp;subst hp
       refine ⟨_,_,rfl,fun h=>?_⟩
       rcases h with ⟨_,hs⟩ | oz
       ·simp[nD] at hs
       ·exact oy d full hd oz
      | cons s q=>
       cases s with
       | fst=>
        simp only[aG,h0,Bool.false_eq_true,if_false] at hp
        obtain ⟨H4,KC,e1,e2⟩:=k4 d full hd q pl (by simpa [bk] using hq) hp
        refine ⟨H4,KC,?_,fun lw=>e2 (by simpa [bk] using lw)⟩
        simp only[aG,lg,jG,Bool.or_self,Bool.false_eq_true,if_false]
        rw[gw,List.filterMap_append,ma,mD,List.append_nil]
        exact e1
       | snd=>
        simp only[aG,h0,Bool.false_eq_true,if_false] at hp
        refine ⟨pl.H,pl.cs,?_,fun _=>rfl⟩
        simp only[aG,lg,jG,Bool.or_self,Bool.false_eq_true,if_false]
        rw[ul,List.filterMap_append,mE,mb,List.nil_append]
        exact nZ lu q b Y zK hp
       | idx i=>simp[aG] at hp
       | iW i=>simp[aG] at hp
   | snd=>
    simp only[kd,o4] at h
    obtain ⟨t',m',H',v',aJ,aZ,F',G,kk,loc,M⟩:=ih b h Y (fun b i=>by have:=hs b i;have:=hF b i;omega) Oi (fun b' o hb j hj=>by
     cases ad with
     | none=>cases hb
     | some x=>
      simp only[cv,Option.map_some,Option.some.injEq,Prod.mk.injEq] at hb
      obtain ⟨rfl,rfl⟩:=hb
      have:=s8 x.1 x.2 rfl (a.sz+j) (by simp only[Ty.sz];omega);have:=hs x.1 (x.2+(a.sz+j))
      rw[Nat.add_assoc];omega)
    refine ⟨t',m',H',v',aJ,aZ,F',fun b i=>G b i+F1 b i,kk,loc.map (a.sz+·),M.run,fun K0=>by simp only[gW,o4];exact M.Ho K0,by simp only[aG,h0];exact M.place,M.rep,fun b i=>by have:=hs b i;have:=M.sum b i;omega,M.has,?_,(fun h=>by rw[M.Ft (by simpa [bk] using h)];rfl),?_,?_⟩
    ·intro My ho
     obtain ⟨off,Mz,rfl⟩:=Option.map_eq_some_iff.1 ho
     obtain ⟨q1,q2,q3⟩:=M.mc off Mz
     refine ⟨by simp only[Ty.sz];omega,by rw[q2,List.drop_drop],?_⟩
     rw[q3];cases ad <;> simp[cv,Nat.add_assoc]
    ·intro ho
     obtain ⟨b',o,q1,q2⟩:=M.out (by simpa using ho)
     exact ⟨b',o,q1,fun j hj=>⟨by have:=(q2 j hj).1;omega,(q2 j hj).2⟩⟩
    ·intro m2 H2 v2 hk w2 A2 bh zJ hb hA lu hG s9 nv fF
     obtain ⟨m3,H3,v3,F3,k1,k2,k3,k4⟩:=M.back m2 H2 v2 hk w2 A2 bh zJ hb hA lu (fun b' i hp hn=>hG b' i (by omega) hn) s9 nv (fun b' i=>by have:=fF b' i;omega)
     have n7:=ai.length t' nv
     have lE:eR (loc.map (a.sz+·)) cs t'.sz bh=cs.take a.sz++eR loc (cs.drop a.sz) t'.sz bh:=by
      cases loc with
      | none=>simp[eR]
      | some off=>
       have:=(M.mc off rfl).1
       simp only[eR,qL,Option.map_some]
       rw[List.take_add,List.drop_drop,List.append_assoc,List.append_assoc,List.append_assoc,Nat.add_assoc]
     have n8:(cs.take a.sz).length=a.sz:=by simp;omega
     have oy:∀ d full,kE d full w t' H' aJ aZ w2 H2 bh->full->eR (loc.map (a.sz+·)) cs t'.sz bh=cs:=fun d full hd oz=>by
      obtain ⟨H5,c5,e1,e2⟩:=hd [] ⟨t',H',aJ,aZ⟩ (Nat.zero_le _) rfl
      simp only[aG,Option.some.injEq,Pl.mk.injEq] at e1
      have e3:bh=aJ:=e1.2.2.1.trans (e2 (.inr oz))
      cases loc with
      | none=>rfl
      | some off=>
       have:=M.mc off rfl
       rw[e3,this.2.1,List.drop_drop]
       exact qM (show a.sz+off+t'.sz<=cs.length by omega)
     have gw:(eR (loc.map (a.sz+·)) cs t'.sz bh).take a.sz=cs.take a.sz:=by rw[lE];exact List.take_left' n8
     have ul:(eR (loc.map (a.sz+·)) cs t'.sz bh).drop a.sz=eR loc (cs.drop a.sz) t'.sz bh:=by rw[lE];exact List.drop_left' n8
     have zK:∀ b' i,1<=F1 b' i->∀ u,ce w b' i=some u->ce w2 b' i=some u:=fun b' i hp u hu=>by
      refine hG b' i (by omega) (fun o fE qN=>?_) u hu
      have Q9:=hs b' i;have Q_:=hF b' i
      cases loc with
      | none=>
       obtain ⟨b0,o0,q1,q2⟩:=M.out rfl
       rw[q1] at fE
       simp only[Option.some.injEq,Prod.mk.injEq] at fE
       obtain ⟨rfl,rfl⟩:=fE
       have:=(q2 (i - o0) (by omega)).1
       rw[show o0+(i - o0)=i by omega] at this
       have:=M.sum b0 i
       omega
      | some off=>
       obtain ⟨q1,q2,q3⟩:=M.mc off rfl
       cases ad with
       | none=>rw[q3] at fE;cases fE
       | some x=>
        rw[q3] at fE
        simp only[cv,Option.map_some,Option.some.injEq,Prod.mk.injEq] at fE
        obtain ⟨rfl,rfl⟩:=fE
        have:=s8 x.1 x.2 rfl (i - x.2) (by simp only[Ty.sz];omega)
        rw[show x.2+(i - x.2)=i by omega] at this
        omega
     refine ⟨_,_,_,fun b' i=>F3 b' i+F1 b' i,k1,fun b' i=>by have:=k2 b' i;show F3 b' i+F1 b' i<=_;omega,fun A3 jX gU=>?_,fun d full hd=>?_⟩
     ·refine ⟨by rw[lg,jG,jG];rfl,F1,F3,fun b' i=>by show F1 b' i+F3 b' i<=F3 b' i+F1 b' i;omega,?_,?_⟩
      ·rw[gw,List.filterMap_append,ma,mD,List.append_nil]
       exact ai.mono (fun b' i ha=>jX b' i (hA b' i ha)) lu hb a h1 (fun _ _=>Nat.le_refl _) zK
      ·rw[ul,List.filterMap_append,mE,mb,List.nil_append]
       refine k3 A3 jX fun b' i hp hz=>gU b' i (by omega) ?_
       have:=fF b' i
       show F3 b' i+F1 b' i=0;omega
     ·intro q pl hq hp
      cases q with
      | nil=>
       simp only[aG,Option.some.injEq] at hp;subst hp
       refine ⟨_,_,rfl,fun h=>?_⟩
       rcases h with ⟨_,hs⟩ | oz
       ·simp[nD] at hs
       ·exact oy d full hd oz
      | cons s q=>
       cases s with
       | snd=>
        simp only[aG,h0,Bool.false_eq_true,if_false] at hp
        obtain ⟨H4,KC,e1,e2⟩:=k4 d full hd q pl (by simpa [bk] using hq) hp
        refine ⟨H4,KC,?_,fun lw=>e2 (by simpa [bk] using lw)⟩
        simp only[aG,lg,jG,Bool.or_self,Bool.false_eq_true,if_false]
        rw[ul,List.filterMap_append,mE,mb,List.nil_append]
        exact e1
       | fst=>
        simp only[aG,h0,Bool.false_eq_true,if_false] at hp
        refine ⟨pl.H,pl.cs,?_,fun _=>rfl⟩
        simp only[aG,lg,jG,Bool.or_self,Bool.false_eq_true,if_false]
        rw[gw,List.filterMap_append,ma,mD,List.append_nil]
        exact nZ lu q a h1 zK hp
       | idx i=>simp[aG] at hp
       | iW i=>simp[aG] at hp
   | idx i=>simp[kd] at h
   | iW i=>simp[kd] at h
  | U e=>
   cases s with
   | fst=>simp[kd] at h
   | snd=>simp[kd] at h
   | iW i=>simp[kd] at h
   | idx i=>
    simp only[kd] at h
    split at h
    ·rename_i c_
     obtain ⟨h1,Y,h3⟩:=uM h
     cases hx:(v:List e.den)[i]? with
     | none=>rw[hx] at h1;cases h1
     | some x=>
      rw[hx] at h1
      simp only[Option.bind_some] at h1
      have hi:i < List.length v:=(List.getElem?_eq_some_iff.1 hx).1
      simp only[ai,h3,Bool.false_eq_true,if_false,c_,if_true] at hr
      obtain ⟨a,cap,rfl,g2,g3,g4,g5⟩:=hr
      cases a with
      | none=>have:=g4 rfl;omega
      | some bZ=>
       obtain ⟨q1,q2,q3,Fi,q4,q5⟩:=g5 bZ rfl
       obtain ⟨L,hl,hL,cx⟩:=q5 i x hx
       have aj:∀ k,k < List.length v->∀ j,j < e.sz->k*e.sz+j < cap*e.sz:=fun k hk j hj=>by
        have aj:(k+1)*e.sz<=cap*e.sz:=Nat.mul_le_mul_right _ (by omega)
        rw[Nat.add_mul] at aj;omega
       have Bv:∀ k,k < cap*e.sz->bj bZ.block 0 (cap*e.sz) bZ.block k=1:=fun k hk=>by simp[bj,hk]
       obtain ⟨t',m',H',v',aJ,aZ,F',G,kk,loc,M⟩:=ih e h1 cx (fun b k=>by have:=q4 b k;have:=hF b k;have:=be Fi hi b k;omega)
        (ad:=some (bZ.block,i*e.sz)) (fun b o hb=>by simp only[Option.some.injEq,Prod.mk.injEq] at hb;obtain ⟨rfl,rfl⟩:=hb;exact hL)
        (fun b o hb j hj=>by
         simp only[Option.some.injEq,Prod.mk.injEq] at hb;obtain ⟨rfl,rfl⟩:=hb
         have:=q4 bZ.block (i*e.sz+j);have:=hF bZ.block (i*e.sz+j);have:=be Fi hi bZ.block (i*e.sz+j)
         have:=Bv _ (aj i hi j hj);omega)
       have uN:∀ b k,az (List.length v) (bW Fi i G) b k+Fi i b k=az (List.length v) Fi b k+G b k:=lN Fi hi G
       have se:∀ b k,G b k<=az (List.length v) (bW Fi i G) b k:=fun b k=>by
        have:=be (bW Fi i G) hi b k;simpa [bW] using this
       refine ⟨t',m',H',v',aJ,aZ,F',fun b k=>bj bZ.block 0 (cap*e.sz) b k+az (List.length v) (bW Fi i G) b k,kk,none,M.run,fun K0=>by simp only[gW];rw[s7 h,hx];exact M.Ho K0,?_,M.rep,fun b k=>by have:=uN b k;have:=M.sum b k;have:=q4 b k;omega,M.has,(fun off ho=>by cases ho),(fun _=>rfl),?_,?_⟩
       ·simp only[aG,h3,Bool.false_eq_true,if_false,hi,if_true,q1,Nat.zero_add,bt hL hl];exact M.place
       ·intro _
        cases loc with
        | none=>
         obtain ⟨b',o,e1,e2⟩:=M.out rfl
         exact ⟨b',o,e1,fun j hj=>⟨by have:=(e2 j hj).1;have:=se b' (o+j);omega,(e2 j hj).2⟩⟩
        | some off=>
         obtain ⟨e1,e2,e3⟩:=M.mc off rfl
         refine ⟨bZ.block,i*e.sz+off,e3,fun j hj=>?_⟩
         have n9:=aj i hi (off+j) (by omega)
         rw[<-Nat.add_assoc] at n9
         exact ⟨by have:=Bv _ n9;omega,q3.frozen n9⟩
       ·intro m2 H2 v2 hk w2 A2 bh zJ hb hA lu hG s9 nv fF
        obtain ⟨m3,H3,v3,F3,k1,k2,k3,k4⟩:=M.back m2 H2 v2 hk w2 A2 bh zJ hb hA lu (fun b' i hp hn=>hG b' i (by have:=se b' i;omega) hn) s9 nv
         (fun b' i=>by have:=fF b' i;have:=se b' i;omega)
        have n7:=ai.length t' nv
        have apart:∀ b' k,(∀ o,aZ=some (b',o)->o<=k/\k < o+t'.sz->1<=Fi i b' k\/(b'=bZ.block/\i*e.sz<=k/\k < i*e.sz+e.sz)):=fun b' k o fE qN=>by
         cases loc with
         | none=>
          obtain ⟨b0,o0,e1,e2⟩:=M.out rfl
          rw[e1] at fE
          simp only[Option.some.injEq,Prod.mk.injEq] at fE
          obtain ⟨rfl,rfl⟩:=fE
          have:=(e2 (k - o0) (by omega)).1
          rw[show o0+(k - o0)=k by omega] at this
          have:=M.sum b0 k
          left;omega
         | some off=>
          obtain ⟨e1,e2,e3⟩:=M.mc off rfl
          rw[e3] at fE
          simp only[cv,Option.map_some,Option.some.injEq,Prod.mk.injEq] at fE
          obtain ⟨rfl,rfl⟩:=fE
          exact .inr ⟨rfl,by omega,by omega⟩
        have zK:∀ j,j < List.length v->j≠i->∀ b' k,1<=Fi j b' k->∀ u,ce w b' k=some u->ce w2 b' k=some u:=fun j hj fZ b' k hp u hu=>by
         have h1:=be (bW Fi i G) hj b' k
         have e1:bW Fi i G j=Fi j:=by simp[bW,fZ]
         rw[e1] at h1
         refine hG b' k (by omega) (fun o fE qN=>?_) u hu
         have Y:=q4 b' k;have h3:=hF b' k;have h4:=mC Fi hj hi fZ b' k
         rcases apart b' k o fE qN with h | ⟨rfl,MA,MB⟩
         ·omega
         ·have:=Bv (i*e.sz+(k - i*e.sz)) (aj i hi _ (by omega))
          rw[show i*e.sz+(k - i*e.sz)=k by omega] at this
          omega
        have cell:∀ j,j < List.length v->j≠i->∀ k,k < e.sz->∀ u,ce w bZ.block (j*e.sz+k)=some u->ce w2 bZ.block (j*e.sz+k)=some u:=fun j hj fZ k hk u hu=>by
         have mF:=Bv _ (aj j hj k hk)
         refine hG _ _ (by omega) (fun o fE qN=>?_) u hu
         have Y:=q4 bZ.block (j*e.sz+k);have h3:=hF bZ.block (j*e.sz+k)
         rcases apart _ _ o fE qN with h | ⟨_,MA,MB⟩
         ·have:=be Fi hi bZ.block (j*e.sz+k);omega
         ·have ey:j < i\/i < j:=by omega
          rcases ey with nL | nL
          ·have:(j+1)*e.sz<=i*e.sz:=Nat.mul_le_mul_right _ nL
           rw[Nat.add_mul] at this;omega
          ·have:(i+1)*e.sz<=j*e.sz:=Nat.mul_le_mul_right _ nL
           rw[Nat.add_mul] at this;omega
        have MC:Has w2 bZ.block (i*e.sz) (eR loc L t'.sz bh):=by
         have pM:∀ j u,L[j]?=some u->(∀ off,loc=some off->¬ (off<=j/\j < off+t'.sz))->ce w2 bZ.block (i*e.sz+j)=some u:=fun j u hu hn=>by
          have hj:j < e.sz:=hl ▸ (List.getElem?_eq_some_iff.1 hu).1
          have mF:=Bv _ (aj i hi j hj)
          refine hG _ _ (by omega) (fun o fE qN=>?_) u (hL j u hu)
          cases loc with
          | none=>
           obtain ⟨b0,o0,e1,e2⟩:=M.out rfl
           rw[e1] at fE
           simp only[Option.some.injEq,Prod.mk.injEq] at fE
           obtain ⟨rfl,rfl⟩:=fE
           have:=(e2 (i*e.sz+j - o0) (by omega)).1
           rw[show o0+(i*e.sz+j - o0)=i*e.sz+j by omega] at this
           have Y:=q4 bZ.block (i*e.sz+j);have h3:=hF bZ.block (i*e.sz+j);have:=se bZ.block (i*e.sz+j);have:=uN bZ.block (i*e.sz+j);have:=M.sum bZ.block (i*e.sz+j)
           have:=be Fi hi bZ.block (i*e.sz+j)
           omega
          | some off=>
           obtain ⟨e1,e2,e3⟩:=M.mc off rfl
           rw[e3] at fE
           simp only[cv,Option.map_some,Option.some.injEq,Prod.mk.injEq] at fE
           obtain ⟨_,rfl⟩:=fE
           exact hn off rfl (by omega)
         cases loc with
         | none=>exact fun j u hu=>pM j u hu (fun off ho=>by cases ho)
         | some off=>
          obtain ⟨e1,e2,e3⟩:=M.mc off rfl
          exact Es (by omega) n7 (s9 _ _ e3) (fun j u hu hn=>pM j u hu (fun My ho=>by injection ho with ho;subst ho;exact hn))
        have Hq:(eR loc L t'.sz bh).length=e.sz:=by
         cases loc with
         | none=>exact hl
         | some off=>have:=(M.mc off rfl).1;simp only[eR];rw[m7 (by omega) n7,hl]
        have uO:∀ (j:Nat) (y:e.den),(List.set v i v3)[j]?=some y->(j=i/\y=v3)\/(j≠i/\(v:List e.den)[j]?=some y):=fun j y hy=>by
         rw[List.getElem?_set] at hy
         split at hy
         ·rename_i iX
          subst iX
          injection hy with hy
          exact .inl ⟨rfl,hy.symm⟩
         ·rename_i iX;exact .inr ⟨fun h=>iX h.symm,hy⟩
        have others:∀ A3:Cells,(∀ b i,A2 b i->A3 b i)->∀ (j:Nat) (y:e.den),j≠i->(v:List e.den)[j]?=some y->∃ L:List Value,L.length=e.sz/\Has w2 bZ.block (j*e.sz) L/\Has w bZ.block (j*e.sz) L/\ai P w A e m.e [] y L (Fi j)/\ai P w2 A3 e m.e [] y L (Fi j):=fun A3 jX j y fZ hy=>by
         have hj:j < List.length v:=(List.getElem?_eq_some_iff.1 hy).1
         obtain ⟨Lj,xB,KD,Hr⟩:=q5 j y hy
         rw[Y j fZ] at Hr
         exact ⟨Lj,xB,fun k u hu=>cell j hj fZ k (xB ▸ (List.getElem?_eq_some_iff.1 hu).1) u (KD k u hu),KD,Hr,ai.mono (fun b' i ha=>jX b' i (hA b' i ha)) lu hb e Hr (fun _ _=>Nat.le_refl _) (zK j hj fZ)⟩
        have MD:∀ H4:List Path,hole H4=false->H4.filterMap (gb i)=H3->(∀ j,j≠i->H4.filterMap (gb j)=[])->∀ d full,kE d full w t' H' aJ aZ w2 H2 bh->kE (d+bk (.idx i::p)) full w (.U e) H [.slice (some bZ) (List.length v) cap] ad w2 H4 [.slice (some bZ) (List.length v) cap]:=by
         intro H4 O_ Ra Rb d full hd q pl hq hp
         cases q with
         | nil=>
          simp only[aG,Option.some.injEq] at hp;subst hp
          exact ⟨_,_,rfl,fun _=>rfl⟩
         | cons s q=>
          cases s with
          | fst=>simp[aG] at hp
          | snd=>simp[aG] at hp
          | iW j=>simp[aG] at hp
          | idx j=>
           simp only[aG,h3,Bool.false_eq_true,if_false] at hp
           split at hp
           ·rename_i hj
            by_cases fZ:j=i
            ·subst fZ
             rw[q1,Nat.zero_add,bt hL hl] at hp
             obtain ⟨H5,ME,e1,e2⟩:=k4 d full hd q pl (by simp only[bk] at hq;omega) hp
             refine ⟨H5,ME,?_,fun lw=>e2 (lw.imp (fun h=>⟨by have:=h.1;simp only[bk] at this;omega,h.2⟩) id)⟩
             simp only[aG,O_,Bool.false_eq_true,if_false,hj,if_true,q1,Nat.zero_add,bt MC Hq,Ra]
             exact e1
            ·obtain ⟨Lj,xB,Bw,KD,Hr,_⟩:=others A2 (fun _ _ h=>h) j _ fZ (List.getElem?_eq_getElem hj)
             rw[q1,Nat.zero_add,bt KD xB,Y j fZ] at hp
             refine ⟨pl.H,pl.cs,?_,fun _=>rfl⟩
             simp only[aG,O_,Bool.false_eq_true,if_false,hj,if_true,q1,Nat.zero_add,bt Bw xB,Rb j fZ]
             exact nZ lu q e Hr (zK j hj fZ) hp
           ·cases hp
        simp only[eR]
        by_cases um:m3=m.e
        ·rw[if_pos um] at k1
         subst um
         refine ⟨_,_,_,fun b' k=>bj bZ.block 0 (cap*e.sz) b' k+az (List.length v) (bW Fi i F3) b' k,k1,fun b' k=>?_,fun A3 jX gU=>?_,MD _ (jG _ _) (uk _ _) (fun j hj=>qK hj _)⟩
         ·have:=lN Fi hi F3 b' k;have:=uN b' k;have:=k2 b' k
          show bj bZ.block 0 (cap*e.sz) b' k+az (List.length v) (bW Fi i F3) b' k<=_
          omega
         ·simp only[ai,jG,Bool.false_eq_true,if_false,Md.own,if_true]
          refine ⟨some bZ,cap,by simp,by simpa using g2,g3,(fun hn=>by cases hn),fun rF wP=>?_⟩
          injection wP with wP;subst wP
          refine ⟨q1,q2,hb _ _ q3,bW Fi i F3,fun b' k=>by simp,fun j y hy=>?_⟩
          rcases uO j y hy with ⟨rfl,rfl⟩ | ⟨fZ,uP⟩
          ·refine ⟨_,Hq,MC,?_⟩
           rw[uk]
           simp only[Md.e,bW,if_true]
           refine k3 A3 jX fun b' k hp hz=>gU b' k ?_ ?_
           ·have:=se b' k;omega
           ·have h5:=fF b' k;have h6:=lN Fi hi F3 b' k;have h7:=uN b' k;have:=se b' k
            have h8:=q4 b' k;have h9:=M.sum b' k
            have:=k2 b' k
            show bj bZ.block 0 (cap*e.sz) b' k+az (List.length v) (bW Fi j F3) b' k=0
            omega
          ·obtain ⟨Lj,xB,Bw,_,_,Jp⟩:=others A3 jX j y fZ uP
           refine ⟨Lj,xB,Bw,?_⟩
           rw[qK fZ]
           simp only[bW,if_neg fZ]
           exact Jp
        ·rw[if_neg um] at k1
         split at k1
         ·rename_i zL
          have zL:H3=[]:=List.isEmpty_iff.1 zL
          refine ⟨_,_,_,fun b' k=>bj bZ.block 0 (cap*e.sz) b' k,k1,fun b' k=>by show bj bZ.block 0 (cap*e.sz) b' k<=_;omega,fun A3 jX gU=>?_,MD _ rfl (by rw[zL];rfl) (fun j hj=>rfl)⟩
          simp only[ai,hole,List.any_nil,Bool.false_eq_true,if_false,Md.own,if_true]
          refine ⟨some bZ,cap,by simp,by simpa using g2,g3,(fun hn=>by cases hn),fun rF wP=>?_⟩
          injection wP with wP;subst wP
          refine ⟨q1,q2,hb _ _ q3,fun _ _ _=>0,fun b' k=>by rw[gC];simp,fun j y hy=>?_⟩
          have fz:∀ b' k,1<=zJ b' k+(bj bZ.block 0 (cap*e.sz) b' k+az (List.length v) (bW Fi i G) b' k)->bj bZ.block 0 (cap*e.sz) b' k=0->A3 b' k:=gU
          rcases uO j y hy with ⟨rfl,rfl⟩ | ⟨fZ,uP⟩
          ·refine ⟨_,Hq,MC,?_⟩
           have KE:=k3 A3 jX fun b' k hp hz=>fz b' k (by have:=se b' k;omega) (by
            have h5:=fF b' k;have:=se b' k;omega)
           rw[zL] at KE
           refine Ro.rep e _ (cM e) (ai.ox (fun _ _ h=>h) e KE fun b' k hp=>fz b' k ?_ ?_)
           ·have:=k2 b' k;have:=se b' k;omega
           ·have h5:=fF b' k;have:=se b' k;have:=k2 b' k;omega
          ·obtain ⟨Lj,xB,Bw,_,_,Jp⟩:=others A3 jX j y fZ uP
           have hj:j < List.length v:=(List.getElem?_eq_some_iff.1 uP).1
           refine ⟨Lj,xB,Bw,Ro.rep e _ (cM e) (ai.ox (fun _ _ h=>h) e Jp fun b' k hp=>?_)⟩
           have h1:=be (bW Fi i G) hj b' k
           have e1:bW Fi i G j=Fi j:=by simp[bW,fZ]
           rw[e1] at h1
           have h5:=fF b' k
           exact fz b' k (by omega) (by omega)
         ·cases k1
    ·cases h
  | arr n e=>
   cases s with
   | fst=>simp[kd] at h
   | snd=>simp[kd] at h
   | idx i=>simp[kd] at h
   | iW i=>
    obtain ⟨rfl,hf,hl,hlen,hr⟩:=hr
    simp only[kd,List.isEmpty_nil,if_true] at h
    cases hx:(v:List e.den)[i]? with
    | none=>rw[hx] at h;cases h
    | some x=>
     rw[hx] at h
     simp only[Option.bind_some] at h
     have hi:i < n:=hl ▸ (List.getElem?_eq_some_iff.1 hx).1
     have en:∀ j,j < n->j*e.sz+e.sz<=cs.length:=fun j hj=>by
      have:(j+1)*e.sz<=n*e.sz:=Nat.mul_le_mul_right _ hj
      rw[Nat.add_mul] at this;omega
     have hK:∀ j,j < n->((cs.drop (j*e.sz)).take e.sz).length=e.sz:=fun j hj=>by have:=en j hj;simp;omega
     obtain ⟨t',m',H',v',aJ,aZ,F',G,kk,loc,M⟩:=ih e h (Ro.flat e (fun _ _=>0) hf (hr i x hx)) (fun _ _=>Nat.zero_le _) (ad:=cv ad (i*e.sz)) (fun b' o hb j u hu=>by
      cases ad with
      | none=>cases hb
      | some y=>
       simp only[cv,Option.map_some,Option.some.injEq,Prod.mk.injEq] at hb
       obtain ⟨rfl,rfl⟩:=hb
       rw[List.getElem?_take] at hu
       split at hu
       ·rw[List.getElem?_drop] at hu
        have:=cO y.1 y.2 rfl _ u hu
        rwa [Nat.add_assoc]
       ·cases hu) (fun _ _ _ _ _=>rfl)
     have Et:∀ b k,G b k=0:=fun b k=>by have:=M.sum b k;omega
     have un:∀ b k,F' b k=0:=fun b k=>by have:=M.sum b k;omega
     have Fu:∀ h:loc=none,t'.sz=0:=fun h=>by
      obtain ⟨b',o,e1,e2⟩:=M.out h
      rcases Nat.eq_zero_or_pos t'.sz with h0 | h0
      ·exact h0
      ·have:=(e2 0 h0).1;rw[Et] at this;omega
     refine ⟨t',m',H',v',aJ,aZ,F',F,kk,loc.map (i*e.sz+·),M.run,fun K0=>by simp only[gW,List.isEmpty_nil,if_true,hx,Option.bind_some];exact M.Ho K0,by simp only[aG,List.isEmpty_nil,if_true,hi];exact M.place,M.rep,fun b k=>by rw[un];omega,M.has,?_,(fun h=>by rw[M.Ft (by simpa [bk] using h)];rfl),?_,?_⟩
     ·intro My ho
      obtain ⟨off,Mz,rfl⟩:=Option.map_eq_some_iff.1 ho
      obtain ⟨q1,q2,q3⟩:=M.mc off Mz
      have:=en i hi
      refine ⟨by simp only[Ty.sz];omega,?_,by rw[q3];cases ad <;> simp[cv,Nat.add_assoc]⟩
      rw[q2,List.drop_take,List.take_take,List.drop_drop]
      congr 1;omega
     ·intro ho
      obtain ⟨b',o,q1,q2⟩:=M.out (by simpa using ho)
      have:=Fu (by simpa using ho)
      exact ⟨b',o,q1,fun j hj=>by omega⟩
     ·intro m2 H2 v2 hk w2 A2 bh zJ hb hA lu hG s9 nv fF
      obtain ⟨m3,H3,v3,F3,k1,k2,k3,k4⟩:=M.back m2 H2 v2 hk w2 A2 bh zJ hb hA lu (fun b' i hp hn=>by rw[Et] at hp;omega) s9 nv (fun b' i=>by have:=fF b' i;rw[Et];omega)
      have n7:=ai.length t' nv
      split at k1
      ·rename_i zL
       have zL:H3=[]:=List.isEmpty_iff.1 zL
       have lE:eR (loc.map (i*e.sz+·)) cs t'.sz bh=qL cs (i*e.sz) e.sz (eR loc ((cs.drop (i*e.sz)).take e.sz) t'.sz bh):=by
        cases loc with
        | none=>simp only[eR,Option.map_none];exact (qM (en i hi)).symm
        | some off=>
         have:=(M.mc off rfl).1
         exact (LJ this (en i hi) n7).symm
       have n8:(eR loc ((cs.drop (i*e.sz)).take e.sz) t'.sz bh).length=e.sz:=by
        cases loc with
        | none=>exact hK i hi
        | some off=>have:=(M.mc off rfl).1;simp only[eR];rw[m7 (by rw[hK i hi];omega) n7,hK i hi]
       have Fx:∀ j,j < n->((eR (loc.map (i*e.sz+·)) cs t'.sz bh).drop (j*e.sz)).take e.sz=if j=i then eR loc ((cs.drop (i*e.sz)).take e.sz) t'.sz bh else (cs.drop (j*e.sz)).take e.sz:=fun j hj=>by
        rw[lE]
        apply List.ext_getElem?
        intro k
        rw[List.getElem?_take]
        split
        ·rename_i hk
         rw[List.getElem?_drop,sx (en i hi) n8]
         by_cases fZ:j=i
         ·subst fZ
          rw[if_pos (by omega),if_pos rfl];congr 1;omega
         ·rw[if_neg fZ,List.getElem?_take,if_pos hk,List.getElem?_drop,if_neg]
          have ey:j < i\/i < j:=by omega
          rcases ey with nL | nL
          ·have:(j+1)*e.sz<=i*e.sz:=Nat.mul_le_mul_right _ nL
           rw[Nat.add_mul] at this;omega
          ·have:(i+1)*e.sz<=j*e.sz:=Nat.mul_le_mul_right _ nL
           rw[Nat.add_mul] at this;omega
        ·rename_i hk
         by_cases fZ:j=i
         ·rw[if_pos fZ,List.getElem?_eq_none (by omega)]
         ·rw[if_neg fZ,List.getElem?_eq_none (by rw[hK j hj];omega)]
       have oy:∀ d full,kE d full w t' H' aJ aZ w2 H2 bh->full->eR (loc.map (i*e.sz+·)) cs t'.sz bh=cs:=fun d full hd oz=>by
        obtain ⟨H5,c5,e1,e2⟩:=hd [] ⟨t',H',aJ,aZ⟩ (Nat.zero_le _) rfl
        simp only[aG,Option.some.injEq,Pl.mk.injEq] at e1
        have e3:bh=aJ:=e1.2.2.1.trans (e2 (.inr oz))
        cases loc with
        | none=>rfl
        | some off=>
         have:=M.mc off rfl
         have:=en i hi
         rw[e3,(M.mc off rfl).2.1,List.drop_take,List.take_take,show min t'.sz (e.sz - off)=t'.sz by omega,List.drop_drop]
         exact qM (show i*e.sz+off+t'.sz<=cs.length by omega)
       have Oj:(eR (loc.map (i*e.sz+·)) cs t'.sz bh).length=n*e.sz:=by rw[lE,m7 (en i hi) n8,hlen]
       refine ⟨_,_,_,fun b' k=>F3 b' k+F b' k,k1,fun b' k=>by have:=k2 b' k;have:=Et b' k;show F3 b' k+F b' k<=_;omega,fun A3 jX gU=>?_,fun d full hd=>?_⟩
       ·refine ⟨rfl,hf,by simpa using hl,Oj,fun j y hy=>?_⟩
        have hj:j < n:=by have:=(List.getElem?_eq_some_iff.1 hy).1;rw[List.length_set] at this;omega
        rw[Fx j hj]
        rw[List.getElem?_set] at hy
        split at hy
        ·rename_i iX
         subst iX
         have hy:some v3=some y:=by
          split at hy
          ·exact hy
          ·cases hy
         injection hy with hy
         rw[if_pos rfl,<- hy]
         exact ai.flat e hf (k3 A3 jX fun b' k hp hz=>gU b' k (by have:=Et b' k;omega) (by have:=fF b' k;have:=Et b' k;show F3 b' k+F b' k=0;omega))
        ·rename_i iX
         rw[if_neg (fun h=>iX h.symm)]
         exact Ro.mono lu (fun b' k ha=>jX b' k (hA b' k ha)) e (hr j y hy)
       ·intro q pl hq hp
        cases q with
        | nil=>
         simp only[aG,Option.some.injEq] at hp;subst hp
         refine ⟨_,_,rfl,fun h=>?_⟩
         rcases h with ⟨_,hs⟩ | oz
         ·simp[nD] at hs
         ·exact oy d full hd oz
        | cons s q=>
         cases s with
         | fst=>simp[aG] at hp
         | snd=>simp[aG] at hp
         | idx j=>simp[aG] at hp
         | iW j=>
          simp only[aG,List.isEmpty_nil,if_true] at hp
          split at hp
          ·rename_i hj
           by_cases fZ:j=i
           ·subst fZ
            obtain ⟨H5,ME,e1,e2⟩:=k4 d full hd q pl (by simp only[bk] at hq;omega) hp
            refine ⟨H5,ME,?_,fun lw=>e2 (lw.imp (fun h=>⟨by have:=h.1;simp only[bk] at this;omega,h.2⟩) id)⟩
            simp only[aG,List.isEmpty_nil,if_true,hj]
            rw[Fx j hj,if_pos rfl]
            rw[zL] at e1
            exact e1
           ·refine ⟨pl.H,pl.cs,?_,fun _=>rfl⟩
            simp only[aG,List.isEmpty_nil,if_true,hj]
            rw[Fx j hj,if_neg fZ]
            exact nZ lu q e (Ro.flat e (m:=.leaf) (fun _ _=>0) hf (hr j _ (List.getElem?_eq_getElem (by rw[hl];exact hj)))) (fun b k hp=>by simp at hp) hp
          ·cases hp
      ·cases k1
  | _=>cases s <;> simp[kd] at h
end
end OT
set_option linter.unusedVariables false
set_option linter.unusedSimpArgs false
namespace OT
open Go
def tmp (a:Act) (i:Nat):Value:=a.tmps.getD i undef
section
variable {P:Program} {w:World} {A:Cells}
theorem Ro.one:∀ (t:Ty) {v:t.den} {cs:List Value},Ro P w A t v cs->∀ x ∈ cs,x.oneCell'=true:=by
 intro t
 induction t with
 | pair a b eg dZ=>
  intro v cs h x hx
  rw[<-List.take_append_drop a.sz cs] at hx
  rcases List.mem_append.1 hx with hx | hx
  ·exact eg h.1 x hx
  ·exact dZ h.2 x hx
 | arr n e ih=>
  intro v cs h x hx
  obtain ⟨hf,hl,hlen,hr⟩:=h
  obtain ⟨k,hk,rfl⟩:=List.mem_iff_getElem.1 hx
  rw[hlen] at hk
  have ez:0 < e.sz:=by
   rcases Nat.eq_zero_or_pos e.sz with h0 | h0
   ·rw[h0] at hk;omega
   ·exact h0
  have hi:k / e.sz < n:=(Nat.div_lt_iff_lt_mul ez).2 hk
  refine ih (hr (k / e.sz) _ (List.getElem?_eq_getElem (by rw[hl];exact hi))) _ ?_
  rw[List.mem_iff_getElem?]
  refine ⟨k % e.sz,?_⟩
  rw[List.getElem?_take,if_pos (Nat.mod_lt _ ez),List.getElem?_drop]
  have:k / e.sz*e.sz+k % e.sz=k:=by rw[Nat.mul_comm];exact Nat.div_add_mod k e.sz
  rw[this];exact List.getElem?_eq_getElem _
 | U e ih=>rintro v cs ⟨a,cap,rfl,_⟩ x hx;simp at hx;subst hx;rfl
 | ptr e ih=>rintro v cs ⟨a,rfl,_⟩ x hx;simp at hx;subst hx;rfl
 | fn=>rintro v cs ⟨a,rfl,_⟩ x hx;simp at hx;subst hx;rfl
 | map k v=>rintro v cs ⟨_,_,r,jW,rfl,_⟩ x hx;simp at hx;subst hx;rfl
 | unit=>intro v cs h x hx;simp only[Ro] at h;subst h;cases hx
 | _=>intro v cs h x hx;simp only[Ro] at h;subst h;simp at hx;subst hx;rfl
theorem ai.one:∀ (t:Ty) {m:Md} {H:List Path} {v:t.den} {cs:List Value} {F:FP},ai P w A t m H v cs F->∀ x ∈ cs,x.oneCell'=true:=by
 intro t
 induction t with
 | pair a b eg dZ=>
  intro m H v cs F h x hx
  obtain ⟨_,F1,F2,_,h1,Y⟩:=h
  rw[<-List.take_append_drop a.sz cs] at hx
  rcases List.mem_append.1 hx with hx | hx
  ·exact eg h1 x hx
  ·exact dZ Y x hx
 | U e ih=>
  intro m H v cs F h x hx
  simp only[ai] at h
  split at h
  ·obtain ⟨y,rfl,hy⟩:=h;simp at hx;subst hx;exact hy
  ·split at h
   ·obtain ⟨a,cap,rfl,_⟩:=h;simp at hx;subst hx;rfl
   ·exact Ro.one _ h.2.2 x hx
 | ptr e ih=>
  intro m H v cs F h x hx
  simp only[ai] at h
  split at h
  ·obtain ⟨y,rfl,hy⟩:=h;simp at hx;subst hx;exact hy
  ·split at h
   ·obtain ⟨a,rfl,_⟩:=h;simp at hx;subst hx;rfl
   ·exact Ro.one _ h.2.2 x hx
 | arr n e ih=>intro m H v cs F h;exact Ro.one _ h.2
 | map k v=>
  intro m H v cs F h x hx
  simp only[ai] at h
  split at h
  ·obtain ⟨y,rfl,hy⟩:=h;simp at hx;subst hx;exact hy
  ·split at h
   ·obtain ⟨_,_,r,jW,rfl,_⟩:=h;simp at hx;subst hx;rfl
   ·exact Ro.one _ h.2.2 x hx
 | _=>intro m H v cs F h;exact Ro.one _ h
end
theorem fu {t:Ty} {cs:List Value} (hl:cs.length=t.sz) (h1:∀ x ∈ cs,x.oneCell'=true):(bf t cs).cells.toList=cs:=by
 unfold bf
 split
 ·simp[Value.cells]
 ·rename_i h
  have:t.sz=1:=by cases t <;> simp_all [isAgg,Ty.sz]
  match cs,hl with
  | [x],_=>
   have:=h1 x (by simp)
   cases x <;> simp_all [Value.cells,Value.oneCell']
  | [],hl=>simp[this] at hl
  | _::_::_,hl=>simp[this] at hl
def Below (snap v:List Nat):Prop:=∀ (j x:Nat),snap[j]?=some x->∃ y,v[j]?=some y/\x<=y
theorem wQ:∀ (s v:List Nat),preB s v=true↔∀ (j x:Nat),s[j]?=some x->v[j]?=some x
 | [],v=>by simp[preB]
 | a::s,[]=>by
  simp only[preB,Bool.false_eq_true,false_iff]
  intro h
  have:=h 0 a rfl
  cases this
 | a::s,b::v=>by
  simp only[preB,Bool.and_eq_true,Nat.beq_eq,wQ s v]
  constructor
  ·rintro ⟨rfl,h⟩ j x hj
   cases j with
   | zero=>exact hj
   | succ j=>exact h j x hj
  ·intro h
   refine ⟨by have:=h 0 a rfl;simpa using this.symm,fun j x hj=>h (j+1) x hj⟩
theorem vY {s v v':List Nat} (hs:Below s v) (hv:Below v v') (h:preB s v'=true):preB s v=true/\∀ (j:Nat),j < s.length->v[j]?=v'[j]?:=by
 have key:∀ (j x:Nat),s[j]?=some x->v[j]?=some x/\v'[j]?=some x:=fun j x hj=>by
  obtain ⟨y,hy,pY⟩:=hs j x hj
  obtain ⟨z,hz,Rc⟩:=hv j y hy
  have:=(wQ _ _).1 h j x hj
  rw[this] at hz
  injection hz with hz
  have:x=y:=by omega
  subst this
  exact ⟨hy,by assumption⟩
 refine ⟨(wQ _ _).2 fun j x hj=>(key j x hj).1,fun j hj=>?_⟩
 obtain ⟨h1,Y⟩:=key j _ (List.getElem?_eq_getElem hj)
 rw[h1,Y]
theorem Below.trans {s v v':List Nat} (h1:Below s v) (Y:Below v v'):Below s v':=fun j x hj=>by
 obtain ⟨y,hy,pY⟩:=h1 j x hj
 obtain ⟨z,hz,Rc⟩:=Y j y hy
 exact ⟨z,hz,by omega⟩
theorem Below.refl (s:List Nat):Below s s:=fun j x hj=>⟨x,hj,Nat.le_refl _⟩
def bi (w:World) (tv:Value):Slot->Option Pl
 | .own t _ H _=>some ⟨t,H,tv.cells.toList,none⟩
 | .box t _ H _=>match tv with
  | .pointer (some a)=>some ⟨t,H,rd w a.block a.off t.sz,some (a.block,a.off)⟩
  | _=>none
 | _=>none
def place (σ:St) (a:Act) (w:World) (r:Nat) (p:Path):Option Pl:=
 (bi w (tmp a r) (σ.get r)).bind fun R=>aG w p R.t R.H R.cs R.ad
def ke (σ:St) (a:Act) (w:World) (tv:Value) (r:Nat) (p:Path) (snap:List Nat):Prop:=
 Below snap (σ.eH r)/\(σ.ok r snap=true->∃ pl,place σ a w r p=some pl/\tv=bf pl.t pl.cs/\((nD pl.t=true/\snap.length=min 5 (2+bk p))\/snap.length=5))
def sy (σ:St) (a:Act) (w:World) (tv:Value) (r:Nat) (p:Path) (snap:List Nat):Prop:=
 Below snap (σ.eH r)/\(σ.ok r snap=true->∃ pl b o,place σ a w r p=some pl/\pl.ad=some (b,o)/\tv=.pointer (some ⟨b,o,none⟩)/\snap.length=min 5 (1+bk p))
def uQ (σ:St) (a:Act) (w:World) (tv:Value) (r:Nat) (p:Path) (snap:List Nat) (lo hi:Nat):Prop:=
 Below snap (σ.eH r)/\(σ.ok r snap=true->∃ pl e x n cap x' cap',place σ a w r p=some pl/\pl.t=.U e/\pl.cs=[.slice x n cap]/\lo<=hi/\hi<=n/\tv=.slice x' (hi - lo) cap'/\cap'+lo=cap/\(lo=0->x'=x) /\
  (x=none->x'=none)/\(∀ ad,x=some ad->∃ aZ,x'=some aZ/\aZ.spot=ad.spot/\aZ.block=ad.block/\(lo < hi->aZ.off=ad.off+lo*e.sz))/\(snap.length=min 5 (2+bk p)\/snap.length=5))
section
variable (P:Program) (A:Cells)
def MF (w:World) (x:xt) (tv:Value) (F:FP):Prop:=x.t=.unit\/∃ cs,tv=bf x.t cs/\ai P w A x.t x.m [] x.v cs F
def a7 (σ:St) (a:Act) (w:World) (tv:Value):Slot->FP->Prop
 | .dead,_=>True
 | .oo,_=>tv=.slice none 0 0
 | .val t v,_=>∃ cs,tv=bf t cs/\Ro P w A t v cs
 | .cp t v,_=>Ro P w A (.ptr t) v [tv]
 | .own t m H v,F=>∃ cs,tv=bf t cs/\ai P w A t m H v cs F
 | .box t m H v,F=>∃ b o L F1,tv=.pointer (some ⟨b,o,none⟩)/\L.length=t.sz/\Has w b o L/\(∀ j,j < t.sz->w.frozen? ⟨b,o+j,none⟩=false) /\
   (∀ x i,bj b o t.sz x i+F1 x i<=F x i)/\ai P w A t m H v L F1
 | .ref r p snap,_=>ke σ a w tv r p snap
 | .ptr r p snap,_=>sy σ a w tv r p snap
 | .sub r p snap lo hi,_=>uQ σ a w tv r p snap lo hi
 | .kC xs,F=>∃ (vs:Array Value) (Fi:Nat->FP),tv=.tuple vs/\(∀ b i,az xs.length Fi b i<=F b i)/\∀ j x,xs[j]?=some x->∃ v,vs[j]?=some v/\MF P A w x v (Fi j)
end
structure Ext (w w':World) (F:FP):Prop where
 size:w.heap.size<=w'.heap.size
 cell:∀ b i,b < w.heap.size->F b i=0->∀ u,ce w b i=some u->ce w' b i=some u
 o3:∀ b n,de w b n->de w' b n
 pO:∀ b i,b < w.heap.size->w'.frozen? ⟨b,i,none⟩=w.frozen? ⟨b,i,none⟩
 os:w'.os=w.os
 tape:w'.tape=w.tape
 output:w'.output=w.output
 obj:∀ b,b < w.heap.size->(∀ i,F b i=0)->w'.heap[b]?=w.heap[b]?
 drawn:w.drawn<=w'.drawn
structure Ctx where
 w0:World
 A0:Cells
 F0:FP
 args:Array Value
structure Rel (P:Program) (C:Ctx) (A:Cells) (X:FP) (σ:St) (a:Act) (w:World) (F:Nat->FP):Prop where
 size:a.tmps.size=σ.n
 defers:a.defers=[]
 dj:∀ i,i < σ.n->a7 P A σ a w (tmp a i) (σ.get i) (F i)
 gh:∀ d r p snap,(d,r,p,snap) ∈ σ.gh->ke σ a w (tmp a d) r p snap
 iD:∀ b i,X b i+az σ.n F b i<=1
 jn:∀ b i,1<=X b i+az σ.n F b i->¬ A b i
 eh:∀ b i,1<=X b i+az σ.n F b i\/A b i->b < w.heap.size
 ft:∀ i,(σ.eH i).length=5
 ext:Ext C.w0 w C.F0
 own:∀ b i,1<=X b i+az σ.n F b i->1<=C.F0 b i\/C.w0.heap.size<=b
 a0:∀ b i,C.A0 b i->A b i
 a1:∀ b i,A b i->C.A0 b i\/1<=C.F0 b i\/C.w0.heap.size<=b
 ii:∀ j k,(j,k,false) ∈ σ.av->tmp a j=C.args.getD k undef
 whole:∀ r t m H v,σ.get r=.box t m H v->(∀ k,(r,k,false) ∉ σ.av)->∃ b,tmp a r=.pointer (some ⟨b,0,none⟩)/\de w b (t.sz,false)
 gt:∀ j k,(j,k,true) ∈ σ.av->∀ R,bi w (tmp a j) (σ.get j)=some R->bf R.t R.cs=C.args.getD k undef
def o9 (σ:St) (a:Act) (w:World) (σ':St) (a':Act) (w':World):Prop:=
 ∀ r p snap,Below snap (σ.eH r)->Below snap (σ'.eH r)/\(σ'.ok r snap=true->σ.ok r snap=true /\
  (snap.length=min 5 (1+bk p)\/snap.length=min 5 (2+bk p)\/snap.length=5->∀ pl,place σ a w r p=some pl->∃ H' aJ,place σ' a' w' r p=some ⟨pl.t,H',aJ,pl.ad⟩ /\
   ((nD pl.t=true/\snap.length=min 5 (2+bk p))\/snap.length=5->aJ=pl.cs)))
section
variable {P:Program} {A A':Cells} {σ σ':St} {a a':Act} {w w':World} {tv:Value} {F:FP}
theorem ke.fY (hp:o9 σ a w σ' a' w') {r:Nat} {p:Path} {snap:List Nat} (h:ke σ a w tv r p snap):ke σ' a' w' tv r p snap:=by
 obtain ⟨h1,Y⟩:=h
 obtain ⟨h3,h4⟩:=hp r p snap h1
 refine ⟨h3,fun aA=>?_⟩
 obtain ⟨h5,h6⟩:=h4 aA
 obtain ⟨pl,h7,h8,h9⟩:=Y h5
 obtain ⟨H',aJ,pC,rG⟩:=h6 (h9.elim (fun h=>.inr (.inl h.2)) (fun h=>.inr (.inr h))) pl h7
 exact ⟨_,pC,by rw[rG h9];exact h8,h9⟩
theorem sy.fY (hp:o9 σ a w σ' a' w') {r:Nat} {p:Path} {snap:List Nat} (h:sy σ a w tv r p snap):sy σ' a' w' tv r p snap:=by
 obtain ⟨h1,Y⟩:=h
 obtain ⟨h3,h4⟩:=hp r p snap h1
 refine ⟨h3,fun aA=>?_⟩
 obtain ⟨h5,h6⟩:=h4 aA
 obtain ⟨pl,b,o,h7,h8,h9,pC⟩:=Y h5
 obtain ⟨H',aJ,rG,_⟩:=h6 (.inl pC) pl h7
 exact ⟨_,b,o,rG,h8,h9,pC⟩
theorem uQ.fY (hp:o9 σ a w σ' a' w') {r:Nat} {p:Path} {snap:List Nat} {lo hi:Nat} (h:uQ σ a w tv r p snap lo hi):uQ σ' a' w' tv r p snap lo hi:=by
 obtain ⟨h1,Y⟩:=h
 obtain ⟨h3,h4⟩:=hp r p snap h1
 refine ⟨h3,fun aA=>?_⟩
 obtain ⟨h5,h6⟩:=h4 aA
 obtain ⟨pl,e,x,n,cap,x',cap',h7,h8,h9,pC,rG,Bx,Rd,Qd,Re,Rf,MG⟩:=Y h5
 obtain ⟨H',aJ,Rg,Rh⟩:=h6 (.inr MG) pl h7
 have:nD pl.t=true:=by rw[h8];rfl
 exact ⟨_,e,x,n,cap,x',cap',Rg,h8,(Rh (MG.imp (fun h=>⟨this,h⟩) id)).trans h9,pC,rG,Bx,Rd,Qd,Re,Rf,MG⟩
theorem a7.fY (hp:o9 σ a w σ' a' w') (hA:∀ b i,A b i->A' b i) (hc:∀ b i,A b i->∀ u,ce w b i=some u->ce w' b i=some u) (hb:∀ b n,de w b n->de w' b n)
  (hF:∀ b i,1<=F b i->(∀ u,ce w b i=some u->ce w' b i=some u)/\w'.frozen? ⟨b,i,none⟩=w.frozen? ⟨b,i,none⟩) {s:Slot} (h:a7 P A σ a w tv s F):a7 P A' σ' a' w' tv s F:=by
 cases s with
 | dead=>trivial
 | oo=>exact h
 | val t v=>obtain ⟨cs,h1,Y⟩:=h;exact ⟨cs,h1,Ro.mono hc hA t Y⟩
 | cp t v=>exact Ro.mono hc hA (.ptr t) h
 | own t m H v=>obtain ⟨cs,h1,Y⟩:=h;exact ⟨cs,h1,ai.mono hA hc hb t Y (fun _ _=>Nat.le_refl _) (fun b i hp=>(hF b i hp).1)⟩
 | box t m H v=>
  obtain ⟨b,o,L,F1,h1,Y,h3,h4,h5,h6⟩:=h
  have hr:∀ j,j < t.sz->1<=F b (o+j):=fun j hj=>by
   have:=h5 b (o+j);simp[bj,hj] at this;omega
  exact ⟨b,o,L,F1,h1,Y,fun j u hu=>(hF _ _ (hr j (Y ▸ (List.getElem?_eq_some_iff.1 hu).1))).1 u (h3 j u hu),fun j hj=>by rw[(hF _ _ (hr j hj)).2];exact h4 j hj,h5,
   ai.mono hA hc hb t h6 (fun _ _=>Nat.le_refl _) (fun b i hp=>(hF b i (by have:=h5 b i;omega)).1)⟩
 | ref r p snap=>exact ke.fY hp h
 | ptr r p snap=>exact sy.fY hp h
 | sub r p snap lo hi=>exact uQ.fY hp h
 | kC xs=>
  obtain ⟨vs,Fi,h1,Y,h3⟩:=h
  refine ⟨vs,Fi,h1,Y,fun j x hx=>?_⟩
  obtain ⟨v,h4,h5⟩:=h3 j x hx
  refine ⟨v,h4,h5.imp id fun ⟨cs,h6,h7⟩=>⟨cs,h6,ai.mono hA hc hb x.t h7 (fun _ _=>Nat.le_refl _) (fun b i hp=>(hF b i ?_).1)⟩⟩
  have:=be Fi (List.getElem?_eq_some_iff.1 hx).1 b i
  have:=Y b i;omega
end
end OT
set_option linter.unusedVariables false
set_option linter.unusedSimpArgs false
namespace OT
open Go
theorem qd {α:Type} (k:Nat) (x:α) (l:List (Nat×α)) (i:Nat):f5 ((k,x)::l) i=if k=i then some x else f5 l i:=by
 simp only[f5]
 by_cases h:k=i
 ·simp[h]
 ·rw[if_neg h,if_neg (by simpa using h)]
theorem o_ (σ:St) (d:Nat) (s:Slot) (i:Nat):(σ.put d s).get i=if d=i/\i < σ.n then s else σ.get i:=by
 simp only[St.get,St.put,qd,Nat.blt_eq]
 by_cases hi:i < σ.n
 ·by_cases hd:d=i <;> simp[hi,hd]
 ·simp[hi]
theorem vZ (σ:St) (d:Nat) (s:Slot) (i:Nat):(σ.Bb d s).get i=if d=i/\i < σ.n then s else σ.get i:=by
 simp only[St.get,St.Bb,qd,Nat.blt_eq]
 by_cases hi:i < σ.n
 ·by_cases hd:d=i <;> simp[hi,hd]
 ·simp[hi]
theorem qy (σ:St) (d:Nat) (s:Slot) (i:Nat):(σ.put d s).eH i=if d=i then k_ (σ.eH d) else σ.eH i:=by
 simp only[St.eH,St.put,qd]
 by_cases hd:d=i <;> simp[hd]
theorem jN (σ:St) (d:Nat) (f:List Nat->List Nat) (i:Nat):(σ.eY d f).eH i=if d=i then f (σ.eH d) else σ.eH i:=by
 simp only[St.eH,St.eY,qd]
 by_cases hd:d=i <;> simp[hd]
theorem qe {l:List (Nat×Nat×Bool)} {d:Nat} {e:Nat×Nat×Bool} (h:e ∈ qC l d):e ∈ l/\e.1≠d:=by
 induction l with
 | nil=>cases h
 | cons x l ih=>
  obtain ⟨k,b⟩:=x
  simp only[qC] at h
  split at h
  ·exact ⟨List.mem_cons_of_mem _ (ih h).1,(ih h).2⟩
  ·rename_i hk
   rcases List.mem_cons.1 h with rfl | h
   ·exact ⟨List.mem_cons_self,by simpa using hk⟩
   ·exact ⟨List.mem_cons_of_mem _ (ih h).1,(ih h).2⟩
theorem xC {l:List (Nat×Nat×Bool)} {d:Nat} {e:Nat×Nat×Bool} (h:e ∈ l) (hd:e.1≠d):e ∈ qC l d:=by
 induction l with
 | nil=>cases h
 | cons x l ih=>
  obtain ⟨k,b⟩:=x
  simp only[qC]
  rcases List.mem_cons.1 h with rfl | h
  ·rw[if_neg (by simpa using hd)];exact List.mem_cons_self
  ·split
   ·exact ih h
   ·exact List.mem_cons_of_mem _ (ih h)
theorem Fy {l:List (Nat×Nat×Bool)} {d j k:Nat} (h:(j,k,false) ∈ l):(j,k,false) ∈ qD l d:=by
 induction l with
 | nil=>cases h
 | cons x l ih=>
  obtain ⟨k',n,b⟩:=x
  simp only[qD]
  rcases List.mem_cons.1 h with h | h
  ·injection h with h1 Y
   injection Y with Y h3
   subst h3
   simp[h1,Y]
  ·split
   ·exact ih h
   ·exact List.mem_cons_of_mem _ (ih h)
theorem xD {l:List (Nat×Nat×Bool)} {d:Nat} {e:Nat×Nat×Bool} (h:e ∈ qD l d):e ∈ l/\¬ (e.1=d/\e.2.2=true):=by
 induction l with
 | nil=>cases h
 | cons x l ih=>
  obtain ⟨k,n,b⟩:=x
  simp only[qD] at h
  split at h
  ·exact ⟨List.mem_cons_of_mem _ (ih h).1,(ih h).2⟩
  ·rename_i hk
   rcases List.mem_cons.1 h with rfl | h
   ·exact ⟨List.mem_cons_self,by simpa using hk⟩
   ·exact ⟨List.mem_cons_of_mem _ (ih h).1,(ih h).2⟩
theorem By {l:List (Nat×Nat×Path×List Nat)} {d:Nat} {e:Nat×Nat×Path×List Nat} (h:e ∈ Ba l d):e ∈ l/\e.1≠d:=by
 induction l with
 | nil=>cases h
 | cons x l ih=>
  obtain ⟨k,b⟩:=x
  simp only[Ba] at h
  split at h
  ·exact ⟨List.mem_cons_of_mem _ (ih h).1,(ih h).2⟩
  ·rename_i hk
   rcases List.mem_cons.1 h with rfl | h
   ·exact ⟨List.mem_cons_self,by simpa using hk⟩
   ·exact ⟨List.mem_cons_of_mem _ (ih h).1,(ih h).2⟩
theorem ly (v:List Nat):Below v (k_ v):=fun j x hj=>⟨x+1,by simp[k_,hj],by omega⟩
theorem uR {v:List Nat} (h:v.length=5):∃ b x y z w,v=[b,x,y,z,w]:=by
 match v,h with
 | [b,x,y,z,w],_=>exact ⟨b,x,y,z,w,rfl⟩
theorem Hs {b x y z w b' x' y' z' w':Nat} (h0:b<=b') (h1:x<=x') (Y:y<=y') (h3:z<=z') (h4:w<=w'):Below [b,x,y,z,w] [b',x',y',z',w']:=by
 intro j n hj
 match j,hj with
 | 0,hj=>exact ⟨b',rfl,by simp at hj;omega⟩
 | 1,hj=>exact ⟨x',rfl,by simp at hj;omega⟩
 | 2,hj=>exact ⟨y',rfl,by simp at hj;omega⟩
 | 3,hj=>exact ⟨z',rfl,by simp at hj;omega⟩
 | 4,hj=>exact ⟨w',rfl,by simp at hj;omega⟩
 | n+5,hj=>simp at hj
theorem mG (d:Nat) {v:List Nat} (h:v.length=5):Below v (l_ d v):=by
 obtain ⟨b,x,y,z,w,rfl⟩:=uR h
 match d with
 | 0 | 1 | 2 | n+3=>exact Hs (by omega) (by omega) (by omega) (by omega) (by omega)
theorem pk {v:List Nat} (h:v.length=5):Below v (oq v):=by
 obtain ⟨b,x,y,z,w,rfl⟩:=uR h
 exact Hs (by omega) (by omega) (by omega) (by omega) (by omega)
theorem uS {v:List Nat}:(k_ v).length=v.length:=by simp[k_]
theorem s_ (d:Nat) {v:List Nat} (h:v.length=5):(l_ d v).length=5:=by
 obtain ⟨b,x,y,z,w,rfl⟩:=uR h
 match d with
 | 0 | 1 | 2 | n+3=>rfl
theorem uT {v:List Nat} (h:v.length=5):(oq v).length=5:=by
 obtain ⟨b,x,y,z,w,rfl⟩:=uR h
 rfl
theorem xE {s v v':List Nat} (hs:Below s v) (hv:Below v v') (h:preB s v'=true) {j:Nat} (hj:v[j]?≠v'[j]?):s.length<=j:=by
 rcases Nat.lt_or_ge j s.length with h' | h'
 ·exact absurd ((vY hs hv h).2 j h') hj
 ·exact h'
theorem wo {s v:List Nat} (hl:v.length=5) (hs:Below s v) (h:preB s (k_ v)=true):s.length=0:=by
 obtain ⟨b,x,y,z,w,rfl⟩:=uR hl
 have:=xE hs (ly _) h (j:=0) (by simp[k_])
 omega
theorem uU {s v:List Nat} (d:Nat) (hl:v.length=5) (hs:Below s v) (h:preB s (l_ d v)=true):s.length<=min 4 (1+d):=by
 have h4:s.length<=4:=by
  refine xE hs (mG d hl) h ?_
  obtain ⟨b,x,y,z,w,rfl⟩:=uR hl
  match d with
  | 0 | 1 | 2 | n+3=>simp[l_]
 have hd:s.length<=1+d:=by
  rcases Nat.lt_or_ge d 3 with hd | hd
  ·refine xE hs (mG d hl) h ?_
   obtain ⟨b,x,y,z,w,rfl⟩:=uR hl
   match d,hd with
   | 0,_ | 1,_ | 2,_=>simp[l_]
  ·omega
 omega
theorem wR {s v:List Nat} (hl:v.length=5) (hs:Below s v) (h:preB s (oq v)=true):s.length<=4:=by
 refine xE hs (pk hl) h ?_
 obtain ⟨b,x,y,z,w,rfl⟩:=uR hl
 simp[oq]
section
variable {P:Program} {C:Ctx} {A A2:Cells} {X:FP} {σ:St} {a:Act} {w w2:World} {F:Nat->FP}
theorem hU (a:Act) (d:Nat) (v:Value) (i:Nat):tmp (a.put (some d) v) i=if d=i/\i < a.tmps.size then v else tmp a i:=by
 simp only[tmp,Act.put,Array.getD_eq_getD_getElem?,Array.getElem?_setIfInBounds]
 by_cases hd:d=i
 ·subst hd
  by_cases hs:d < a.tmps.size <;> simp[hs]
 ·simp[hd]
theorem qf {tv:Value} {s:Slot} {G:FP} {R:Pl} (h:a7 P A σ a w tv s G) (hR:bi w tv s=some R) :
  ∃ (m:Md) (v:R.t.den) (F1:FP),ai P w A R.t m R.H v R.cs F1/\(∀ b i,F1 b i<=G b i) /\
   (∀ b o,R.ad=some (b,o)->Has w b o R.cs/\(∀ x i,bj b o R.t.sz x i+F1 x i<=G x i)/\∀ j,j < R.t.sz->w.frozen? ⟨b,o+j,none⟩=false) /\
   ((∃ v',s=.own R.t m R.H v'/\HEq v v'/\R.ad=none)\/(∃ v',s=.box R.t m R.H v'/\HEq v v'/\R.ad.isSome=true)):=by
 cases s with
 | own t m H v=>
  simp only[bi,Option.some.injEq] at hR
  subst hR
  obtain ⟨cs,h1,Y⟩:=h
  refine ⟨m,v,G,?_,fun _ _=>Nat.le_refl _,(fun b o h=>by cases h),.inl ⟨v,rfl,HEq.rfl,rfl⟩⟩
  rw[h1,fu (ai.length t Y) (ai.one t Y)];exact Y
 | box t m H v=>
  obtain ⟨b,o,L,F1,h1,Y,h3,h4,h5,h6⟩:=h
  subst h1
  simp only[bi,Option.some.injEq] at hR
  subst hR
  refine ⟨m,v,F1,by rw[bt h3 Y];exact h6,fun x i=>by have:=h5 x i;omega,?_,.inr ⟨v,rfl,HEq.rfl,rfl⟩⟩
  intro b' o' Ht
  simp only[Option.some.injEq,Prod.mk.injEq] at Ht
  obtain ⟨rfl,rfl⟩:=Ht
  exact ⟨by rw[bt h3 Y];exact h3,h5,h4⟩
 | _=>simp[bi] at hR
theorem oA {tv:Value} {s:Slot} {G:FP} {R:Pl} (h:a7 P A σ a w tv s G) (hc:∀ b i,1<=G b i->∀ u,ce w b i=some u->ce w2 b i=some u)
  (hR:bi w tv s=some R):bi w2 tv s=some R:=by
 cases s with
 | own t m H v=>exact hR
 | box t m H v=>
  obtain ⟨b,o,L,F1,h1,Y,h3,h4,h5,h6⟩:=h
  subst h1
  simp only[bi,Option.some.injEq] at hR ⊢
  have:Has w2 b o L:=fun j u hu=>hc _ _ (by
   have hj:j < t.sz:=Y ▸ (List.getElem?_eq_some_iff.1 hu).1
   have:=h5 b (o+j);simp[bj,hj] at this;omega) u (h3 j u hu)
  rw[bt this Y,<- hR,bt h3 Y]
 | _=>simp[bi] at hR
theorem nw {σ':St} {a':Act} {r:Nat} {p:Path} {G:FP} {pl:Pl} (h:a7 P A σ a w (tmp a r) (σ.get r) G) (hg:σ'.get r=σ.get r) (ht:tmp a' r=tmp a r)
  (hA:∀ b i,A b i->∀ u,ce w b i=some u->ce w2 b i=some u) (hc:∀ b i,1<=G b i->∀ u,ce w b i=some u->ce w2 b i=some u)
  (hp:place σ a w r p=some pl):place σ' a' w2 r p=some pl:=by
 unfold place at hp ⊢
 rw[hg,ht]
 cases hR:bi w (tmp a r) (σ.get r) with
 | none=>rw[hR] at hp;cases hp
 | some R=>
  rw[hR] at hp
  rw[oA h hc hR]
  obtain ⟨m,v,F1,h1,Y,_⟩:=qf h hR
  exact nZ hA p R.t h1 (fun b i hh=>hc b i (Nat.le_trans hh (Y b i))) hp
theorem e8 {σ:St} {i:Nat} (h:¬ i < σ.n):σ.get i=.dead:=by simp[St.get,h]
theorem mH {r:Nat} {p:Path} {pl:Pl} (h:place σ a w r p=some pl):r < σ.n:=by
 rcases Nat.lt_or_ge r σ.n with h' | h'
 ·exact h'
 ·simp[place,e8 (Nat.not_lt.2 h'),bi] at h
theorem Rel.put (h:Rel P C A X σ a w F) {d:Nat} (hd:d < σ.n) {s:Slot} {v:Value} {Fd X':FP} (hs:a7 P A σ a w v s Fd) (ht:∀ b i,X' b i+Fd b i<=X b i+F d b i)
  (Hu:∀ t m H v',s=.box t m H v'->∃ b,v=.pointer (some ⟨b,0,none⟩)/\de w b (t.sz,false)) :
  Rel P C A X' (σ.put d s) (a.put (some d) v) w (bW F d Fd):=by
 have ez:=h.size
 have gD:o9 σ a w (σ.put d s) (a.put (some d) v) w:=by
  intro r p snap hb
  rw[qy,St.ok,qy]
  by_cases hr:d=r
  ·subst hr
   simp only[if_true]
   refine ⟨hb.trans (ly _),fun aA=>?_⟩
   have h0:=wo (h.ft d) hb aA
   exact ⟨(vY hb (ly _) aA).1,fun hl=>by omega⟩
  ·simp only[if_neg hr]
   refine ⟨hb,fun aA=>⟨aA,fun hl pl dO=>⟨pl.H,pl.cs,?_,fun _=>rfl⟩⟩⟩
   exact nw (h.dj r (mH dO)) (by rw[o_,if_neg (fun h=>hr h.1)]) (by rw[hU,if_neg (fun h=>hr h.1)]) (fun _ _ _ _ h=>h) (fun _ _ _ _ h=>h) dO
 have iR:∀ b i,X' b i+az σ.n (bW F d Fd) b i<=X b i+az σ.n F b i:=fun b i=>by
  have:=lN F hd Fd b i;have:=ht b i;omega
 refine ⟨by simp[Act.put,ez,St.put],by simpa [Act.put] using h.defers,fun i hi=>?_,?_,fun b i=>Nat.le_trans (iR b i) (h.iD b i),fun b i hp=>h.jn b i (Nat.le_trans hp (iR b i)),
  fun b i hp=>h.eh b i (hp.imp (fun hp=>Nat.le_trans hp (iR b i)) id),fun i=>?_,h.ext,fun b i hp=>h.own b i (Nat.le_trans hp (iR b i)),h.a0,h.a1,?_,?_,?_⟩
 ·have hi:i < σ.n:=hi
  rw[o_,hU,ez]
  by_cases KF:d=i
  ·subst KF
   rw[if_pos ⟨rfl,hi⟩,if_pos ⟨rfl,hi⟩]
   simp only[bW,if_true]
   exact a7.fY gD (fun _ _ h=>h) (fun _ _ _ _ h=>h) (fun _ _ h=>h) (fun _ _ _=>⟨fun _ h=>h,rfl⟩) hs
  ·rw[if_neg (fun h=>KF h.1),if_neg (fun h=>KF h.1)]
   simp only[bW,if_neg (fun h:i=d=>KF h.symm)]
   exact a7.fY gD (fun _ _ h=>h) (fun _ _ _ _ h=>h) (fun _ _ h=>h) (fun _ _ _=>⟨fun _ h=>h,rfl⟩) (h.dj i hi)
 ·intro d' r p snap hm
  obtain ⟨hm,ey⟩:=By hm
  rw[hU,if_neg (fun h=>ey h.1.symm)]
  exact ke.fY gD (h.gh d' r p snap hm)
 ·rw[qy]
  split
  ·rw[uS];exact h.ft d
  ·exact h.ft i
 ·intro j k hm
  obtain ⟨hm,ey⟩:=qe hm
  rw[hU,if_neg (fun h=>ey h.1.symm)]
  exact h.ii j k hm
 ·intro r t m H v' hg hl
  rw[o_] at hg
  rw[hU,ez]
  by_cases ul:d=r/\r < σ.n
  ·rw[if_pos ul] at hg ⊢
   exact Hu t m H v' hg
  ·rw[if_neg ul] at hg ⊢
   refine h.whole r t m H v' hg fun k hm=>hl k (xC hm fun e=>ul ⟨e.symm,?_⟩)
   rcases Nat.lt_or_ge r σ.n with hr | hr
   ·exact hr
   ·rw[e8 (Nat.not_lt.2 hr)] at hg;cases hg
 ·intro j k hm R hR
  obtain ⟨hm,ey⟩:=qe hm
  rw[hU,if_neg (fun h=>ey h.1.symm),o_,if_neg (fun h=>ey h.1.symm)] at hR
  exact h.gt j k hm R hR
theorem Rel.less (h:Rel P C A X σ a w F) {X':FP} (ht:∀ b i,X' b i<=X b i):Rel P C A X' σ a w F:=
 { h with
  iD:=fun b i=>by have:=h.iD b i;have:=ht b i;omega
  jn:=fun b i hp=>h.jn b i (by have:=ht b i;omega)
  eh:=fun b i hp=>h.eh b i (hp.imp (fun hp=>by have:=ht b i;omega) id)
  own:=fun b i hp=>h.own b i (by have:=ht b i;omega) }
theorem Ext.refl (w:World) (F:FP):Ext w w F:=⟨Nat.le_refl _,fun _ _ _ _ _ h=>h,fun _ _ h=>h,fun _ _ _=>rfl,rfl,rfl,rfl,fun _ _ _=>rfl,Nat.le_refl _⟩
theorem Ext.mono {F F':FP} (h:Ext w w2 F) (hF:∀ b i,F' b i=0->F b i=0):Ext w w2 F':={ h with cell:=fun b i hb hz=>h.cell b i hb (hF b i hz),obj:=fun b hb hz=>h.obj b hb fun i=>hF b i (hz i) }
theorem Ext.trans {w3:World} {F G:FP} (h:Ext w w2 F) (Y:Ext w2 w3 G) (hG:∀ b i,b < w.heap.size->F b i=0->G b i=0):Ext w w3 F:=
 ⟨Nat.le_trans h.size Y.size,fun b i hb hz u hu=>Y.cell b i (Nat.lt_of_lt_of_le hb h.size) (hG b i hb hz) u (h.cell b i hb hz u hu),fun b n hn=>Y.o3 b n (h.o3 b n hn),
  fun b i hb=>(Y.pO b i (Nat.lt_of_lt_of_le hb h.size)).trans (h.pO b i hb),Y.os.trans h.os,Y.tape.trans h.tape,Y.output.trans h.output,
  fun b hb hz=>(Y.obj b (Nat.lt_of_lt_of_le hb h.size) fun i=>hG b i hb (hz i)).trans (h.obj b hb hz),Nat.le_trans h.drawn Y.drawn⟩
theorem Rel.Ri (h:Rel P C A X σ a w F) {r:Nat} (hr:r < σ.n) {σ':St} (hn:σ'.n=σ.n) (mI:∀ i,i≠r->σ'.get i=σ.get i) (MH:∀ i,i≠r->σ'.eH i=σ.eH i)
  (Pa:Below (σ.eH r) (σ'.eH r)) (uV:(σ'.eH r).length=5) (ta:∀ e,e ∈ σ'.av->e ∈ σ.av) (MI:∀ j k,(j,k,false) ∈ σ.av->(j,k,false) ∈ σ'.av) (Hv:∀ e,e ∈ σ'.gh->e ∈ σ.gh)
  {X2 Bz:FP} {R:Pl} {H2:List Path} {bh:List Value} (hs:a7 P A2 σ' a w2 (tmp a r) (σ'.get r) Bz) (hR:bi w (tmp a r) (σ.get r)=some R)
  (Pb:bi w2 (tmp a r) (σ'.get r)=some ⟨R.t,H2,bh,R.ad⟩)
  (bb:∀ (p:Path) (snap:List Nat),Below snap (σ.eH r)->σ'.ok r snap=true->(snap.length=min 5 (1+bk p)\/snap.length=min 5 (2+bk p)\/snap.length=5) ->
   ∃ D full,bk p<=D/\(snap.length=min 5 (2+bk p)->bk p < D\/full)/\(snap.length=5->full)/\kE D full w R.t R.H R.cs R.ad w2 H2 bh)
  (hA:∀ b i,A b i->A2 b i) (Hw:∀ b i,A2 b i->A b i\/(1<=X b i+F r b i/\X2 b i+Bz b i=0))
  (hx:∀ b i,X2 b i+Bz b i<=X b i+F r b i) (hw:Ext w w2 fun b i=>X b i+F r b i) (Jq:∀ t m H v,σ'.get r=.box t m H v->∃ m0 H0 v0,σ.get r=.box t m0 H0 v0) (qO:∀ k,(r,k,true) ∈ σ'.av->bh=R.cs) :
  Rel P C A2 X2 σ' a w2 (bW F r Bz):=by
 have hle:∀ b i,X b i+F r b i<=X b i+az σ.n F b i:=fun b i=>by have:=be F hr b i;omega
 have lu:∀ b i,A b i->∀ u,ce w b i=some u->ce w2 b i=some u:=fun b i ha u hu=>by
  refine hw.cell b i (h.eh b i (.inr ha)) ?_ u hu
  rcases Nat.eq_zero_or_pos (X b i+F r b i) with h0 | h0
  ·exact h0
  ·exact absurd ha (h.jn b i (Nat.le_trans h0 (hle b i)))
 have uW:∀ j,j < σ.n->j≠r->∀ b i,1<=F j b i->(∀ u,ce w b i=some u->ce w2 b i=some u)/\w2.frozen? ⟨b,i,none⟩=w.frozen? ⟨b,i,none⟩:=fun j hj Hx b i hp=>by
  have h1:=mC F hj hr Hx b i
  have Y:=h.iD b i
  have hb:=h.eh b i (.inl (by have:=be F hj b i;omega))
  exact ⟨fun u hu=>hw.cell b i hb (by show X b i+F r b i=0;omega) u hu,hw.pO b i hb⟩
 have gD:o9 σ a w σ' a w2:=by
  intro r' p snap hb
  by_cases BA:r'=r
  ·subst BA
   refine ⟨hb.trans Pa,fun aA=>?_⟩
   refine ⟨(vY hb Pa aA).1,fun hl pl dO=>?_⟩
   obtain ⟨D,full,h1,Y,h3,h4⟩:=bb p snap hb aA hl
   unfold place at dO ⊢
   rw[hR] at dO
   rw[Pb]
   obtain ⟨H',aJ,h5,h6⟩:=h4 p pl h1 dO
   refine ⟨H',aJ,h5,fun h7=>h6 ?_⟩
   rcases h7 with ⟨h7,h8⟩ | h7
   ·exact (Y h8).imp (fun h=>⟨h,h7⟩) id
   ·exact .inr (h3 h7)
  ·rw[St.ok,MH r' BA]
   refine ⟨hb,fun aA=>⟨aA,fun hl pl dO=>⟨pl.H,pl.cs,?_,fun _=>rfl⟩⟩⟩
   have aj:=mH dO
   exact nw (h.dj r' aj) (mI r' BA) rfl lu (fun b i hp=>(uW r' aj BA b i hp).1) dO
 have iR:∀ b i,X2 b i+az σ.n (bW F r Bz) b i<=X b i+az σ.n F b i:=fun b i=>by
  have:=lN F hr Bz b i;have:=hx b i;omega
 refine ⟨by rw[hn];exact h.size,h.defers,fun i hi=>?_,fun d r' p snap hm=>ke.fY gD (h.gh d r' p snap (Hv _ hm)),fun b i=>by rw[hn];exact Nat.le_trans (iR b i) (h.iD b i),fun b i hp ha=>?_,
  fun b i hp=>?_,fun i=>?_,h.ext.trans hw fun b i hb hz=>?_,fun b i hp=>by rw[hn] at hp;exact h.own b i (Nat.le_trans hp (iR b i)),fun b i ha=>hA b i (h.a0 b i ha),fun b i ha=>?_,
  fun j k hm=>h.ii j k (ta _ hm),fun r' t m H v hg hl=>?_,fun j k hm R' dH=>?_⟩
 ·rw[hn] at hi
  by_cases xF:i=r
  ·subst xF;simp only[bW,if_true];exact hs
  ·simp only[bW,if_neg xF]
   rw[mI i xF]
   exact a7.fY gD hA lu hw.o3 (uW i hi xF) (h.dj i hi)
 ·rw[hn] at hp
  rcases Hw b i ha with ha | ⟨h1,Y⟩
  ·exact h.jn b i (Nat.le_trans hp (iR b i)) ha
  ·have h3:=h.iD b i
   have h4:=lN F hr Bz b i
   omega
 ·rw[hn] at hp
  refine Nat.lt_of_lt_of_le (h.eh b i ?_) hw.size
  rcases hp with hp | ha
  ·exact .inl (Nat.le_trans hp (iR b i))
  ·rcases Hw b i ha with ha | ⟨h1,_⟩
   ·exact .inr ha
   ·exact .inl (Nat.le_trans h1 (hle b i))
 ·by_cases xF:i=r
  ·subst xF;exact uV
  ·rw[MH i xF];exact h.ft i
 ·rcases Nat.eq_zero_or_pos (X b i+F r b i) with h0 | h0
  ·exact h0
  ·have:=h.own b i (Nat.le_trans h0 (hle b i));omega
 ·rcases Hw b i ha with ha | ⟨h1,_⟩
  ·exact h.a1 b i ha
  ·exact .inr (h.own b i (Nat.le_trans h1 (hle b i)))
 ·have:∃ m0 H0 v0,σ.get r'=.box t m0 H0 v0:=by
   by_cases BA:r'=r
   ·subst BA;exact Jq t m H v hg
   ·rw[mI r' BA] at hg;exact ⟨m,H,v,hg⟩
  obtain ⟨m0,H0,v0,MJ⟩:=this
  obtain ⟨b,h1,Y⟩:=h.whole r' t m0 H0 v0 MJ fun k hm=>hl k (MI _ _ hm)
  exact ⟨b,h1,hw.o3 _ _ Y⟩
 ·by_cases Hx:j=r
  ·subst Hx
   rw[Pb] at dH
   injection dH with dH
   subst dH
   show bf R.t bh=_
   rw[qO k hm]
   exact h.gt j k (ta _ hm) R hR
  ·rcases Nat.lt_or_ge j σ.n with hj | hj
   ·rw[mI j Hx] at dH
    have hK:=h.dj j hj
    cases nk:bi w (tmp a j) (σ.get j) with
    | none=>exfalso;cases hg:σ.get j <;> rw[hg] at nk dH <;> simp only[bi] at nk dH <;> first | (cases dH;done) | (cases nk;done) | (split at nk <;> simp_all)
    | some R0=>
     rw[oA hK (fun b i hp=>(uW j hj Hx b i hp).1) nk] at dH
     injection dH with dH
     subst dH
     exact h.gt j k (ta _ hm) _ nk
   ·rw[e8 (by rw[hn];omega)] at dH;cases dH
end
end OT
set_option linter.unusedVariables false
set_option linter.unusedSimpArgs false
namespace OT
open Go
def df (ad:Option (Nat×Nat)) (n:Nat):FP:=fun b i=>match ad with
 | some (b',o)=>bj b' o n b i
 | none=>0
section
variable {P:Program} {C:Ctx} {A:Cells} {X:FP} {σ:St} {a:Act} {w:World} {F:Nat->FP} {R:Type} {x:R}
theorem xG {r:Nat} {K:(t:Ty)->Md->List Path->t.den->Option R} (h:ot σ r K=some x) :
  r < σ.n/\∃ t m H v,(σ.get r=.own t m H v\/σ.get r=.box t m H v)/\K t m H v=some x:=by
 unfold ot at h
 rcases Nat.lt_or_ge r σ.n with hr | hr
 ·refine ⟨hr,?_⟩
  split at h
  ·rename_i t m H v hg;exact ⟨t,m,H,v,.inl hg,h⟩
  ·rename_i t m H v hg;exact ⟨t,m,H,v,.inr hg,h⟩
  ·cases h
 ·rw[e8 (Nat.not_lt.2 hr)] at h;cases h
structure MK (P:Program) (A:Cells) (σ:St) (a:Act) (w:World) (r:Nat) (G:FP) (t:Ty) (m:Md) (H:List Path) (v:t.den) (cs:List Value) (ad:Option (Nat×Nat)) (F1:FP):Prop where
 root:bi w (tmp a r) (σ.get r)=some ⟨t,H,cs,ad⟩
 rep:ai P w A t m H v cs F1
 le:∀ b i,df ad t.sz b i+F1 b i<=G b i
 has:∀ b o,ad=some (b,o)->Has w b o cs
 pO:∀ b o,ad=some (b,o)->∀ j,j < t.sz->w.frozen? ⟨b,o+j,none⟩=false
 val:ad=none->tmp a r=bf t cs/\σ.get r=.own t m H v
 ptr:∀ b o,ad=some (b,o)->tmp a r=.pointer (some ⟨b,o,none⟩)/\σ.get r=.box t m H v
theorem a7.root {r:Nat} {G:FP} (h:a7 P A σ a w (tmp a r) (σ.get r) G) {t:Ty} {m:Md} {H:List Path} {v:t.den} (hg:σ.get r=.own t m H v\/σ.get r=.box t m H v) :
  ∃ cs ad F1,MK P A σ a w r G t m H v cs ad F1:=by
 rcases hg with hg | hg
 ·rw[hg] at h
  obtain ⟨cs,h1,Y⟩:=h
  refine ⟨cs,none,G,by rw[hg];simp only[bi,h1,fu (ai.length t Y) (ai.one t Y)],Y,fun b i=>by simp[df],(fun b o h=>by cases h),(fun b o h=>by cases h),fun _=>⟨h1,hg⟩,(fun b o h=>by cases h)⟩
 ·rw[hg] at h
  obtain ⟨b,o,L,F1,h1,Y,h3,h4,h5,h6⟩:=h
  refine ⟨L,some (b,o),F1,by rw[hg,h1];simp only[bi,bt h3 Y],h6,fun b i=>h5 b i,?_,?_,(fun h=>by cases h),?_⟩
  ·intro b' o' e;simp only[Option.some.injEq,Prod.mk.injEq] at e;obtain ⟨rfl,rfl⟩:=e;exact h3
  ·intro b' o' e;simp only[Option.some.injEq,Prod.mk.injEq] at e;obtain ⟨rfl,rfl⟩:=e;exact h4
  ·intro b' o' e;simp only[Option.some.injEq,Prod.mk.injEq] at e;obtain ⟨rfl,rfl⟩:=e;exact ⟨h1,hg⟩
theorem fi (h:Rel P C A X σ a w F) {r:Nat} {p:Path} {K:(t:Ty)->Md->List Path->t.den->Option R} (hk:jz σ r p K=some x) :
  r < σ.n/\∃ (t':Ty) (m':Md) (H':List Path) (v':t'.den) (aJ:List Value) (aZ:Option (Nat×Nat)) (F':FP),K t' m' H' v'=some x/\(∀ {S:Type} (K0:(t:Ty)->Md->List Path->t.den->Option S),jz σ r p K0=K0 t' m' H' v')/\place σ a w r p=some ⟨t',H',aJ,aZ⟩/\ai P w A t' m' H' v' aJ F' /\
   (∀ b i,F' b i<=F r b i)/\(∀ b o,aZ=some (b,o)->Has w b o aJ):=by
 obtain ⟨hr,t,m,H,v,hg,hk⟩:=xG hk
 obtain ⟨cs,ad,F1,RO⟩:=(h.dj r hr).root hg
 obtain ⟨t',m',H',v',aJ,aZ,F',h1,hn,Y,h3,h4,h5,_⟩:=Mw p t hk RO.rep (ad:=ad) RO.has
 refine ⟨hr,t',m',H',v',aJ,aZ,F',h1,fun K0=>?_,?_,h3,fun b i=>by have:=h4 b i;have:=RO.le b i;omega,h5⟩
 ·unfold jz ot
  rcases hg with hg | hg <;> rw[hg] <;> exact hn K0
 unfold place
 rw[RO.root];exact Y
theorem po (r:Nat) (t:Ty) (m:Md) (H:List Path) (v:t.den) (i:Nat) (h:i≠r):(σ.dQ r t m H v).get i=σ.get i:=by
 unfold St.dQ
 split <;> rw[vZ,if_neg (fun e=>h e.1.symm)]
theorem oB {r:Nat} (hr:r < σ.n) {t t0:Ty} {m m0:Md} {H H0:List Path} {v0:t0.den} (v:t.den) (h:σ.get r=.own t0 m0 H0 v0):(σ.dQ r t m H v).get r=.own t m H v:=by
 unfold St.dQ
 rw[h];simp only[];rw[vZ,if_pos ⟨rfl,hr⟩]
theorem oC {r:Nat} (hr:r < σ.n) {t t0:Ty} {m m0:Md} {H H0:List Path} {v0:t0.den} (v:t.den) (h:σ.get r=.box t0 m0 H0 v0):(σ.dQ r t m H v).get r=.box t m H v:=by
 unfold St.dQ
 rw[h];simp only[];rw[vZ,if_pos ⟨rfl,hr⟩]
theorem mJ (r:Nat) (t:Ty) (m:Md) (H:List Path) (v:t.den):(σ.dQ r t m H v).n=σ.n:=by unfold St.dQ;split <;> rfl
theorem jY (r:Nat) (t:Ty) (m:Md) (H:List Path) (v:t.den) (i:Nat):(σ.dQ r t m H v).eH i=σ.eH i:=by unfold St.dQ;split <;> rfl
theorem lz (r:Nat) (t:Ty) (m:Md) (H:List Path) (v:t.den):(σ.dQ r t m H v).av=σ.av:=by unfold St.dQ;split <;> rfl
theorem tc (r:Nat) (t:Ty) (m:Md) (H:List Path) (v:t.den):(σ.dQ r t m H v).gh=σ.gh:=by unfold St.dQ;split <;> rfl
def jO (σ σ':St):Prop:=∀ (w:World) (tv:Value) (i:Nat) (R:Pl),bi w tv (σ'.get i)=some R->∃ H,bi w tv (σ.get i)=some ⟨R.t,H,R.cs,R.ad⟩
theorem jO.refl (σ:St):jO σ σ:=fun w tv i R h=>⟨R.H,h⟩
theorem jO.trans {σ σ' pa:St} (h:jO σ σ') (h':jO σ' pa):jO σ pa:=by
 intro w tv i R0 hR
 obtain ⟨H,h1⟩:=h' w tv i R0 hR
 exact h w tv i ⟨R0.t,H,R0.cs,R0.ad⟩ h1
theorem pP {r:Nat} (hr:r < σ.n) {t:Ty} {m m0:Md} {H H0:List Path} {v0:t.den} (v:t.den) (h:σ.get r=.own t m0 H0 v0\/σ.get r=.box t m0 H0 v0) {σ':St} (hg:∀ i,σ'.get i=(σ.dQ r t m H v).get i):jO σ σ':=by
 intro w tv i R hR
 rw[hg] at hR
 by_cases hi:i=r
 ·subst hi
  rcases h with h | h
  ·rw[oB hr v h] at hR
   rw[h]
   simp only[bi,Option.some.injEq] at hR ⊢
   subst hR
   exact ⟨H0,rfl⟩
  ·rw[oC hr v h] at hR
   rw[h]
   simp only[bi] at hR ⊢
   split at hR
   ·injection hR with hR;subst hR;exact ⟨H0,rfl⟩
   ·cases hR
 ·rw[po r t m H v i hi] at hR
  exact ⟨R.H,hR⟩
structure Jr (σ:St) (r:Nat) (s:Slot) (ML:Prop) (σ':St):Prop where
 n:σ'.n=σ.n
 get:∀ i,i≠r->σ'.get i=σ.get i
 root:σ'.get r=s
 eH:∀ i,i≠r->σ'.eH i=σ.eH i
 below:Below (σ.eH r) (σ'.eH r)
 ft:(σ'.eH r).length=5
 av:∀ e,e ∈ σ'.av->e ∈ σ.av
 KG:∀ j k,(j,k,false) ∈ σ.av->(j,k,false) ∈ σ'.av
 gh:∀ e,e ∈ σ'.gh->e ∈ σ.gh
 head:∀ k,(r,k,true) ∈ σ'.av->ML
theorem Rel.Fz (h:Rel P C A X σ a w F) {r:Nat} {p:Path} {f:(t':Ty)->Md->List Path->t'.den->(Md->List Path->t'.den->Option R)->Option R}
  {Kf:(t:Ty)->Md->List Path->t.den->Option R} (hk:ot σ r (fun t0 m0 H0 v0=>kd p t0 m0 H0 v0 f fun m' H' v'=>Kf t0 m' H' v')=some x) :
  r < σ.n/\∃ (t':Ty) (m':Md) (H':List Path) (v':t'.den) (aJ:List Value) (aZ:Option (Nat×Nat)) (F':FP) (kk:Md->List Path->t'.den->Option R),
   f t' m' H' v' kk=some x/\(∀ {S:Type} (K0:(t:Ty)->Md->List Path->t.den->Option S),jz σ r p K0=K0 t' m' H' v')/\place σ a w r p=some ⟨t',H',aJ,aZ⟩/\ai P w A t' m' H' v' aJ F' /\
   (∀ b i,df aZ t'.sz b i+F' b i<=F r b i)/\(∀ b o,aZ=some (b,o)->Has w b o aJ)/\(∀ b o,aZ=some (b,o)->∀ j,j < t'.sz->w.frozen? ⟨b,o+j,none⟩=false) /\
   ∀ m2 H2 (v2:t'.den),kk m2 H2 v2=some x->∀ (w2:World) (A2:Cells) (bh:List Value) (F2 X2:FP),
    Ext w w2 (fun b i=>X b i+(F' b i+df aZ t'.sz b i))->(∀ b i,A b i->A2 b i)->(∀ b i,A2 b i->A b i\/(1<=X b i+F' b i/\X2 b i+F2 b i=0)) ->
    (∀ b i,X2 b i+F2 b i<=X b i+F' b i)->(∀ b o,aZ=some (b,o)->Has w2 b o bh)->(aZ=none->bh=aJ)->ai P w2 A2 t' m2 H2 v2 bh F2 ->
    ∃ (t0:Ty) (m3:Md) (H3:List Path) (v3:t0.den) (Fr:FP) (A3:Cells),Kf t0 m3 H3 v3=some x/\(∃ (m0:Md) (H0:List Path) (v0:t0.den),σ.get r=.own t0 m0 H0 v0\/σ.get r=.box t0 m0 H0 v0)/\(∀ b i,A2 b i->A3 b i)/\(∀ b i,Fr b i<=F r b i+X b i) /\
     ∀ σ',Jr σ r ((σ.dQ r t0 m3 H3 v3).get r) (1<=bk p\/bh=aJ) σ' ->
      (∀ (p':Path) (snap:List Nat),Below snap (σ.eH r)->σ'.ok r snap=true->(snap.length=min 5 (1+bk p')\/snap.length=min 5 (2+bk p')\/snap.length=5) ->
       ∃ D full,bk p'<=D+bk p/\(snap.length=min 5 (2+bk p')->bk p' < D+bk p\/full)/\(snap.length=5->full)/\kE D full w t' H' aJ aZ w2 H2 bh) ->
      Rel P C A3 X2 σ' a w2 (bW F r Fr):=by
 obtain ⟨hr,t,m,H,v,hg,hk⟩:=xG hk
 obtain ⟨cs,ad,F1,RO⟩:=(h.dj r hr).root hg
 have pZ:∀ b i,X b i+F r b i<=1:=fun b i=>by have:=h.iD b i;have:=be F hr b i;omega
 have s8:∀ b o,ad=some (b,o)->∀ j,j < t.sz->F1 b (o+j)=0:=fun b o e j hj=>by
  have h1:=RO.le b (o+j);have Y:=pZ b (o+j)
  rw[e] at h1
  simp[df,bj,hj] at h1
  omega
 obtain ⟨t',m',H',v',aJ,aZ,F',G,kk,loc,M⟩:=Mx p t hk RO.rep (fun b i=>by have:=pZ b i;have:=RO.le b i;omega) RO.has s8
 have hlen:=ai.length t RO.rep
 have xH:∀ b i,df aZ t'.sz b i+F' b i<=F r b i/\(1<=df aZ t'.sz b i->1<=G b i\/1<=df ad t.sz b i)/\df aZ t'.sz b i<=1:=fun b i=>by
  have h1:=M.sum b i;have Y:=RO.le b i;have h3:=pZ b i
  cases cO:aZ with
  | none=>simp only[df];omega
  | some bo=>
   obtain ⟨b0,o0⟩:=bo
   simp only[df,bj]
   split
   ·rename_i en
    obtain ⟨rfl,MM,MN⟩:=en
    cases loc with
    | none=>
     obtain ⟨b',o',e1,e2⟩:=M.out rfl
     rw[cO] at e1
     simp only[Option.some.injEq,Prod.mk.injEq] at e1
     obtain ⟨rfl,rfl⟩:=e1
     have:=(e2 (i - o0) (by omega)).1
     rw[show o0+(i - o0)=i by omega] at this
     omega
    | some off=>
     obtain ⟨e1,e2,e3⟩:=M.mc off rfl
     cases nq:ad with
     | none=>rw[cO,nq] at e3;cases e3
     | some y=>
      rw[cO,nq] at e3
      simp only[cv,Option.map_some,Option.some.injEq,Prod.mk.injEq] at e3
      obtain ⟨rfl,rfl⟩:=e3
      have mF:bj y.1 y.2 t.sz y.1 i=1:=by simp[bj];omega
      rw[nq] at Y
      simp only[df,mF] at Y ⊢
      simp only[bj] at mF
      omega
   ·omega
 refine ⟨hr,t',m',H',v',aJ,aZ,F',kk,M.run,fun K0=>?_,by unfold place;rw[RO.root];exact M.place,M.rep,fun b i=>(xH b i).1,M.has,fun b o e j hj=>?_,?_⟩
 ·unfold jz ot
  rcases hg with hg | hg <;> rw[hg] <;> exact M.Ho K0
 ·cases loc with
  | none=>
   obtain ⟨b',o',e1,e2⟩:=M.out rfl
   rw[e] at e1
   simp only[Option.some.injEq,Prod.mk.injEq] at e1
   obtain ⟨rfl,rfl⟩:=e1
   exact (e2 j hj).2
  | some off=>
   obtain ⟨e1,e2,e3⟩:=M.mc off rfl
   cases nq:ad with
   | none=>rw[e,nq] at e3;cases e3
   | some y=>
    rw[e,nq] at e3
    simp only[cv,Option.map_some,Option.some.injEq,Prod.mk.injEq] at e3
    obtain ⟨rfl,rfl⟩:=e3
    have:=RO.pO y.1 y.2 nq (off+j) (by omega)
    rwa [<-Nat.add_assoc] at this
 intro m2 H2 v2 zM w2 A2 bh F2 X2 ca hA Hw hX uX Fu v6
 have n7:=ai.length t' v6
 have lu:∀ b i,A b i->∀ u,ce w b i=some u->ce w2 b i=some u:=fun b i ha u hu=>by
  refine ca.cell b i (h.eh b i (.inr ha)) ?_ u hu
  have h1:=(xH b i).1
  have Y:=be F hr b i
  have h3:=h.jn b i
  show X b i+(F' b i+df aZ t'.sz b i)=0
  rcases Nat.eq_zero_or_pos (X b i+az σ.n F b i) with h0 | h0
  ·omega
  ·exact absurd ha (h3 h0)
 have Pc:∀ b i,1<=G b i\/1<=df ad t.sz b i->(∀ o,aZ=some (b,o)->¬ (o<=i/\i < o+t'.sz))->∀ u,ce w b i=some u->ce w2 b i=some u:=fun b i hp hn u hu=>by
  have h1:=xH b i;have Y:=pZ b i;have h3:=M.sum b i;have h4:=RO.le b i
  refine ca.cell b i (h.eh b i (.inl (by have:=be F hr b i;omega))) ?_ u hu
  show X b i+(F' b i+df aZ t'.sz b i)=0
  have h5:df aZ t'.sz b i=0:=by
   cases cO:aZ with
   | none=>rfl
   | some bo=>
    obtain ⟨b0,o0⟩:=bo
    simp only[df,bj]
    split
    ·rename_i en
     obtain ⟨rfl,MM,MN⟩:=en
     exact absurd ⟨MM,MN⟩ (hn o0 cO)
    ·rfl
  omega
 have Ol:∀ b i,F2 b i+G b i<=1:=fun b i=>by
  have:=hX b i;have:=M.sum b i;have:=RO.le b i;have:=pZ b i;omega
 obtain ⟨m3,H3,v3,F3,k1,k2,k3,k4⟩:=M.back m2 H2 v2 zM w2 A2 bh F2 ca.o3 hA lu (fun b i hp hn=>Pc b i (.inl hp) hn) uX v6 Ol
 have Hy:(eR loc cs t'.sz bh).length=t.sz:=by
  cases loc with
  | none=>exact hlen
  | some off=>have:=(M.mc off rfl).1;simp only[eR];rw[m7 (by omega) n7,hlen]
 have oy:bh=aJ->eR loc cs t'.sz bh=cs:=fun e=>by
  cases loc with
  | none=>rfl
  | some off=>
   obtain ⟨e1,e2,_⟩:=M.mc off rfl
   rw[e,e2];exact qM (by omega)
 have FA:∀ b o,ad=some (b,o)->Has w2 b o (eR loc cs t'.sz bh):=fun b o e=>by
  have cells:∀ j u,cs[j]?=some u->(∀ o',aZ=some (b,o')->¬ (o'<=o+j/\o+j < o'+t'.sz))->ce w2 b (o+j)=some u:=fun j u hu hn=>by
   have hj:j < t.sz:=hlen ▸ (List.getElem?_eq_some_iff.1 hu).1
   exact Pc b (o+j) (.inr (by rw[e];simp[df,bj,hj])) hn u (RO.has b o e j u hu)
  cases BB:loc with
  | none=>
   intro j u hu
   refine cells j u hu fun o' he en=>?_
   have hj:j < t.sz:=hlen ▸ (List.getElem?_eq_some_iff.1 hu).1
   obtain ⟨b',Tt,e1,e2⟩:=M.out BB
   rw[he] at e1
   simp only[Option.some.injEq,Prod.mk.injEq] at e1
   obtain ⟨rfl,rfl⟩:=e1
   have h1:=(e2 (o+j - o') (by omega)).1
   rw[show o'+(o+j - o')=o+j by omega] at h1
   have Y:=RO.le b (o+j);have h3:=pZ b (o+j);have h4:=M.sum b (o+j)
   rw[e] at Y
   simp[df,bj,hj] at Y
   omega
  | some off=>
   obtain ⟨e1,e2,e3⟩:=M.mc off BB
   rw[e] at e3
   simp only[cv,Option.map_some] at e3
   exact Es (by omega) n7 (uX b (o+off) e3) (fun j u hu hn=>cells j u hu fun o' he en=>by
    rw[e3] at he
    simp only[Option.some.injEq,Prod.mk.injEq] at he
    omega)
 refine ⟨t,m3,H3,v3,fun b i=>df ad t.sz b i+F3 b i,fun b i=>A2 b i\/(1<=F2 b i+G b i/\F3 b i=0),k1,⟨m,H,v,hg⟩,fun _ _ h=>.inl h,fun b i=>?_,fun σ' on bb=>?_⟩
 ·have h1:=k2 b i;have Y:=hX b i;have h3:=M.sum b i;have h4:=RO.le b i
  show df ad t.sz b i+F3 b i<=_
  omega
 have FB:=k3 (fun b i=>A2 b i\/(1<=F2 b i+G b i/\F3 b i=0)) (fun _ _ h=>.inl h) (fun b i h1 Y=>.inr ⟨h1,Y⟩)
 have AS:a7 P (fun b i=>A2 b i\/(1<=F2 b i+G b i/\F3 b i=0)) σ' a w2 (tmp a r) (σ'.get r) (fun b i=>df ad t.sz b i+F3 b i)/\bi w2 (tmp a r) (σ'.get r)=some ⟨t,H3,eR loc cs t'.sz bh,ad⟩:=by
  rw[on.root]
  cases nq:ad with
  | none=>
   obtain ⟨e1,e2⟩:=RO.val nq
   have e3:eR loc cs t'.sz bh=cs:=by
    cases BB:loc with
    | none=>rfl
    | some off=>
     have:=(M.mc off BB).2.2
     rw[nq] at this
     rw[<-BB];exact oy (Fu this)
   rw[oB hr v3 e2]
   rw[e3] at FB ⊢
   exact ⟨⟨cs,e1,ai.le FB (fun b i=>by show F3 b i<=df none t.sz b i+F3 b i;omega)⟩,by simp only[bi,e1,fu hlen (ai.one t RO.rep)]⟩
  | some bo=>
   obtain ⟨b,o⟩:=bo
   obtain ⟨e1,e2⟩:=RO.ptr b o nq
   rw[oC hr v3 e2,e1]
   have hh:=FA b o nq
   refine ⟨⟨b,o,_,F3,rfl,Hy,hh,fun j hj=>?_,fun b' i=>?_,FB⟩,by simp only[bi,bt hh Hy]⟩
   ·have hb:b < w.heap.size:=h.eh b (o+j) (.inl (by
     have h1:=RO.le b (o+j);have Y:=be F hr b (o+j)
     rw[nq] at h1
     simp[df,bj,hj] at h1
     omega))
    rw[ca.pO b (o+j) hb]
    exact RO.pO b o nq j hj
   ·exact Nat.le_refl _
 refine h.Ri hr on.n on.get on.eH on.below on.ft on.av on.KG on.gh AS.1 RO.root AS.2 (fun p' snap h1 Y h3=>?_) (fun b i ha=>.inl (hA b i ha)) (fun b i ha=>?_) (fun b i=>?_) (ca.mono fun b i hz=>?_) (fun t5 m5 H5 v5 Hz=>?_) (fun k hm=>?_)
 ·obtain ⟨D,full,q1,q2,q3,q4⟩:=bb p' snap h1 Y h3
  exact ⟨D+bk p,full,q1,q2,q3,k4 D full q4⟩
 ·have h1:=hX b i;have Y:=k2 b i;have h3:=M.sum b i;have h4:=RO.le b i;have h5:=pZ b i
  rcases ha with ha | ⟨Rj,Rk⟩
  ·rcases Hw b i ha with ha | ⟨Rj,Rk⟩
   ·exact .inl ha
   ·right;omega
  ·right;omega
 ·have h1:=hX b i;have Y:=k2 b i;have h3:=M.sum b i;have h4:=RO.le b i
  show X2 b i+(df ad t.sz b i+F3 b i)<=_
  omega
 ·have h1:=(xH b i).1
  show X b i+(F' b i+df aZ t'.sz b i)=0
  omega
 ·rw[on.root] at Hz
  rcases hg with hg | hg
  ·rw[oB hr v3 hg] at Hz;cases Hz
  ·rw[oC hr v3 hg] at Hz
   injection Hz with e1 e2 e3 e4
   subst e1
   exact ⟨_,_,_,hg⟩
 ·rcases on.head k hm with hp | he
  ·rw[M.Ft hp];rfl
  ·exact oy he
end
end OT
set_option linter.unusedVariables false
set_option linter.unusedSimpArgs false
namespace OT
open Go
theorem ai.KH {P:Program} {w:World} {A:Cells}:∀ (t:Ty) {m:Md} {v:t.den} {cs:List Value} {F:FP},ai P w A t m [] v cs F->ai P w A t m (lr t) v cs (fun _ _=>0):=by
 intro t
 induction t with
 | pair a b eg dZ=>
  intro m v cs F h
  obtain ⟨_,F1,F2,hs,h1,Y⟩:=h
  refine ⟨by rw[lr,lg,jG,jG];rfl,fun _ _=>0,fun _ _=>0,fun _ _=>Nat.le_refl _,?_,?_⟩
  ·rw[lr,List.filterMap_append,ma,mD,List.append_nil];exact eg h1
  ·rw[lr,List.filterMap_append,mE,mb,List.nil_append];exact dZ Y
 | U e ih=>
  intro m v cs F h
  have h1:=ai.length _ h
  have Y:=ai.one _ h
  match cs,h1 with
  | [y],_=>simp only[ai,lr,hole,List.any_cons,List.isEmpty_nil,Bool.true_or,if_true];exact ⟨y,rfl,Y y (by simp)⟩
 | ptr e ih=>
  intro m v cs F h
  have h1:=ai.length _ h
  have Y:=ai.one _ h
  match cs,h1 with
  | [y],_=>simp only[ai,lr,hole,List.any_cons,List.isEmpty_nil,Bool.true_or,if_true];exact ⟨y,rfl,Y y (by simp)⟩
 | arr n e ih=>intro m v cs F h;rw[lr,h.2.1];exact h
 | map k v=>
  intro m v cs F h
  have h1:=ai.length _ h
  have Y:=ai.one _ h
  match cs,h1 with
  | [y],_=>simp only[ai,lr,hole,List.any_cons,List.isEmpty_nil,Bool.true_or,if_true];exact ⟨y,rfl,Y y (by simp)⟩
 | _=>intro m v cs F h;exact h
section
variable {P:Program} {C:Ctx} {A:Cells} {X:FP} {σ:St} {a:Act} {w:World} {F:Nat->FP} {R:Type} {x:R}
structure At (σ:St) (r:Nat) (p:Path) (t:Ty) (m:Md) (H:List Path) (v:t.den):Prop where
 eq:∀ {S:Type} (K0:(t:Ty)->Md->List Path->t.den->Option S),jz σ r p K0=K0 t m H v
theorem At.inj {r:Nat} {p:Path} {t t':Ty} {m m':Md} {H H':List Path} {v:t.den} {v':t'.den} (h:At σ r p t m H v) (h':At σ r p t' m' H' v'):t=t'/\m=m'/\H=H'/\HEq v v':=by
 have h1:=h.eq (fun t m H v=>some (⟨t,m,H,v⟩:(t:Ty)×Md×List Path×t.den))
 rw[h'.eq] at h1
 injection h1 with h1
 injection h1 with h1 Y
 subst h1
 have Y:=eq_of_heq Y
 simp only[Prod.mk.injEq] at Y
 exact ⟨rfl,Y.1.symm,Y.2.1.symm,heq_of_eq Y.2.2.symm⟩
theorem xI (σ:St) (r d:Nat):(σ.head r d).n=σ.n:=by unfold St.head;split <;> rfl
theorem qP (σ:St) (r d i:Nat):(σ.head r d).get i=σ.get i:=by unfold St.head;split <;> rfl
theorem qQ (σ:St) (r d i:Nat):(σ.head r d).eH i=σ.eH i:=by unfold St.head;split <;> rfl
theorem Eu (σ:St) (r d:Nat):(σ.head r d).gh=σ.gh:=by unfold St.head;split <;> rfl
theorem BC {r d:Nat} {f:List Nat->List Nat} (h1:Below (σ.eH r) (f (σ.eH r))) (Y:(f (σ.eH r)).length=5) {t:Ty} {m:Md} {H:List Path} {v:t.den} {q:Prop} (hq:1<=d->q) :
  Jr σ r ((σ.dQ r t m H v).get r) q (((σ.dQ r t m H v).eY r f).head r d) where
 n:=by rw[xI];exact mJ r t m H v
 get i hi:=by rw[qP];exact po r t m H v i hi
 root:=by rw[qP];rfl
 eH i hi:=by rw[qQ,jN,if_neg (fun e=>hi e.symm),jY]
 below:=by rw[qQ,jN,if_pos rfl,jY];exact h1
 ft:=by rw[qQ,jN,if_pos rfl,jY];exact Y
 av e he:=by
  unfold St.head at he
  split at he
  ·have:=(xD he).1;simp only[St.eY,lz] at this;exact this
  ·simp only[St.eY,lz] at he;exact he
 KG j k hm:=by
  unfold St.head
  split
  ·refine Fy ?_;simp only[St.eY,lz];exact hm
  ·simp only[St.eY,lz];exact hm
 gh e he:=by rw[Eu] at he;simp only[St.eY,tc] at he;exact he
 head k hm:=by
  unfold St.head at hm
  split at hm
  ·exact absurd ⟨rfl,rfl⟩ (xD hm).2
  ·rename_i hd;exact hq (Nat.pos_of_ne_zero hd)
theorem BD (h:Rel P C A X σ a w F) {r:Nat} {p:Path} {K:St->Option R} (hk:qc σ r p K=some x) {t':Ty} {m':Md} {v':t'.den} (hn:At σ r p t' m' [] v') :
  ∃ (A':Cells) (σ':St) (F':Nat->FP) (cs:List Value) (ad:Option (Nat×Nat)) (Fv:FP),K σ'=some x/\(∀ b i,A b i->A' b i)/\Rel P C A' (fun b i=>X b i+Fv b i) σ' a w F'/\σ'.n=σ.n/\jO σ σ' /\
   place σ a w r p=some ⟨t',[],cs,ad⟩/\ai P w A t' m' [] v' cs Fv/\∀ b i,Fv b i<=F r b i:=by
 obtain ⟨hr,t1,m1,H1,v1,cs,ad,Fv,kk,h1,Y,h3,h4,h5,h6,h7,h8⟩:=h.Fz hk
 obtain ⟨e1,e2,e3,e4⟩:=hn.inj ⟨Y⟩
 subst e1;subst e2;subst e3
 have e4:=eq_of_heq e4
 subst e4
 obtain ⟨t0,m3,H3,v3,Fr,A3,k1,⟨m0,H0,v0,k0⟩,k2,k3,k4⟩:=h8 _ _ _ h1 w A cs (fun _ _=>0) (fun b i=>X b i+Fv b i) (Ext.refl _ _) (fun _ _ h=>h) (fun _ _ h=>.inl h) (fun b i=>Nat.le_refl _) h6 (fun _=>rfl) (ai.KH _ h4)
 refine ⟨A3,_,_,cs,ad,Fv,k1,k2,k4 _ (BC (mG _ (h.ft r)) (s_ _ (h.ft r)) .inl) (fun p' snap hb aA hl=>?_),?_,pP hr v3 k0 (fun i=>by rw[qP];rfl),h3,h4,fun b i=>by have:=h5 b i;omega⟩
 ·refine ⟨0,False,?_,?_,?_,kE.zero (A:=A) ad (ai.KH _ h4)⟩
  all_goals
   unfold St.ok at aA
   rw[qQ,jN,if_pos rfl,jY] at aA
   have:=uU (bk p) (h.ft r) hb aA
  ·omega
  ·intro;left;omega
  ·omega
 ·rw[xI];exact mJ _ _ _ _ _
theorem zj (h:Rel P C A X σ a w F) {r:Nat} {p:Path} {K:St->Option R} (hk:qc σ r p K=some x) {t':Ty} {m':Md} {v':t'.den} (hn:At σ r p t' m' [] v') :
  ∃ (A':Cells) (σ':St) (F':Nat->FP) (cs:List Value) (ad:Option (Nat×Nat)) (Fv:FP),K σ'=some x/\(∀ b i,A b i->A' b i)/\Rel P C A' (fun b i=>X b i+Fv b i) σ' a w F'/\σ'.n=σ.n/\jO σ σ' /\
   place σ a w r p=some ⟨t',[],cs,ad⟩/\ai P w A t' m' [] v' cs Fv:=
 have ⟨A',σ',F',cs,ad,Fv,h1,Y,h3,h4,h5,h6,h7,_⟩:=BD h hk hn
 ⟨A',σ',F',cs,ad,Fv,h1,Y,h3,h4,h5,h6,h7⟩
theorem zN {r:Nat} (hv:(σ.eH r).length=5) {t:Ty} {m:Md} {H:List Path} {v:t.den} {q:Prop} (hq:q):Jr σ r ((σ.dQ r t m H v).get r) q (σ.dQ r t m H v):=
 ⟨mJ _ _ _ _ _,fun i hi=>po _ _ _ _ _ i hi,rfl,fun i _=>jY _ _ _ _ _ i,by rw[jY];exact Below.refl _,by rw[jY];exact hv,
  fun e he=>by rw[lz] at he;exact he,fun j k hm=>by rw[lz];exact hm,fun e he=>by rw[tc] at he;exact he,fun _ _=>hq⟩
theorem Dx (h:Rel P C A X σ a w F) {r:Nat} {p:Path} {m2:Md} {K:St->Option R} (hk:nU σ r p m2 K=some x) :
  ∃ (A':Cells) (σ':St) (F':Nat->FP),K σ'=some x/\(∀ b i,A b i->A' b i)/\Rel P C A' X σ' a w F'/\σ'.n=σ.n/\jO σ σ':=by
 obtain ⟨hr,t1,m1,H1,v1,cs,ad,Fv,kk,h1,Y,h3,h4,h5,h6,h7,h8⟩:=h.Fz hk
 have pZ:∀ b i,X b i+F r b i<=1:=fun b i=>by have:=h.iD b i;have:=be F hr b i;omega
 split at h1
 ·rename_i hc
  simp only[Bool.and_eq_true,List.isEmpty_iff] at hc
  obtain ⟨rfl,hc⟩:=hc
  obtain ⟨F1,BE,cx⟩:=ai.fits _ hc h4 (fun b i=>by have:=h5 b i;have:=pZ b i;omega)
  have AT:=cx (fun b i=>A b i\/(1<=Fv b i/\F1 b i=0)) (fun _ _ h=>.inl h) (fun b i h1 Y=>.inr ⟨h1,Y⟩)
  obtain ⟨t0,m3,H3,v3,Fr,A3,k1,⟨m0,H0,v0,k0⟩,k2,k3,k4⟩:=h8 _ _ _ h1 w (fun b i=>A b i\/(1<=Fv b i/\F1 b i=0)) cs F1 X (Ext.refl _ _) (fun _ _ h=>.inl h)
   (fun b i ha=>ha.imp id fun ⟨h1,Y⟩=>⟨by omega,by have:=h5 b i;have:=pZ b i;omega⟩) (fun b i=>by have:=BE b i;omega) h6 (fun _=>rfl) AT
  exact ⟨A3,_,_,k1,fun b i ha=>k2 b i (.inl ha),k4 _ (zN (h.ft r) (.inr rfl)) (fun p' snap hb aA hl=>⟨bk p'+1,True,by omega,fun _=>.inr trivial,fun _=>trivial,
   kE.same ad h4 (fun _ _ _ _ h=>h) (fun _ _ _ _ h=>h) _ True⟩),mJ _ _ _ _ _,pP hr v3 k0 (fun i=>rfl)⟩
 ·cases h1
theorem uY (h:Rel P C A X σ a w F) {r:Nat} {p:Path} {K:St->Option R} (hk:qx σ r p K=some x) :
  ∃ (A':Cells) (σ':St) (F':Nat->FP) (t':Ty) (m':Md) (v':t'.den) (cs:List Value) (ad:Option (Nat×Nat)),K σ'=some x/\(∀ b i,A b i->A' b i)/\Rel P C A' X σ' a w F'/\σ'.n=σ.n/\jO σ σ' /\
   At σ r p t' m' [] v'/\place σ a w r p=some ⟨t',[],cs,ad⟩/\Ro P w A' t' v' cs:=by
 obtain ⟨hr,t1,m1,H1,v1,cs,ad,Fv,kk,h1,Y,h3,h4,h5,h6,h7,h8⟩:=h.Fz hk
 have pZ:∀ b i,X b i+F r b i<=1:=fun b i=>by have:=h.iD b i;have:=be F hr b i;omega
 split at h1
 ·rename_i hc
  simp only[Bool.and_eq_true,List.isEmpty_iff] at hc
  obtain ⟨rfl,hc⟩:=hc
  have ls:Ro P w (fun b i=>A b i\/1<=Fv b i) t1 v1 cs:=ai.ox (fun _ _ h=>.inl h) t1 h4 (fun b i hp=>.inr hp)
  obtain ⟨t0,m3,H3,v3,Fr,A3,k1,⟨m0,H0,v0,k0⟩,k2,k3,k4⟩:=h8 _ _ _ h1 w (fun b i=>A b i\/1<=Fv b i) cs (fun _ _=>0) X (Ext.refl _ _) (fun _ _ h=>.inl h)
   (fun b i ha=>ha.imp id fun h1=>⟨by omega,by have:=h5 b i;have:=pZ b i;omega⟩) (fun b i=>by omega) h6 (fun _=>rfl) (Ro.rep _ _ (cM _) ls)
  exact ⟨A3,_,_,t1,m1,v1,cs,ad,k1,fun b i ha=>k2 b i (.inl ha),k4 _ (zN (h.ft r) (.inr rfl)) (fun p' snap hb aA hl=>⟨bk p'+1,True,by omega,fun _=>.inr trivial,fun _=>trivial,
   kE.same ad h4 (fun _ _ _ _ h=>h) (fun _ _ _ _ h=>h) _ True⟩),mJ _ _ _ _ _,pP hr v3 k0 (fun i=>rfl),⟨Y⟩,h3,Ro.mono (fun _ _ _ _ h=>h) k2 _ ls⟩
 ·cases h1
theorem a8 {t t':Ty} {v:t.den} {K:t'.den->Option R} (h:dT t t' v K=some x):∃ e:t=t',K (e ▸ v)=some x:=by
 unfold dT at h
 split at h
 ·rename_i e;exact ⟨e,h⟩
 ·cases h
theorem sA (h:Rel P C A X σ a w F) {r:Nat} {p:Path} {t:Ty} {m:Md} {v:t.den} {K:St->Option R} (hk:np σ r p t m v K=some x) :
  r < σ.n/\∃ (m':Md) (H':List Path) (v':t.den) (cs:List Value) (ad:Option (Nat×Nat)) (F':FP),At σ r p t m' H' v'/\place σ a w r p=some ⟨t,H',cs,ad⟩/\ai P w A t m' H' v' cs F' /\
   (∀ b i,df ad t.sz b i+F' b i<=F r b i)/\(∀ b o,ad=some (b,o)->Has w b o cs/\∀ j,j < t.sz->w.frozen? ⟨b,o+j,none⟩=false) /\
   ∀ (w2:World) (A2:Cells) (bh:List Value) (Fv X2:FP),Ext w w2 (fun b i=>X b i+(F' b i+df ad t.sz b i))->(∀ b i,A b i->A2 b i)->(∀ b i,A2 b i->A b i\/(1<=X b i+F' b i/\X2 b i+Fv b i=0)) ->
    (∀ b i,X2 b i+Fv b i<=X b i+F' b i)->(∀ b o,ad=some (b,o)->Has w2 b o bh)->(ad=none->bh=cs)->ai P w2 A2 t m [] v bh Fv ->
    ∃ (A3:Cells) (σ':St) (Fr:FP),K σ'=some x/\(∀ b i,A2 b i->A3 b i)/\Rel P C A3 X2 σ' a w2 (bW F r Fr)/\σ'.n=σ.n /\
     ∀ g:List Nat->List Nat,Below (σ.eH r) (g (σ.eH r))->(g (σ.eH r)).length=5->bh=cs ->
      (∀ (p':Path) (snap:List Nat),Below snap (σ.eH r)->preB snap (g (σ.eH r))=true->(snap.length=min 5 (1+bk p')\/snap.length=min 5 (2+bk p')\/snap.length=5) ->
       ∃ D full,bk p'<=D+bk p/\(snap.length=min 5 (2+bk p')->bk p' < D+bk p\/full)/\(snap.length=5->full)/\kE D full w t H' cs ad w2 [] bh) ->
      Rel P C A3 X2 { σ' with vr:=(σ.eY r g).vr,av:=σ.av } a w2 (bW F r Fr):=by
 obtain ⟨hr,t1,m1,H1,v1,cs,ad,Fv,kk,h1,Y,h3,h4,h5,h6,h7,h8⟩:=h.Fz hk
 obtain ⟨e,h1⟩:=a8 h1
 subst e
 refine ⟨hr,m1,H1,v1,cs,ad,Fv,⟨Y⟩,h3,h4,h5,fun b o e=>⟨h6 b o e,h7 b o e⟩,fun w2 A2 bh Rl X2 g1 g2 g3 g4 g5 g6 g7=>?_⟩
 obtain ⟨t0,m3,H3,v3,Fr,A3,k1,⟨m0,H0,v0,k0⟩,k2,k3,k4⟩:=h8 m [] v h1 w2 A2 bh Rl X2 g1 g2 g3 g4 g5 g6 g7
 refine ⟨A3,_,Fr,k1,k2,k4 _ (BC ?_ ?_ .inl) (fun p' snap hb aA hl=>?_),?_,fun g Rm Rn lE bb=>?_⟩
 ·split
  ·exact pk (h.ft r)
  ·exact mG _ (h.ft r)
 ·split
  ·exact uT (h.ft r)
  ·exact s_ _ (h.ft r)
 ·unfold St.ok at aA
  rw[qQ,jN,if_pos rfl,jY] at aA
  by_cases hf:t.flat=true
  ·rw[if_pos hf] at aA
   have:=wR (h.ft r) hb aA
   exact ⟨bk p'+1,False,by omega,fun _=>.inl (by omega),fun _=>by omega,kE.flat (A:=A) ad g7 hf _⟩
  ·rw[if_neg hf] at aA
   have:=uU (bk p) (h.ft r) hb aA
   exact ⟨0,False,by omega,fun _=>.inl (by omega),fun _=>by omega,kE.zero (A:=A) ad g7⟩
 ·rw[xI];exact mJ _ _ _ _ _
 ·refine k4 _ ⟨by rw[xI];exact mJ _ _ _ _ _,fun i hi=>?_,?_,fun i hi=>?_,?_,?_,fun e he=>he,fun j k hm=>hm,fun e he=>?_,fun _ _=>.inr lE⟩ (fun p' snap hb aA hl=>bb p' snap hb ?_ hl)
  ·show (((σ.dQ r t0 m3 H3 v3).eY r _).head r _).get i=_
   rw[qP];exact po r t0 m3 H3 v3 i hi
  ·show (((σ.dQ r t0 m3 H3 v3).eY r _).head r _).get r=_
   rw[qP];rfl
  ·show (σ.eY r g).eH i=σ.eH i
   rw[jN,if_neg (fun e=>hi e.symm)]
  ·show Below _ ((σ.eY r g).eH r)
   rw[jN,if_pos rfl];exact Rm
  ·show ((σ.eY r g).eH r).length=5
   rw[jN,if_pos rfl];exact Rn
  ·have he:e ∈ (((σ.dQ r t0 m3 H3 v3).eY r _).head r _).gh:=he
   rw[Eu] at he;simp only[St.eY,tc] at he;exact he
  ·have aA:preB snap ((σ.eY r g).eH r)=true:=aA
   rw[jN,if_pos rfl] at aA;exact aA
end
end OT
set_option linter.unusedVariables false
set_option linter.unusedSimpArgs false
namespace OT
open Go
section
variable {P:Program} {C:Ctx} {A:Cells} {X:FP} {σ:St} {a:Act} {w:World} {F:Nat->FP} {R:Type} {x:R}
theorem Rel.grow (h:Rel P C A X σ a w F) {w1:World} (hw:Ext w w1 (fun _ _=>0)) {A1:Cells} {X1:FP} (hA:∀ b i,A b i->A1 b i)
  (uZ:∀ b i,A1 b i->A b i\/(w.heap.size<=b/\b < w1.heap.size/\X1 b i=0)) (hX:∀ b i,X1 b i<=X b i\/(w.heap.size<=b/\b < w1.heap.size/\X1 b i<=1)):Rel P C A1 X1 σ a w1 F:=by
 have lu:∀ b i,A b i->∀ u,ce w b i=some u->ce w1 b i=some u:=fun b i ha u hu=>hw.cell b i (h.eh b i (.inr ha)) rfl u hu
 have BF:∀ b i,w.heap.size<=b->az σ.n F b i=0:=fun b i hb=>by
  rcases Nat.eq_zero_or_pos (az σ.n F b i) with h0 | h0
  ·exact h0
  ·have:=h.eh b i (.inl (by omega));omega
 have uW:∀ j,j < σ.n->∀ b i,1<=F j b i->(∀ u,ce w b i=some u->ce w1 b i=some u)/\w1.frozen? ⟨b,i,none⟩=w.frozen? ⟨b,i,none⟩:=fun j hj b i hp=>by
  have hb:=h.eh b i (.inl (by have:=be F hj b i;omega))
  exact ⟨fun u hu=>hw.cell b i hb rfl u hu,hw.pO b i hb⟩
 have gD:o9 σ a w σ a w1:=fun r p snap hb=>⟨hb,fun aA=>⟨aA,fun hl pl dO=>⟨pl.H,pl.cs,by
  have aj:=mH dO
  exact nw (h.dj r aj) rfl rfl lu (fun b i hp=>(uW r aj b i hp).1) dO,fun _=>rfl⟩⟩⟩
 refine ⟨h.size,h.defers,fun i hi=>a7.fY gD hA lu hw.o3 (uW i hi) (h.dj i hi),fun d r p snap hm=>ke.fY gD (h.gh d r p snap hm),fun b i=>?_,fun b i hp ha=>?_,fun b i hp=>?_,
  h.ft,h.ext.trans hw (fun _ _ _ _=>rfl),fun b i hp=>?_,fun b i ha=>hA b i (h.a0 b i ha),fun b i ha=>?_,h.ii,fun r t m H v hg hl=>?_,fun j k hm R' dH=>?_⟩
 ·have h1:=h.iD b i
  rcases hX b i with Y | ⟨Y,h3,h4⟩
  ·omega
  ·have:=BF b i Y;omega
 ·rcases uZ b i ha with ha | ⟨h1,Y,h3⟩
  ·have aj:=h.eh b i (.inr ha)
   rcases hX b i with Y | ⟨Y,_⟩
   ·exact h.jn b i (by omega) ha
   ·omega
  ·have:=BF b i h1;omega
 ·rcases hp with hp | ha
  ·rcases hX b i with Y | ⟨Y,h3,_⟩
   ·exact Nat.lt_of_lt_of_le (h.eh b i (.inl (by omega))) hw.size
   ·exact h3
  ·rcases uZ b i ha with ha | ⟨h1,Y,h3⟩
   ·exact Nat.lt_of_lt_of_le (h.eh b i (.inr ha)) hw.size
   ·exact Y
 ·rcases hX b i with Y | ⟨Y,_⟩
  ·exact h.own b i (by omega)
  ·exact .inr (Nat.le_trans h.ext.size Y)
 ·rcases uZ b i ha with ha | ⟨h1,_⟩
  ·exact h.a1 b i ha
  ·exact .inr (.inr (Nat.le_trans h.ext.size h1))
 ·obtain ⟨b,h1,Y⟩:=h.whole r t m H v hg hl
  exact ⟨b,h1,hw.o3 _ _ Y⟩
 ·rcases Nat.lt_or_ge j σ.n with hj | hj
  ·have hK:=h.dj j hj
   cases nk:bi w (tmp a j) (σ.get j) with
   | none=>exfalso;cases hg:σ.get j <;> rw[hg] at nk dH <;> simp only[bi] at nk dH <;> first | (cases dH;done) | (cases nk;done) | (split at nk <;> simp_all)
   | some R0=>
    rw[oA hK (fun b i hp=>(uW j hj b i hp).1) nk] at dH
    injection dH with dH
    subst dH
    exact h.gt j k hm _ nk
  ·rw[e8 (Nat.not_lt.2 hj)] at dH;cases dH
def bn (P:Program):Operand->Bool
 | .func f=>(P.funcs[f]?).any (·.nfree == 0)
 | _=>true
theorem b9 (h:Rel P C A X σ a w F) {o:Operand} (ho:bn P o=true):a7 P A σ a w (a.eval o) (bs σ o) (fun _ _=>0)\/∃ xs,bs σ o=.kC xs:=by
 cases o with
 | tmp i=>
  show a7 P A σ a w (tmp a i) _ _\/_
  rcases Nat.lt_or_ge i σ.n with hi | hi
  ·have hs:=h.dj i hi
   simp only[bs]
   cases hg:σ.get i with
   | own t m H v=>
    rw[hg] at hs
    obtain ⟨cs,h1,Y⟩:=hs
    left
    have dO:place σ a w i []=some ⟨t,H,cs,none⟩:=by
     unfold place;rw[hg];simp only[bi,h1,fu (ai.length t Y) (ai.one t Y),Option.bind_some,aG]
    have h5:=h.ft i
    refine ⟨?_,fun _=>⟨_,dO,h1,?_⟩⟩
    ·unfold nW
     split
     ·intro j y hj;rw[List.getElem?_take] at hj;split at hj;exact ⟨y,hj,Nat.le_refl _⟩;cases hj
     ·intro j y hj;rw[List.getElem?_take] at hj;split at hj;exact ⟨y,hj,Nat.le_refl _⟩;cases hj
     ·exact Below.refl _
    ·unfold nW
     split
     ·left;simp[nD,bk,h5]
     ·left;simp[nD,bk,h5]
     ·right;exact h5
   | box t m H v=>
    rw[hg] at hs
    obtain ⟨b,o,L,F1,h1,Y,h3,h4,h5,h6⟩:=hs
    left
    have Rp:=h.ft i
    refine ⟨?_,fun _=>⟨⟨t,H,L,some (b,o)⟩,b,o,?_,rfl,h1,by simp[nV,bk,Rp]⟩⟩
    ·unfold nV
     intro j y hj;rw[List.getElem?_take] at hj;split at hj;exact ⟨y,hj,Nat.le_refl _⟩;cases hj
    ·unfold place;rw[hg,h1];simp only[bi,bt h3 Y,Option.bind_some,aG]
   | kC xs=>exact .inr ⟨xs,rfl⟩
   | dead=>exact .inl trivial
   | oo=>rw[hg] at hs;exact .inl hs
   | val t v=>rw[hg] at hs;exact .inl hs
   | cp t v=>rw[hg] at hs;exact .inl hs
   | ref r p snap=>rw[hg] at hs;exact .inl hs
   | ptr r p snap=>rw[hg] at hs;exact .inl hs
   | sub r p snap lo hi=>rw[hg] at hs;exact .inl hs
  ·simp only[bs,e8 (Nat.not_lt.2 hi)];exact .inl trivial
 | const v=>
  left
  show a7 P A σ a w v (pA v) _
  unfold pA
  split
  ·split
   ·rename_i hn;exact ⟨[_],rfl,by simp only[Ro,jg];rw[hn]⟩
   ·trivial
  ·exact ⟨[_],rfl,rfl⟩
  ·exact ⟨[_],rfl,rfl⟩
  ·exact ⟨[_],rfl,rfl⟩
  ·exact ⟨[_],rfl,rfl⟩
  ·exact ⟨[_],rfl,rfl⟩
  ·exact ⟨[_],rfl,by simp[Ro]⟩
  ·rfl
  ·trivial
 | func f=>
  left
  simp only[bn,Option.any_eq_true,beq_iff_eq] at ho
  obtain ⟨fn,h1,Y⟩:=ho
  exact ⟨[_],rfl,#[],rfl,fn,h1,.inl ⟨Y,rfl⟩⟩
 | global g=>exact .inl trivial
def AO (A:Cells) (σ:St) (F:Nat->FP):Cells:=fun b i=>A b i\/1<=az σ.n F b i
theorem bq (t:Ty) (y:Value) (h:isAgg t=false):bf t [y]=y:=by simp[bf,h]
theorem Ro.piece {e:Ty} {v:List e.den} {xa:Option Addr} {n cap lo hi cap':Nat} {nm:Option Addr} (h:Ro P w A (.U e) v [.slice xa n cap]) (h1:lo<=hi) (Y:hi<=n) (h3:cap'+lo=cap) (h4:xa=none->nm=none)
  (h5:∀ ad,xa=some ad->∃ aZ,nm=some aZ/\aZ.spot=ad.spot/\aZ.block=ad.block/\(lo < hi->aZ.off=ad.off+lo*e.sz)) :
  Ro P w A (.U e) ((v.take hi).drop lo) [.slice nm (hi - lo) cap']:=by
 obtain ⟨a0,Qe,g1,g2,g3,g4⟩:=h
 simp only[List.cons.injEq,Value.slice.injEq,and_true] at g1
 obtain ⟨rfl,rfl,rfl⟩:=g1
 have hlen:List.length ((v.take hi).drop lo)=hi - lo:=by simp;omega
 refine ⟨nm,cap',by rw[hlen],by rw[hlen];omega,fun hn=>?_,fun aZ wO=>?_⟩
 ·rw[hlen]
  cases qR:xa with
  | none=>have:=g3 qR;omega
  | some ad=>obtain ⟨aZ,e1,_⟩:=h5 ad qR;rw[hn] at e1;cases e1
 ·cases qR:xa with
  | none=>rw[h4 qR] at wO;cases wO
  | some ad=>
   obtain ⟨rF,e1,e2,e3,e4⟩:=h5 ad qR
   rw[wO] at e1
   injection e1 with e1
   subst e1
   obtain ⟨f1,f2⟩:=g4 ad qR
   refine ⟨fun hp=>e2.trans (f1 (by omega)),fun i y hy=>?_⟩
   have eZ:i < hi - lo:=by have:=(List.getElem?_eq_some_iff.1 hy).1;omega
   rw[List.getElem?_drop,List.getElem?_take] at hy
   split at hy
   ·obtain ⟨L,l1,l2,l3⟩:=f2 _ _ hy
    refine ⟨L,l1,fun j u hu=>?_,l3⟩
    rw[e3,e4 (by omega)]
    have:=l2 j u hu
    rw[Nat.add_mul,<- Nat.add_assoc ad.off] at this
    exact this
   ·cases hy
def AR (A:Cells) (F:Nat->FP) (rs:List Nat):Cells:=fun b i=>A b i\/∃ r ∈ rs,1<=F r b i
theorem zO (h:Rel P C A X σ a w F) {s:Slot} {tv:Value} {G:FP} (hs:a7 P A σ a w tv s G) {t:Ty} {K:t.den->Option R} (hk:kx σ s t K=some x) :
  ∃ (v:t.den) (cs:List Value),K v=some x/\tv=bf t cs/\Ro P w (AR A F (f_ s)) t v cs:=by
 have Ev:∀ b i,A b i->AR A F (f_ s) b i:=fun b i ha=>.inl ha
 have oy:∀ b i,A b i->∀ u,ce w b i=some u->ce w b i=some u:=fun _ _ _ _ h=>h
 cases s with
 | val t' v=>
  obtain ⟨e,hk⟩:=a8 hk;subst e
  obtain ⟨cs,h1,Y⟩:=hs
  exact ⟨v,cs,hk,h1,Ro.mono oy Ev _ Y⟩
 | cp t' v=>
  obtain ⟨e,hk⟩:=a8 hk;subst e
  exact ⟨v,[tv],hk,(bq _ _ rfl).symm,Ro.mono oy Ev _ hs⟩
 | oo=>
  simp only[kx] at hk
  split at hk
  ·rename_i t e
   have hs:tv=.slice none 0 0:=hs
   subst hs
   exact ⟨[],_,hk,(bq _ _ rfl).symm,none,0,rfl,Nat.le_refl _,fun _=>rfl,fun ad cO=>by cases cO⟩
  ·cases hk
 | ref r p snap=>
  simp only[kx] at hk
  split at hk
  ·rename_i aA
   obtain ⟨hr,t',m',H',v',aJ,aZ,F',h1,Y,h3,h4,h5,h6⟩:=fi h hk
   obtain ⟨pl,g1,g2,g3⟩:=hs.2 aA
   rw[h3] at g1
   injection g1 with g1
   subst g1
   split at h1
   ·rename_i hH
    have hH:=List.isEmpty_iff.1 hH;subst hH
    obtain ⟨e,h1⟩:=a8 h1;subst e
    exact ⟨v',aJ,h1,g2,ai.ox Ev _ h4 (fun b i hp=>.inr ⟨r,List.mem_singleton.2 rfl,by have:=h5 b i;omega⟩)⟩
   ·cases h1
  ·cases hk
 | sub r p snap lo hi=>
  simp only[kx] at hk
  split at hk
  ·rename_i aA
   obtain ⟨hr,t',m',H',v',aJ,aZ,F',h1,Y,h3,h4,h5,h6⟩:=fi h hk
   obtain ⟨pl,e,xa,n,cap,nm,cap',g1,g2,g3,g4,g5,g6,g7,BG,g8,g9,g10⟩:=hs.2 aA
   rw[h3] at g1
   injection g1 with g1
   subst g1
   simp only at g2 g3
   subst g2;subst g3
   split at h1
   ·rename_i hH
    have hH:=List.isEmpty_iff.1 hH;subst hH
    obtain ⟨e',h1⟩:=a8 h1;subst e'
    exact ⟨_,_,h1,by rw[bq _ _ rfl];exact g6,Ro.piece (ai.ox Ev _ h4 (fun b i hp=>.inr ⟨r,List.mem_singleton.2 rfl,by have:=h5 b i;omega⟩)) g4 g5 g7 g8 g9⟩
   ·cases h1
  ·cases hk
 | ptr r p snap=>
  simp only[kx] at hk
  split at hk
  ·rename_i aA
   obtain ⟨hr,t',m',H',v',aJ,aZ,F',h1,Y,h3,h4,h5,h6⟩:=fi h hk
   obtain ⟨pl,b,o,g1,g2,g3,g4⟩:=hs.2 aA
   rw[h3] at g1
   injection g1 with g1
   subst g1
   split at h1
   ·rename_i hH
    have hH:=List.isEmpty_iff.1 hH;subst hH
    obtain ⟨e',h1⟩:=a8 h1;subst e'
    simp only at g2
    subst g2
    refine ⟨v',[tv],h1,(bq _ _ rfl).symm,⟨b,o,none⟩,by rw[g3],rfl,aJ,ai.length _ h4,fun j u hu=>⟨h6 b o rfl j u hu,?_⟩,
     ai.ox Ev _ h4 (fun b i hp=>.inr ⟨r,List.mem_singleton.2 rfl,by have:=h5 b i;omega⟩)⟩
    have hj:j < t'.sz:=ai.length _ h4 ▸ (List.getElem?_eq_some_iff.1 hu).1
    unfold place at h3
    cases hR:bi w (tmp a r) (σ.get r) with
    | none=>rw[hR] at h3;cases h3
    | some R0=>
     rw[hR] at h3
     obtain ⟨m0,v0,F1,q1,q2,q3,_⟩:=qf (h.dj r hr) hR
     exact Hn Ev p R0.t q1 (fun b i hp=>.inr ⟨r,List.mem_singleton.2 rfl,by have:=q2 b i;omega⟩) (fun b' o' e' j hj=>.inr ⟨r,List.mem_singleton.2 rfl,by
      have:=(q3 b' o' e').2.1 b' (o'+j)
      simp[bj,hj] at *;omega⟩) h3 b o rfl j hj
   ·cases h1
  ·cases hk
 | _=>simp[kx] at hk
theorem u0 (h:Rel P C A X σ a w F) {s:Slot} {t:Ty} {K:t.den->Option R} (hk:kx σ s t K=some x):∀ r ∈ f_ s,r < σ.n:=by
 intro r hr
 cases s <;> simp only[f_,List.mem_singleton,List.not_mem_nil] at hr
 all_goals
  subst hr
  simp only[kx] at hk
  split at hk
  ·exact (fi h hk).1
  ·cases hk
theorem Ew (h:Rel P C A X σ a w F) {s:Slot} {tv:Value} {G:FP} (hs:a7 P A σ a w tv s G) {t:Ty} {K:t.den->Option R} (hk:kx σ s t K=some x) :
  ∃ (v:t.den) (cs:List Value),K v=some x/\tv=bf t cs/\Ro P w (AO A σ F) t v cs:=by
 obtain ⟨v,cs,h1,Y,h3⟩:=zO h hs hk
 refine ⟨v,cs,h1,Y,Ro.mono (fun _ _ _ _ h=>h) (fun b i ha=>?_) t h3⟩
 rcases ha with ha | ⟨r,hr,hp⟩
 ·exact .inl ha
 ·have:=be F (u0 h hk r hr) b i
  exact .inr (by omega)
end
end OT
