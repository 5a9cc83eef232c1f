/- The proof's parts, merged: The pure interpreter of the model s code over owned trees  definitions alone, nothing is claimed here.. No conditions but those that each states. -/
import GoSem.Core.Code
import GoSem.Core.View
import Derived.Laws.IdiomCopy
import Derived.Laws.Cells
import Derived.Laws.AppendOwn
import Derived.Calls
namespace OT
open Go
inductive Ty where
 | int (k:IntKind)
 | bool
 | str
 | unit
 | pair (a b:Ty)
 | arr (n:Nat) (e:Ty)
 | U (e:Ty)
 | ptr (e:Ty)
 | fn
 | map (k v:Ty)
 deriving DecidableEq
@[reducible] def sU:IntKind->Type
 | .u8=>UInt8
 | _=>Int
@[reducible] def Ty.den:Ty->Type
 | .int k=>sU k
 | .bool=>Bool
 | .str=>List UInt8
 | .unit=>Unit
 | .pair a b=>a.den×b.den
 | .arr _ e=>List e.den
 | .U e=>List e.den
 | .ptr e=>e.den
 | .fn=>Nat×Int
 | .map k v=>List (k.den×v.den)
def Ty.sz:Ty->Nat
 | .unit=>0
 | .pair a b=>a.sz+b.sz
 | .arr n e=>n*e.sz
 | _=>1
def Ty.flat:Ty->Bool
 | .pair a b=>a.flat&&b.flat
 | .arr _ e=>e.flat
 | .U _ | .ptr _ | .map _ _=>false
 | _=>true
def jp:(k:IntKind)->sU k->Int
 | .u8,n=>(n.toNat:Int)
 | .i8,n=>n
 | .i16,n=>n
 | .i32,n=>n
 | .i64,n=>n
 | .u16,n=>n
 | .u32,n=>n
 | .u64,n=>n
def uH:(k:IntKind)->Int->sU k
 | .u8,n=>UInt8.ofInt n
 | .i8,n=>IntKind.wrap .i8 n
 | .i16,n=>IntKind.wrap .i16 n
 | .i32,n=>IntKind.wrap .i32 n
 | .i64,n=>IntKind.wrap .i64 n
 | .u16,n=>IntKind.wrap .u16 n
 | .u32,n=>IntKind.wrap .u32 n
 | .u64,n=>IntKind.wrap .u64 n
def La:(k:IntKind)->Int->sU k
 | .u8,n=>UInt8.ofInt n
 | .i8,n=>n
 | .i16,n=>n
 | .i32,n=>n
 | .i64,n=>n
 | .u16,n=>n
 | .u32,n=>n
 | .u64,n=>n
def Ty.zero:(t:Ty)->t.den
 | .int k=>La k 0
 | .bool=>false
 | .str=>[]
 | .unit=>()
 | .pair a b=>(a.zero,b.zero)
 | .arr n e=>List.replicate n e.zero
 | .U _=>[]
 | .ptr e=>e.zero
 | .fn=>(0,0)
 | .map _ _=>[]
def Ty.ot:Ty->Bool
 | .pair a b=>a.ot&&b.ot
 | .arr _ e=>e.ot
 | .ptr _ | .fn | .map _ _=>false
 | _=>true
def Ty.eq:(t:Ty)->t.den->t.den->Bool
 | .int .u8,a,b=>a == b
 | .int .i8,a,b=>decide (a=b)
 | .int .i16,a,b=>decide (a=b)
 | .int .i32,a,b=>decide (a=b)
 | .int .i64,a,b=>decide (a=b)
 | .int .u16,a,b=>decide (a=b)
 | .int .u32,a,b=>decide (a=b)
 | .int .u64,a,b=>decide (a=b)
 | .bool,a,b=>a == b
 | .str,a,b=>decide (a=b)
 | .pair x y,a,b=>x.eq a.1 b.1&&y.eq a.2 b.2
 | .arr _ e,a,b=>(a.zip b).all fun p=>e.eq p.1 p.2
 | _,_,_=>true
def Ty.gY:Ty->Bool
 | .int _ | .bool | .str | .unit=>true
 | .pair a b=>a.gY&&b.gY
 | .arr _ e=>e.gY
 | _=>false
def Ty.lr:Ty->Bool
 | .pair a b=>a.lr&&b.lr
 | .arr _ e | .U e | .ptr e=>e.lr
 | .map k v=>k.lr&&v.lr
 | .fn=>false
 | _=>true
inductive Md where
 | leaf
 | pair (a b:Md)
 | arr (e:Md)
 | U (own:Bool) (e:Md)
 | ptr (own:Bool) (e:Md)
 deriving DecidableEq
def mN (own:Bool):Ty->Md
 | .pair a b=>.pair (mN own a) (mN own b)
 | .arr _ e=>.arr (mN own e)
 | .U e=>.U own (mN own e)
 | .ptr e=>.ptr own (mN own e)
 | .map _ _=>.U own .leaf
 | _=>.leaf
abbrev ax:=mN false
abbrev ao:=mN true
def Md.l:Md->Md
 | .pair a _=>a
 | _=>.leaf
def Md.r:Md->Md
 | .pair _ b=>b
 | _=>.leaf
def Md.e:Md->Md
 | .arr e | .U _ e | .ptr _ e=>e
 | _=>.leaf
def Md.own:Md->Bool
 | .U o _ | .ptr o _=>o
 | _=>false
def Md.en:Md->Bool
 | .leaf=>true
 | .pair a b=>a.en&&b.en
 | .arr e=>e.en
 | .U o e=>!o&&e.en
 | .ptr o e=>!o&&e.en
def fits:Md->Md->Bool
 | .leaf,.leaf=>true
 | .pair a b,.pair c d=>fits a c&&fits b d
 | .arr a,.arr b=>fits a b
 | .U o a,.U o' b=>(o||!o')&&(o'||b.en)&&fits a b
 | .ptr o a,.ptr o' b=>(o||!o')&&(o'||b.en)&&fits a b
 | _,_=>false
inductive Step where
 | fst
 | snd
 | idx (i:Nat)
 | je (i:Nat)
abbrev Path:=List Step
def br:Path->Nat
 | []=>0
 | .idx _::p=>br p+1
 | _::p=>br p
structure xH where
 t:Ty
 m:Md
 v:t.den
inductive Slot where
 | dead
 | oN
 | val (t:Ty) (v:t.den)
 | cp (t:Ty) (v:t.den)
 | own (t:Ty) (m:Md) (H:List Path) (v:t.den)
 | box (t:Ty) (m:Md) (H:List Path) (v:t.den)
 | ref (r:Nat) (p:Path) (snap:List Nat)
 | sub (r:Nat) (p:Path) (snap:List Nat) (lo hi:Nat)
 | ptr (r:Nat) (p:Path) (snap:List Nat)
 | kO (xs:List xH)
structure St where
 n:Nat
 sl:List (Nat×Slot)
 vr:List (Nat×List Nat)
 av:List (Nat×Nat×Bool)
 gh:List (Nat×Nat×Path×List Nat):=[]
def gg {α:Type}:List (Nat×α)->Nat->Option α
 | [],_=>none
 | (k,x)::l,i=>if Nat.beq k i then some x else gg l i
def St.get (σ:St) (i:Nat):Slot:=if Nat.blt i σ.n then (match gg σ.sl i with | some s=>s | none=>.dead) else .dead
def St.eS (σ:St) (i:Nat):List Nat:=match gg σ.vr i with | some v=>v | none=>[0,0,0,0,0]
def ls:List Nat->List Nat:=fun v=>v.map (·+1)
def mp (d:Nat):List Nat->List Nat
 | [b,x,y,z,w]=>match d with
  | 0=>[b,x+1,y,z,w+1]
  | 1=>[b,x,y+1,z,w+1]
  | 2=>[b,x,y,z+1,w+1]
  | _=>[b+1,x,y,z,w+1]
 | v=>ls v
def oO:List Nat->List Nat
 | [b,x,y,z,w]=>[b,x,y,z,w+1]
 | v=>ls v
def St.fh (σ:St) (i:Nat) (f:List Nat->List Nat):St:={ σ with vr:=(i,f (σ.eS i))::σ.vr }
def rg:List (Nat×Nat×Bool)->Nat->List (Nat×Nat×Bool)
 | [],_=>[]
 | (k,b)::l,i=>if Nat.beq k i then rg l i else (k,b)::rg l i
def BB:List (Nat×Nat×Path×List Nat)->Nat->List (Nat×Nat×Path×List Nat)
 | [],_=>[]
 | (d,x)::l,i=>if Nat.beq d i then BB l i else (d,x)::BB l i
def rh:List (Nat×Nat×Bool)->Nat->List (Nat×Nat×Bool)
 | [],_=>[]
 | (k,n,b)::l,i=>if Nat.beq k i&&b then rh l i else (k,n,b)::rh l i
def sV:List (Nat×Nat×Bool)->Nat->Nat->Bool->Bool
 | [],_,_,_=>false
 | (k,n,b)::l,i,j,c=>(Nat.beq k i&&Nat.beq n j&&(b == c))||sV l i j c
def tr:List (Nat×Nat×Bool)->Nat->Bool
 | [],_=>false
 | (k,_,b)::l,i=>(Nat.beq k i&&!b)||tr l i
def xI:List (Nat×Nat×Bool)->Nat->Option Nat
 | [],_=>none
 | (k,n,b)::l,i=>if Nat.beq k i&&b then some n else xI l i
def St.put (σ:St) (i:Nat) (s:Slot):St:={ n:=σ.n,sl:=(i,s)::σ.sl,vr:=(i,ls (σ.eS i))::σ.vr,av:=rg σ.av i,gh:=BB σ.gh i }
def St.head (σ:St) (r d:Nat):St:=match d with
 | 0=>{ σ with av:=rh σ.av r }
 | _=>σ
def St.BC (σ:St) (i:Nat) (s:Slot):St:={ σ with sl:=(i,s)::σ.sl }
def St.aQ (σ:St) (d:Option Tmp) (s:Slot):St:=match d with
 | some i=>σ.put i s
 | none=>σ
def preB:List Nat->List Nat->Bool
 | [],_=>true
 | a::x,b::y=>Nat.beq a b&&preB x y
 | _::_,[]=>false
section
variable {R:Type}
def d_ (t t':Ty) (v:t.den) (K:t'.den->Option R):Option R:=
 if h:t=t' then K (h ▸ v) else none
def nJ:Path->Option Path
 | .fst::p=>some p
 | _=>none
def nK:Path->Option Path
 | .snd::p=>some p
 | _=>none
def px (H:List Path) (i:Nat) (K:List Path->Option R):Option R:=
 match H with
 | []=>K []
 | [.idx j::q]=>if i=j then K [q] else none
 | _=>none
def gZ:(p:Path)->(t:Ty)->Md->List Path->t.den->((t':Ty)->Md->List Path->t'.den->Option R)->Option R
 | [],t,m,H,v,K=>K t m H v
 | .fst::p,.pair a _,m,H,v,K=>if H.any (·.isEmpty) then none else gZ p a m.l (H.filterMap nJ) v.1 K
 | .snd::p,.pair _ b,m,H,v,K=>if H.any (·.isEmpty) then none else gZ p b m.r (H.filterMap nK) v.2 K
 | .idx i::p,.U e,m,H,v,K=>px H i fun H'=>(v[i]?).bind fun x=>gZ p e m.e H' x K
 | .je i::p,.arr _ e,m,H,v,K=>if H.isEmpty then (v[i]?).bind fun x=>gZ p e m.e [] x K else none
 | _,_,_,_,_,_=>none
def kw:(p:Path)->(t:Ty)->Md->List Path->t.den ->
    ((t':Ty)->Md->List Path->t'.den->(Md->List Path->t'.den->Option R)->Option R)->(Md->List Path->t.den->Option R)->Option R
 | [],t,m,H,v,f,K=>f t m H v K
 | .fst::p,.pair a _,m,H,v,f,K=>
  if H.any (·.isEmpty) then none else
  kw p a m.l (H.filterMap nJ) v.1 f fun m' H' x=>K (.pair m' m.r) (H'.map (.fst::·)++(H.filterMap nK).map (.snd::·)) (x,v.2)
 | .snd::p,.pair _ b,m,H,v,f,K=>
  if H.any (·.isEmpty) then none else
  kw p b m.r (H.filterMap nK) v.2 f fun m' H' x=>K (.pair m.l m') ((H.filterMap nJ).map (.fst::·)++H'.map (.snd::·)) (v.1,x)
 | .idx i::p,.U e,m,H,v,f,K=>
  if m.own then
   px H i fun H0=>(v[i]?).bind fun x=>
    kw p e m.e H0 x f fun m' H' y=>
     if m'=m.e then K (.U true m.e) (H'.map (.idx i::·)) (v.set i y)
     else if H'.isEmpty then K (.U true (ax e)) [] (v.set i y) else none
  else none
 | .je i::p,.arr _ e,m,H,v,f,K=>
  if H.isEmpty then (v[i]?).bind fun x=>
   kw p e m.e [] x f fun _ H' y=>if H'.isEmpty then K m [] (v.set i y) else none
  else none
 | _,_,_,_,_,_,_=>none
def sG:Path->Ty->Option Ty
 | [],t=>some t
 | .fst::p,.pair a _=>sG p a
 | .snd::p,.pair _ b=>sG p b
 | .idx _::p,.U e=>sG p e
 | .je _::p,.arr _ e=>sG p e
 | _,_=>none
def oP (σ:St) (r:Nat) (K:(t:Ty)->Md->List Path->t.den->Option R):Option R:=
 match σ.get r with
 | .own t m H v | .box t m H v=>K t m H v
 | _=>none
def St.d7 (σ:St) (r:Nat) (t:Ty) (m:Md) (H:List Path) (v:t.den):St:=
 match σ.get r with
 | .box ..=>σ.BC r (.box t m H v)
 | _=>σ.BC r (.own t m H v)
def St.ok (σ:St) (r:Nat) (snap:List Nat):Bool:=preB snap (σ.eS r)
def jG (σ:St) (r:Nat) (p:Path) (K:(t:Ty)->Md->List Path->t.den->Option R):Option R:=
 oP σ r fun t m H v=>gZ p t m H v K
def nF (σ:St) (r:Nat) (p:Path) (t:Ty) (m:Md) (v:t.den) (K:St->Option R):Option R:=
 oP σ r fun t0 m0 H0 v0=>
  kw p t0 m0 H0 v0 (fun t' _ _ _ k=>d_ t t' v fun x=>k m [] x) fun m' H' v'=>
   K (((σ.d7 r t0 m' H' v').fh r (if t.flat then oO else mp (br p))).head r (br p))
def lJ:Ty->List Path
 | .pair a b=>(lJ a).map (.fst::·)++(lJ b).map (.snd::·)
 | .U _ | .ptr _ | .map _ _=>[[]]
 | .arr _ e=>if e.flat then [] else [[]]
 | _=>[]
def qC (σ:St) (r:Nat) (p:Path) (K:St->Option R):Option R:=
 oP σ r fun t0 m0 H0 v0=>
  kw p t0 m0 H0 v0 (fun t' m' _ x k=>k m' (lJ t') x) fun m' H' v'=>
   K (((σ.d7 r t0 m' H' v').fh r (mp (br p))).head r (br p))
def qX (σ:St) (r:Nat) (p:Path) (K:St->Option R):Option R:=
 oP σ r fun t0 m0 H0 v0=>
  kw p t0 m0 H0 v0 (fun t' m H x k=>if H.isEmpty&&fits m (ax t') then k (ax t') [] x else none) fun m' H' v'=>
   K (σ.d7 r t0 m' H' v')
def ou (σ:St) (r:Nat) (p:Path) (m1:Md) (K:St->Option R):Option R:=
 oP σ r fun t0 m0 H0 v0=>
  kw p t0 m0 H0 v0 (fun _ m H x k=>if H.isEmpty&&fits m m1 then k m1 [] x else none) fun m' H' v'=>
   K (σ.d7 r t0 m' H' v')
def ov (σ:St) (r:Nat) (p:Path):List Nat:=(σ.eS r).take (1+br p)
def ox (σ:St) (r:Nat) (p:Path) (t:Ty):List Nat:=match t with
 | .U _ | .map _ _=>(σ.eS r).take (2+br p)
 | _=>σ.eS r
def pX:Value->Slot
 | .int .u8 n=>if ((UInt8.ofInt n).toNat:Int)=n then .val (.int .u8) (UInt8.ofInt n) else .dead
 | .int .i64 n=>.val (.int .i64) n
 | .int .u64 n=>.val (.int .u64) n
 | .int .u32 n=>.val (.int .u32) n
 | .int .i32 n=>.val (.int .i32) n
 | .bool b=>.val .bool b
 | .string s=>.val .str s.data.toList
 | .slice none 0 0=>.oN
 | _=>.dead
def bA (σ:St):Operand->Slot
 | .tmp i=>match σ.get i with
  | .own t _ _ _=>.ref i [] (ox σ i [] t)
  | .box _ _ _ _=>.ptr i [] (ov σ i [])
  | s=>s
 | .const v=>pX v
 | .func f=>.val .fn (f,0)
 | .global _=>.dead
def gI (σ:St) (s:Slot) (mv:Bool) (t:Ty) (K:Md->t.den->St->Option R):Option R:=
 match s with
 | .val t' v=>d_ t' t v fun v=>K (ax t) v σ
 | .cp t' v=>d_ (.ptr t') t v fun v=>K (ax t) v σ
 | .oN=>match t with
  | .U e=>K (ao (.U e)) [] σ
  | _=>none
 | .ref r p snap=>
  if σ.ok r snap then
   jG σ r p fun t' m H v=>
    if H.isEmpty then d_ t' t v fun v=>
     if m=ax t then K m v σ
     else if mv then qC σ r p fun σ=>K m v σ
     else qX σ r p fun σ=>K (ax t) v σ
    else none
  else none
 | .sub r p snap lo hi=>
  if σ.ok r snap then
   jG σ r p fun t' m H v=>
    if H.isEmpty then d_ t' t v fun v=>match t,v with
     | .U e,v=>
      if m=ax (.U e) then K m ((v.take hi).drop lo) σ
      else if mv then (if lo=0 then qC σ r p fun σ=>K m ((v.take hi).drop lo) σ else none)
      else qX σ r p fun σ=>K (ax (.U e)) ((v.take hi).drop lo) σ
     | _,_=>none
    else none
  else none
 | .ptr r [] snap=>
  if σ.ok r snap then
   match σ.get r with
   | .box t' m H v=>if H.isEmpty&&!tr σ.av r then d_ (.ptr t') t v fun v=>K (.ptr true m) v (σ.put r .dead) else none
   | _=>none
  else none
 | _=>none
def kK (σ:St) (s:Slot) (t:Ty) (K:t.den->Option R):Option R:=
 match s with
 | .val t' v=>d_ t' t v K
 | .cp t' v=>d_ (.ptr t') t v K
 | .oN=>match t with
  | .U _=>K []
  | _=>none
 | .ref r p snap=>
  if σ.ok r snap then jG σ r p fun t' _ H v=>if H.isEmpty then d_ t' t v K else none
  else none
 | .sub r p snap lo hi=>
  if σ.ok r snap then
   jG σ r p fun t' _ H v=>if H.isEmpty then d_ t' t v fun v=>match t,v with
    | .U _,v=>K ((v.take hi).drop lo)
    | _,_=>none
   else none
  else none
 | .ptr r p snap=>
  if σ.ok r snap then jG σ r p fun t' _ H v=>if H.isEmpty then d_ (.ptr t') t v K else none
  else none
 | _=>none
def n9 (s:Slot) (K:Int->Option R):Option R:=
 match s with
 | .val (.int k) n=>K (jp k n)
 | _=>none
def xJ (s:Slot) (K:Bool->Option R):Option R:=
 match s with
 | .val .bool b=>K b
 | _=>none
def laid (t:Ty) (m:Md) (v:t.den):Slot:=
 if m=ax t then .val t v else
 match t,m,v with
 | .ptr e,.ptr true m',v=>.box e m' [] v
 | t,m,v=>.own t m [] v
end
end OT
namespace OT
open Go
noncomputable section
inductive PM where
 | ro
 | ji (m:Md)
 | fi (m:Md)
 | lR (m:Md)
 | jV (m:Md)
 | fix (f:Nat)
 deriving DecidableEq
def bE:List Ty->Ty
 | []=>.unit
 | t::ts=>.pair t (bE ts)
def e8:List (PM×Ty)->List Ty
 | []=>[]
 | (.ji _,t)::ps=>t::e8 ps
 | (.fi _,t)::ps=>t::e8 ps
 | _::ps=>e8 ps
structure mO where
 cap:Bool:=false
 ps:List (PM×Ty)
 rs:List (Ty×Md)
 F:(bE (ps.map (·.2))).den->Option (bE (rs.map (·.1)++e8 ps)).den
structure Env where
 TI:Nat->Option Ty
 G:Nat->Option mO
 fz:List (Nat×Nat×Nat):=[]
 lv:List (Nat×List Nat):=[]
 lx:List (Nat×List Nat):=[]
 lf:List (Nat×List (Nat×Md)):=[]
 od:List (Nat×List Nat):=[]
 ar:List (Nat×List Nat):=[]
 bx:List (Nat×List Nat):=[]
 pd:List (Nat×List Nat):=[]
 er:List (Nat×List (Nat×Nat)):=[]
def M6:List (Nat×Nat×Nat)->Nat->Nat->Nat->Bool
 | [],_,_,_=>false
 | (a,b,c)::l,i,j,k=>(Nat.beq a i&&Nat.beq b j&&Nat.beq c k)||M6 l i j k
def bf:Nat:=274877906944
section
variable {R:Type}
def jw (E:Env) (t:Nat) (K:Ty->Option R):Option R:=
 match E.TI t with
 | some t=>K t
 | none=>none
def g_:Nat->Path
 | 0=>[.fst]
 | n+1=>.snd::g_ n
def mG:Nat->Ty->Option Ty
 | 0,.pair a _=>some a
 | n+1,.pair _ b=>mG n b
 | _,_=>none
def FO:Nat->(t:Ty)->t.den->((t':Ty)->t'.den->Option R)->Option R
 | 0,.pair a _,v,K=>K a v.1
 | n+1,.pair _ b,v,K=>FO n b v.2 K
 | _,_,_,_=>none
def BD (σ:St) (r:Nat):Option Ty:=
 match σ.get r with
 | .own t _ _ _ | .box t _ _ _=>some t
 | _=>none
def w4 (σ:St) (r:Nat) (p:Path):Option Ty:=
 match BD σ r with
 | some t=>sG p t
 | none=>none
def xK (E:Env) (σ:St) (T:Nat) (a:Slot) (mv:Bool) (d:Option Tmp) (K:St->Option R):Option R:=
 jw E T fun T=>
 match a with
 | .cp t v=>if t=T then K (σ.aQ d (.val t v)) else none
 | .ptr r p snap=>
  if σ.ok r snap then
   jG σ r p fun t m H v=>
    if t=T then
     if t.flat then (if H.isEmpty then K (σ.aQ d (.val t v)) else none)
     else if m=ax t then (if H.isEmpty then K (σ.aQ d (.val t v)) else none)
     else match mv with
      | false=>K (σ.aQ d (.ref r p (ox σ r p t)))
      | true=>if H.isEmpty then qC σ r p fun σ=>K (σ.aQ d (laid t m v)) else none
    else none
  else none
 | _=>none
def BE (E:Env) (σ:St) (T:Nat) (a x:Slot) (mv:Bool) (K:St->Option R):Option R:=
 jw E T fun T=>
 match a with
 | .ptr r p snap=>
  if σ.ok r snap then
   if w4 σ r p=some T then gI σ x mv T fun m v σ=>nF σ r p T m v K else none
  else none
 | _=>none
def tt (E:Env) (σ:St) (S:Nat) (x:Slot) (j:Nat) (d:Option Tmp) (K:St->Option R):Option R:=
 jw E S fun S=>
 match x with
 | .cp t v=>if t=S then FO j t v fun t' v'=>K (σ.aQ d (.cp t' v')) else none
 | .ptr r p snap=>if σ.ok r snap then (if w4 σ r p=some S then (if (mG j S).isSome then K (σ.aQ d (.ptr r (p++g_ j) snap)) else none) else none) else none
 | _=>none
def zo (E:Env) (σ:St) (S:Nat) (x:Slot) (j:Nat) (d:Option Tmp) (K:St->Option R):Option R:=
 jw E S fun S=>
 match x with
 | .val t v=>if t=S then FO j t v fun t' v'=>K (σ.aQ d (.val t' v')) else none
 | .ref r p snap=>
  if σ.ok r snap then
   if w4 σ r p=some S then
    jG σ r (p++g_ j) fun t m H v=>
     if t.flat||(m=ax t) then (if H.isEmpty then K (σ.aQ d (.val t v)) else none)
     else K (σ.aQ d (.ref r (p++g_ j) (ox σ r (p++g_ j) t)))
   else none
  else none
 | _=>none
def HD (n:Int) (len:Nat) (K:Nat->Option R):Option R:=
 if 0<=n/\n < (len:Int) then K n.toNat else none
def tu (E:Env) (σ:St) (T:Nat) (x ix:Slot) (d:Option Tmp) (K:St->Option R):Option R:=
 jw E T fun T=>n9 ix fun n=>
 match x with
 | .val (.U e) v=>if T=.U e then (if 0<=n then (v[n.toNat]?).bind fun y=>K (σ.aQ d (.cp e y)) else none) else none
 | .cp (.arr m e) v=>if T=.arr m e then (if 0<=n then (v[n.toNat]?).bind fun y=>K (σ.aQ d (.cp e y)) else none) else none
 | .ref r p snap=>
  if σ.ok r snap then
   jG σ r p fun t m H v=>
    if H.any (·.isEmpty) then none else
    if t=T then
     match t,v with
     | .U e,v=>
      if m.own then HD n v.length fun i=>K (σ.aQ d (.ptr r (p++[.idx i]) (ov σ r (p++[.idx i]))))
      else if 0<=n then (v[n.toNat]?).bind fun y=>K (σ.aQ d (.cp e y)) else none
     | _,_=>none
    else none
  else none
 | .sub r p snap lo hi=>
  if σ.ok r snap then
   jG σ r p fun t _ H _=>if H.any (·.isEmpty) then none else if t=T then HD n (hi - lo) fun i=>K (σ.aQ d (.ptr r (p++[.idx (lo+i)]) (ov σ r (p++[.idx (lo+i)])))) else none
  else none
 | .ptr r p snap=>
  if σ.ok r snap then
   jG σ r p fun t _ _ v=>
    if t=T then
     match t,v with
     | .arr _ _,v=>HD n v.length fun i=>K (σ.aQ d (.ptr r (p++[.je i]) snap))
     | _,_=>none
    else none
  else none
 | _=>none
def BF (E:Env) (σ:St) (T:Nat) (x ix:Slot) (d:Option Tmp) (K:St->Option R):Option R:=
 jw E T fun T=>n9 ix fun n=>
 match x with
 | .val .str s=>if T=.str then (if 0<=n then (s[n.toNat]?).bind fun c=>K (σ.aQ d (.val (.int .u8) c)) else none) else none
 | .val (.arr m e) v=>if T=.arr m e then (if 0<=n then (v[n.toNat]?).bind fun y=>K (σ.aQ d (.val e y)) else none) else none
 | _=>none
def mB (len:Nat) (lo hi:Option Slot) (K:Nat->Nat->Option R):Option R:=
 match lo,hi with
 | none,none=>K 0 len
 | some l,none=>n9 l fun l=>if 0<=l/\l<=(len:Int) then K l.toNat len else none
 | none,some h=>n9 h fun h=>if 0<=h/\h<=(len:Int) then K 0 h.toNat else none
 | some l,some h=>n9 l fun l=>n9 h fun h=>if 0<=l/\l<=h/\h<=(len:Int) then K l.toNat h.toNat else none
def BG (E:Env) (σ:St) (T:Nat) (x:Slot) (lo hi:Option Slot) (d:Option Tmp) (K:St->Option R):Option R:=
 jw E T fun T=>
 match x with
 | .val .str s=>if T=.str then mB s.length lo hi fun l h=>K (σ.aQ d (.val .str ((s.take h).drop l))) else none
 | .val (.U e) v=>if T=.U e then mB v.length lo hi fun l h=>K (σ.aQ d (.val (.U e) ((v.take h).drop l))) else none
 | .ref r p snap=>
  if σ.ok r snap then
   jG σ r p fun t m H v=>
    if H.any (·.isEmpty) then none else
    if t=T then
     match t,v with
     | .U e,v=>
      if m.own then mB v.length lo hi fun l h=>K (σ.aQ d (.sub r p snap l h))
      else mB v.length lo hi fun l h=>K (σ.aQ d (.val (.U e) ((v.take h).drop l)))
     | _,_=>none
    else none
  else none
 | .sub r p snap l0 h0=>
  if σ.ok r snap then
   jG σ r p fun t _ H _=>if H.any (·.isEmpty) then none else if t=T then mB (h0 - l0) lo hi fun l h=>K (σ.aQ d (.sub r p snap (l0+l) (l0+h))) else none
  else none
 | _=>none
def JE (E:Env) (σ:St) (t:Nat) (x:Slot) (K:Nat->Option R):Option R:=
 jw E t fun T=>
 match T with
 | .str=>match x with
  | .val .str s=>K s.length
  | _=>none
 | .U _=>match x with
  | .val (.U _) v=>K v.length
  | .oN=>K 0
  | .ref r p snap=>
   if σ.ok r snap then
    jG σ r p fun t _ H v=>if H.any (·.isEmpty) then none else match t,v with
     | .U _,v=>K v.length
     | _,_=>none
   else none
  | .sub r _ snap lo hi=>if σ.ok r snap then K (hi - lo) else none
  | _=>none
 | _=>none
def wj (σ:St) (x:Slot) (e:Ty) (mv:Bool) (K:Md->List e.den->St->Option R):Option R:=
 match x with
 | .val .str s=>d_ (.U (.int .u8)) (.U e) s fun s=>K .leaf s σ
 | x=>gI σ x mv (.U e) fun m v σ=>K m.e v σ
def zp (E:Env) (σ:St) (T:Nat) (b:Slot) (x:Operand) (mv:Bool) (d:Option Tmp) (K:St->Option R):Option R:=
 jw E T fun T=>
 match T with
 | .U e=>
  gI σ b true (.U e) fun m v σ=>
   if m.own then
    wj σ (bA σ x) e mv fun me y σ=>
     if v.length+y.length<=bf then
      K (σ.aQ d (.own (.U e) (.U true (if me=m.e then me else ax e)) [] (v++y)))
     else none
   else none
 | _=>none
def lu {α:Type} (v:List α) (lo n:Nat) (y:List α):List α:=v.take lo++y.take n++v.drop (lo+n)
def FQ (E:Env) (σ:St) (T:Nat) (b:Operand) (x:Slot) (d:Option Tmp) (K:St->Option R):Option R:=
 jw E T fun T=>
 match T with
 | .U e=>
  if e.flat then
   wj σ x e true fun _ y σ=>
    match bA σ b with
    | .sub r p snap lo hi=>
     if σ.ok r snap then
      jG σ r p fun t m H v=>
       if m.own&&H.isEmpty then d_ t (.U e) v fun v=>
        nF σ r p (.U e) m (lu v lo (min y.length (hi - lo)) y) fun σ'=>
         K (({ σ' with vr:=(σ.fh r oO).vr,av:=σ.av }).aQ d (.val (.int .i64) ((min y.length (hi - lo):Nat):Int)))
       else none
     else none
    | .ref r p snap=>
     if σ.ok r snap then
      jG σ r p fun t m H v=>
       if m.own&&H.isEmpty then d_ t (.U e) v fun v=>
        nF σ r p (.U e) m (lu v 0 (min y.length v.length) y) fun σ'=>
         K (({ σ' with vr:=(σ.fh r oO).vr,av:=σ.av }).aQ d (.val (.int .i64) ((min y.length v.length:Nat):Int)))
       else none
     else none
    | _=>none
  else none
 | _=>none
def uV:Nat->(t:Ty)->Md->t.den->(t':Ty)->Md->t'.den->(Md->t.den->Option R)->Option R
 | 0,.pair a _,m,v,t',m',x,K=>d_ t' a x fun x=>K (.pair m' m.r) (x,v.2)
 | n+1,.pair _ b,m,v,t',m',x,K=>uV n b m.r v.2 t' m' x fun R5 y=>K (.pair m.l R5) (v.1,y)
 | _,_,_,_,_,_,_,_=>none
def uW (E:Env) (σ:St) (t:Ty) (fz:Nat->Bool):List (Nat×Operand)->Nat->Md->t.den->(Md->t.den->St->Option R)->Option R
 | [],_,m,v,K=>K m v σ
 | (j,x)::ps,n,m,v,K=>
  match mG j t with
  | some t'=>gI σ (bA σ x) (!fz n) t' fun m' y σ'=>uV j t m v t' m' y fun m v=>uW E σ' t fz ps (n+1) m v K
  | none=>none
def w5 (σ:St) (e:Ty) (fz:Nat->Bool):List (Nat×Operand)->Nat->Md->List e.den->(Md->List e.den->St->Option R)->Option R
 | [],_,m,v,K=>K m v σ
 | (j,x)::ps,n,m,v,K=>
  if Nat.beq j n then
   gI σ (bA σ x) (!fz n) e fun m' y σ'=>w5 σ' e fz ps (n+1) (if m'=m then m else ax e) (v++[y]) K
  else none
def BH (σ:St) (e:Ty) (fz:Nat->Bool):List (Nat×Operand)->Nat->List e.den->(List e.den->St->Option R)->Option R
 | [],_,v,K=>K v σ
 | (j,x)::ps,n,v,K=>
  gI σ (bA σ x) (!fz n) e fun _ y σ'=>if j < v.length then BH σ' e fz ps (n+1) (v.set j y) K else none
def BI (op:BinOp) (k:IntKind) (a b:Int) (K:(t:Ty)->t.den->Option R):Option R:=
 match op with
 | .add=>K (.int k) (uH k (a+b))
 | .sub=>K (.int k) (uH k (a - b))
 | .mul=>K (.int k) (uH k (a*b))
 | .quo=>if b=0 then none else K (.int k) (uH k (a.tdiv b))
 | .rem=>if b=0 then none else K (.int k) (La k (a.tmod b))
 | .and=>K (.int k) (uH k ((BitVec.ofInt k.bits a &&& BitVec.ofInt k.bits b).toNat:Int))
 | .or=>K (.int k) (uH k ((BitVec.ofInt k.bits a ||| BitVec.ofInt k.bits b).toNat:Int))
 | .xor=>K (.int k) (uH k ((BitVec.ofInt k.bits a ^^^ BitVec.ofInt k.bits b).toNat:Int))
 | .shl=>if b < 0 then none else K (.int k) (uH k (a*2 ^ (min b.toNat k.bits)))
 | .shr=>if b < 0 then none else K (.int k) (La k (a.fdiv (2 ^ (min b.toNat k.bits))))
 | .eql=>K .bool (decide (a=b))
 | .neq=>K .bool (!decide (a=b))
 | .lss=>K .bool (decide (a < b))
 | .leq=>K .bool (decide (a<=b))
 | .gtr=>K .bool (decide (b < a))
 | .geq=>K .bool (decide (b<=a))
 | _=>none
def JF (op:BinOp) (a b:List UInt8) (K:(t:Ty)->t.den->Option R):Option R:=
 match op with
 | .add=>if a.length+b.length<=bf then K .str (a++b) else none
 | .eql=>K .bool (decide (a=b))
 | .neq=>K .bool (!decide (a=b))
 | _=>none
def both (a b:Option R):Option R:=open Classical in if a=b then a else none
def uX {α:Type} (v:List α) (a b:Option R):Option R:=match v with
 | []=>both a b
 | _::_=>b
def M7 {α:Type} (op:BinOp) (v:List α) (K:(t:Ty)->t.den->Option R):Option R:=match op with
 | .eql=>uX v (K .bool true) (K .bool false)
 | .neq=>uX v (K .bool false) (K .bool true)
 | _=>none
def BJ (E:Env) (tid:Nat) (op:BinOp) (x y:Slot) (K:(t:Ty)->t.den->Option R):Option R:=
 match x,y with
 | .val (.int k) a,.val (.int k') b=>
  match op with
  | .shl | .shr=>BI op k (jp k a) (jp k' b) K
  | _=>if k=k' then BI op k (jp k a) (jp k' b) K else none
 | .val .str a,.val .str b=>JF op a b K
 | .val t a,.val t' b=>
  match op with
  | .eql=>if t.gY then jw E tid fun T=>if T=t then d_ t' t b fun b=>K .bool (t.eq a b) else none else none
  | .neq=>if t.gY then jw E tid fun T=>if T=t then d_ t' t b fun b=>K .bool (!t.eq a b) else none else none
  | _=>none
 | .val (.U e) v,.oN=>jw E tid fun T=>if T=.U e then M7 op v K else none
 | _,_=>none
def tw (E:Env) (σ:St) (S T:Nat) (x:Slot) (d:Option Tmp) (K:St->Option R):Option R:=
 jw E S fun S=>jw E T fun T=>
 match T with
 | .int k=>match x with
  | .val (.int k') n=>if S=.int k' then K (σ.aQ d (.val (.int k) (uH k (jp k' n)))) else none
  | _=>none
 | .str=>match S with
  | .str=>match x with
   | .val .str s=>K (σ.aQ d (.val .str s))
   | _=>none
  | .U (.int .u8)=>kK σ x (.U (.int .u8)) fun v=>K (σ.aQ d (.val .str v))
  | _=>none
 | .U (.int .u8)=>match x with
  | .val .str s=>if S=.str then (if s.length<=bf then K (σ.aQ d (.own (.U (.int .u8)) (ao (.U (.int .u8))) [] s)) else none) else none
  | _=>none
 | _=>none
def BK (σ:St) (s:Slot) (t:Ty) (K:t.den->Option R):Option R:=
 match s with
 | .val t' v=>d_ t' t v K
 | .cp t' v=>d_ (.ptr t') t v K
 | .oN=>match t with
  | .U _=>K []
  | _=>none
 | .ref r p snap=>
  if σ.ok r snap then jG σ r p fun t' m H v=>if H.isEmpty&&(t'.flat||decide (m=ax t')) then d_ t' t v K else none
  else none
 | .sub r p snap lo hi=>
  if σ.ok r snap then
   jG σ r p fun t' m H v=>if H.isEmpty&&decide (m=ax t') then d_ t' t v fun v=>match t,v with
    | .U _,v=>K ((v.take hi).drop lo)
    | _,_=>none
   else none
  else none
 | _=>none
def ri (σ:St) (ow:Bool) (pm:PM) (t:Ty) (s:Slot) (K:t.den->Option (Nat×Path)->Option R):Option R:=
 match pm with
 | .ro=>match ow with
  | true=>kK σ s t fun v=>K v none
  | false=>BK σ s t fun v=>K v none
 | .fix f=>match s with
  | .val .fn v=>if Nat.beq v.1 f then d_ .fn t v fun v=>K v none else none
  | _=>none
 | .ji m=>match s with
  | .ptr r p snap=>
   if σ.ok r snap then jG σ r p fun t' m' H v=>if H.isEmpty&&decide (m'=m) then d_ t' t v fun v=>K v (some (r,p)) else none
   else none
  | _=>none
 | .lR m=>match s with
  | .ptr r p snap=>
   if σ.ok r snap then jG σ r p fun t' m' H v=>if H.isEmpty&&decide (m'=m) then d_ t' t v fun v=>K v (some (r,p)) else none
   else none
  | _=>none
 | .fi m | .jV m=>match s with
  | .ref r p snap=>
   if σ.ok r snap then jG σ r p fun t' m' H v=>if H.isEmpty&&decide (m'=m) then d_ t' t v fun v=>K v (some (r,p)) else none
   else none
  | _=>none
def gk:Slot->List Nat
 | .ref r _ _ | .sub r _ _ _ _ | .ptr r _ _=>[r]
 | _=>[]
def Bl (σ:St) (ow:Bool):(ps:List (PM×Ty))->List Slot->((bE (ps.map (·.2))).den->List (Nat×Path)->Option R)->Option R
 | [],[],K=>K () []
 | (pm,t)::ps,s::ss,K=>ri σ ow pm t s fun v w=>Bl σ ow ps ss fun vs ws=>K (v,vs) (match w with | some x=>x::ws | none=>ws)
 | _,_,_=>none
def kV (σ:St):List (PM×Ty)->List Operand->(St->Option R)->Option R
 | (.ji m,_)::ps,x::xs,K=>match bA σ x with
  | .ptr r p snap=>if σ.ok r snap then jG σ r p fun _ m' _ _=>if m'=m then kV σ ps xs K else ou σ r p m fun σ=>kV σ ps xs K else none
  | _=>none
 | (.lR m,_)::ps,x::xs,K=>match bA σ x with
  | .ptr r p snap=>if σ.ok r snap then jG σ r p fun _ m' _ _=>if m'=m then kV σ ps xs K else ou σ r p m fun σ=>kV σ ps xs K else none
  | _=>none
 | (.fi m,_)::ps,x::xs,K=>match bA σ x with
  | .ref r p snap=>if σ.ok r snap then jG σ r p fun _ m' _ _=>if m'=m then kV σ ps xs K else ou σ r p m fun σ=>kV σ ps xs K else none
  | _=>none
 | (.jV m,_)::ps,x::xs,K=>match bA σ x with
  | .ref r p snap=>if σ.ok r snap then jG σ r p fun _ m' _ _=>if m'=m then kV σ ps xs K else ou σ r p m fun σ=>kV σ ps xs K else none
  | _=>none
 | _::ps,_::xs,K=>kV σ ps xs K
 | _,_,K=>K σ
def M8 (x:Operand) (r:Nat) (t:Ty) (v:t.den) (σ:St):St:=match x with
 | .tmp i=>match Nat.beq i r||!Nat.blt i σ.n with
  | true=>σ
  | false=>(σ.put i .dead).put i (.cp t v)
 | _=>σ
def rj (σ:St):List (PM×Ty)->List Operand->(St->Option R)->Option R
 | (.ro,t)::ps,x::xs,K=>
  if t.flat then rj σ ps xs K else
  match bA σ x with
  | .ref r p snap=>if σ.ok r snap then qX σ r p fun σ=>rj σ ps xs K else none
  | .sub r p snap _ _=>if σ.ok r snap then qX σ r p fun σ=>rj σ ps xs K else none
  | .ptr r p snap=>if σ.ok r snap then
    match p,σ.get r with
    | [],.box t m H v=>if H.isEmpty&&fits m (ax t) then rj (M8 x r t v ((σ.put r .dead).put r (.cp t v))) ps xs K else none
    | _,_=>none
   else none
  | _=>rj σ ps xs K
 | _::ps,_::xs,K=>rj σ ps xs K
 | _,_,K=>K σ
def apart:List Nat->List (Nat×Path)->Bool
 | _,[]=>true
 | all,(r,_)::ws=>Nat.ble (all.count r) 1&&apart all ws
def lY (σ:St):(ps:List (PM×Ty))->List (Nat×Path)->(bE (e8 ps)).den->(St->Option R)->Option R
 | [],[],_,K=>K σ
 | (.ro,_)::ps,ws,v,K=>lY σ ps ws v K
 | (.fix _,_)::ps,ws,v,K=>lY σ ps ws v K
 | (.ji m,t)::ps,(r,p)::ws,v,K=>nF σ r p t m v.1 fun σ=>lY σ ps ws v.2 K
 | (.lR m,t)::ps,(r,p)::ws,v,K=>match nF σ r p t m t.zero (fun _=>some ()) with
  | some _=>lY (σ.put r .dead) ps ws v K
  | none=>none
 | (.jV _,_)::ps,(r,p)::ws,v,K=>qC σ r p fun σ=>lY σ ps ws v K
 | (.fi m,t)::ps,(r,p)::ws,v,K=>nF σ r p t m v.1 fun σ'=>lY { σ' with vr:=(σ.fh r (mp (br p+1))).vr,av:=σ.av } ps ws v.2 K
 | _,_,_,_=>none
def f7:(rs:List (Ty×Md))->{ts:List Ty}->(bE (rs.map (·.1)++ts)).den->List xH×(bE ts).den
 | [],_,v=>([],v)
 | (t,m)::rs,_,v=>(⟨t,m,v.1⟩::(f7 rs v.2).1,(f7 rs v.2).2)
def py:List xH->Slot
 | []=>.dead
 | [x]=>laid x.t x.m x.v
 | xs=>.kO xs
def rm:List (Ty×Md)->Bool
 | []=>true
 | (t,m)::rs=>(t.flat||decide (m=ao t))&&t.lr&&rm rs
def jH:List (PM×Ty)->Bool
 | []=>true
 | (.ji m,t)::ps=>(t.flat||decide (m=ao t))&&t.lr&&jH ps
 | (.fi m,t)::ps=>(t.flat||decide (m=ao t))&&t.lr&&jH ps
 | (.lR m,t)::ps=>(t.flat||decide (m=ao t))&&t.lr&&jH ps
 | (.jV m,t)::ps=>(t.flat||decide (m=ao t))&&t.lr&&jH ps
 | _::ps=>jH ps
def xL (g:mO) (ow:Bool) (σ:St) (xs:List Operand) (ex:List Slot) (d:Option Tmp) (K:St->Option R):Option R:=
 kV σ g.ps xs fun σ=>
  Bl σ ow g.ps (xs.map (bA σ)++ex) fun v ws=>
   if Nat.ble ws.length 1&&apart ((xs.map (bA σ)++ex).flatMap gk) ws then
    (g.F v).bind fun out=>
     lY σ g.ps ws (f7 g.rs out).2 fun σ=>K (σ.aQ d (py (f7 g.rs out).1))
   else none
def tz (g:mO) (σ:St) (xs:List Operand) (ex:List Slot) (d:Option Tmp) (K:St->Option R):Option R:=
 match rm g.rs&&jH g.ps with
 | true=>xL g true σ xs ex d K
 | false=>rj σ g.ps xs fun σ=>xL g false σ xs ex d K
def zq (E:Env) (σ:St) (T:Nat) (x:Operand) (mv:Bool) (d:Option Tmp) (K:St->Option R):Option R:=
 match bA σ x with
 | .dead=>K (σ.aQ d .dead)
 | .oN=>jw E T fun T=>match T with
  | .U e=>K (σ.aQ d (.own (.U e) (ao (.U e)) [] []))
  | _=>none
 | .kO []=>K (σ.aQ d (.kO []))
 | .kO _=>none
 | .ref r p snap=>
  if σ.ok r snap then
   match w4 σ r p with
   | some t=>gI σ (.ref r p snap) mv t fun m v σ=>K (σ.aQ d (laid t m v))
   | none=>none
  else none
 | .sub r p snap lo hi=>
  if σ.ok r snap then
   match w4 σ r p with
   | some t=>gI σ (.sub r p snap lo hi) mv t fun m v σ=>K (σ.aQ d (laid t m v))
   | none=>none
  else none
 | .ptr r p snap=>
  match p,σ.get r with
  | [],.box t m H v=>if σ.ok r snap&&mv&&!tr σ.av r then (match d with | some i=>K ((σ.put r .dead).put i (.box t m H v)) | none=>none) else K (σ.aQ d (.ptr r [] snap))
  | p,_=>K (σ.aQ d (.ptr r p snap))
 | s=>K (σ.aQ d s)
def FR (σ:St) (x:Operand) (d:Option Tmp) (K:St->Option R):Option R:=
 match bA σ x,x with
 | .kO xs,.tmp i=>K ((σ.put i .dead).aQ d (.kO xs))
 | .kO _,_=>none
 | s,_=>K (σ.aQ d s)
def BL (σ:St) (x:Operand) (d:Option Tmp) (σ':St):St:=
 match x,d with
 | .tmp i,some d=>match σ.get i with
  | .own _ _ _ _=>match xI σ.av i with
   | some n=>{ σ' with av:=(d,n,true)::σ'.av }
   | none=>σ'
  | _=>σ'
 | _,_=>σ'
def BM:Slot->Option (Nat×Int)
 | .val .fn f=>some f
 | _=>none
def dB {α:Type} (k:Ty) (m:List (k.den×α)) (x:k.den):Option α:=(m.find? fun e=>k.eq x e.1).map (·.2)
def gP {α:Type} (k:Ty) (m:List (k.den×α)) (x:k.den) (y:α):List (k.den×α):=match m.findIdx? (fun e=>k.eq x e.1) with
 | some i=>m.set i (x,y)
 | none=>m++[(x,y)]
def rn {α:Type} (o:Option α) (z:α):α:=match o with
 | some x=>x
 | none=>z
def zr (E:Env) (σ:St) (T:Nat) (x ix:Slot) (ok:Bool) (d:Option Tmp) (K:St->Option R):Option R:=
 jw E T fun T=>
 match T with
 | .map k v=>
  if v.ot then
   match x with
   | .ref r p snap=>
    if σ.ok r snap then
     jG σ r p fun t _ H y=>
      if H.isEmpty then d_ t (.map k v) y fun y=>
       match ix with
       | .val t2 i=>d_ t2 k i fun i=>
        match ok with
        | true=>K (σ.aQ d (.kO [⟨v,ax v,rn (dB k y i) v.zero⟩,⟨.bool,.leaf,(dB k y i).isSome⟩]))
        | false=>K (σ.aQ d (.val v (rn (dB k y i) v.zero)))
       | _=>none
      else none
    else none
   | _=>none
  else none
 | _=>none
def zs (E:Env) (σ:St) (T:Nat) (x ix y:Slot) (K:St->Option R):Option R:=
 jw E T fun T=>
 match T with
 | .map k v=>
  match x with
  | .ref r p snap=>
   if σ.ok r snap then
    jG σ r p fun t m H z=>
     if m.own&&H.isEmpty then d_ t (.map k v) z fun z=>
      match ix,y with
      | .val t2 i,.val t3 w=>d_ t2 k i fun i=>d_ t3 v w fun w=>
       nF σ r p (.map k v) m (gP k z i w) fun σ'=>K { σ' with vr:=(σ.fh r oO).vr,av:=σ.av }
      | _,_=>none
     else none
   else none
  | _=>none
 | _=>none
def HE:Option Ty->Bool
 | some (.map _ _)=>true
 | _=>false
def zt (E:Env) (σ:St) (T:Nat) (x:Slot) (K:Nat->Option R):Option R:=
 jw E T fun T=>
 match T with
 | .map k v=>
  match x with
  | .ref r p snap=>
   if σ.ok r snap then
    jG σ r p fun t _ H y=>if H.isEmpty then d_ t (.map k v) y fun y=>K (List.length y) else none
   else none
  | _=>none
 | _=>none
def kL (E:Env) (cN i:Nat) (o:Oper) (σ:St) (K:St->Option R):Option R:=
 let fz:=M6 E.fz cN i
 let d:=o.dst
 match o.op with
 | .move x=>FR σ x d K
 | .assign x=>zq E σ o.type x (!fz 0) d K
 | .pick c a b=>xJ (bA σ c) fun c=>match bA σ (bif c then a else b) with
  | .val .bool x=>K (σ.aQ d (.val .bool x))
  | _=>none
 | .alloc t=>jw E t fun t=>if t.ot then K (σ.aQ d (.box t (ao t) [] t.zero)) else none
 | .box t x=>jw E t fun t=>gI σ (bA σ x) (!fz 0) t fun m v σ'=>K (BL σ x d (σ'.aQ d (.box t m [] v)))
 | .build t ps=>jw E t fun t=>match t with
  | .arr n e=>if e.ot then BH σ e fz ps.toList 0 (Ty.arr n e).zero fun v σ=>K (σ.aQ d (laid (.arr n e) (ao (.arr n e)) v)) else none
  | .pair t1 t2=>if (Ty.pair t1 t2).ot then uW E σ (.pair t1 t2) fz ps.toList 0 (ao (.pair t1 t2)) (Ty.pair t1 t2).zero fun m v σ=>K (σ.aQ d (laid (.pair t1 t2) m v)) else none
  | _=>none
 | .buildSlice t n ps=>jw E t fun t=>match t with
  | .U e=>if Nat.beq n ps.size&&e.ot&&Nat.ble (n*e.sz) 16777216 then w5 σ e fz ps.toList 0 (ao e) [] fun m v σ=>K (σ.aQ d (.own (.U e) (.U true m) [] v)) else none
  | _=>none
 | .load t a=>xK E σ t (bA σ a) (fz 7) d K
 | .store t a x=>match d with
  | none=>BE E σ t (bA σ a) (bA σ x) (!fz 1) K
  | some _=>none
 | .nilCheck x=>match bA σ x with
  | .ptr r p snap=>if σ.ok r snap then K (σ.aQ d (.ptr r p snap)) else none
  | .cp t v=>K (σ.aQ d (.cp t v))
  | .val .fn f=>K (σ.aQ d (.val .fn f))
  | _=>none
 | .binOp op t x y _=>BJ E t op (bA σ x) (bA σ y) fun t v=>K (σ.aQ d (.val t v))
 | .unOp op _ x=>match op,bA σ x with
  | .not,.val .bool b=>K (σ.aQ d (.val .bool (!b)))
  | .neg,.val (.int k) n=>K (σ.aQ d (.val (.int k) (uH k (0 - jp k n))))
  | _,_=>none
 | .convert s t x=>tw E σ s t (bA σ x) d K
 | .fieldAddr t x j=>tt E σ t (bA σ x) j d K
 | .field t x j=>zo E σ t (bA σ x) j d K
 | .indexAddr t x ix=>tu E σ t (bA σ x) (bA σ ix) d K
 | .index t x ix=>BF E σ t (bA σ x) (bA σ ix) d K
 | .slice t x lo hi none=>BG E σ t (bA σ x) (lo.map (bA σ)) (hi.map (bA σ)) d K
 | .makeSlice t n c=>jw E t fun t=>match t with
  | .U e=>n9 (bA σ n) fun n=>n9 (bA σ c) fun c=>
   if e.ot then (if 0<=n/\n<=c/\c<=(bf:Int) then K (σ.aQ d (.own (.U e) (ao (.U e)) [] (List.replicate n.toNat e.zero))) else none) else none
  | _=>none
 | .extract x j=>match x with
  | .tmp i=>match σ.get i with
   | .kO xs=>match xs[j]? with
    | some x=>if x.t=.unit then none else K ((σ.put i (.kO (xs.set j ⟨.unit,.leaf,()⟩))).aQ d (laid x.t x.m x.v))
    | none=>none
   | _=>none
  | _=>none
 | .makeFunc (.func f) first cs=>
  if first.size=0 then
   match cs.toList with
   | []=>K (σ.aQ d (.val .fn (f,0)))
   | [.tmp i]=>match σ.get i with
    | .box (.int .i64) _ _ n=>K (((σ.put i .dead).put i (.cp (.int .i64) n)).aQ d (.val .fn (f,n)))
    | _=>none
   | _=>none
  else none
 | .makeMap t none=>jw E t fun t=>match t with
  | .map k v=>if k.flat&&v.flat then K (σ.aQ d (.own (.map k v) (ao (.map k v)) [] [])) else none
  | _=>none
 | .lookup t x ix ok=>zr E σ t (bA σ x) (bA σ ix) ok d K
 | .mapUpdate t x ix y=>match d with
  | none=>zs E σ t (bA σ x) (bA σ ix) (bA σ y) K
  | some _=>none
 | .call c=>match c.callee with
  | .builtin .len=>match c.args.toList,c.argTypes.toList with
   | [x],[t]=>match HE (E.TI t) with
    | false=>JE E σ t (bA σ x) fun n=>K (σ.aQ d (.val (.int .i64) (n:Int)))
    | true=>zt E σ t (bA σ x) fun n=>K (σ.aQ d (.val (.int .i64) (n:Int)))
   | _,_=>none
  | .builtin .append=>match c.args.toList,c.argTypes.toList with
   | [b,x],t::_=>zp E σ t (bA σ b) x (!fz 1) d K
   | _,_=>none
  | .builtin .copy=>match c.args.toList,c.argTypes.toList with
   | [b,x],t::_=>FQ E σ t b (bA σ x) d K
   | _,_=>none
  | .value (.func f)=>match E.G f with
   | some g=>match g.cap with
    | false=>tz g σ c.args.toList [] d K
    | true=>none
   | none=>none
  | .value (.tmp i)=>match BM (σ.get i) with
   | some (f,n)=>match E.G f with
    | some g=>match g.cap with
     | true=>tz g σ c.args.toList [.cp (.int .i64) n] d K
     | false=>tz g σ c.args.toList [] d K
    | none=>none
   | none=>none
  | _=>none
 | _=>none
def ic (l:List (Nat×List Nat)) (i:Nat):List Nat:=match gg l i with | some x=>x | none=>[]
def uY (ops:List Oper) (σ:St) (g:Option (Nat×Bool)) (K:Bool->St->Option R):Option R:=
 match g with
 | none=>K true σ
 | some (j,want)=>match (ops[j]?).bind (·.dst) with
  | none=>none
  | some t=>match σ.get t with
   | .val .bool b=>match b with
    | true=>K (want == true) (σ.BC t (.val .bool true))
    | false=>K (want == false) (σ.BC t (.val .bool false))
   | .kO []=>K false σ
   | _=>none
def zu (E:Env) (cN:Nat) (ops:List Oper):List Oper->Nat->St->(St->Option R)->Option R
 | [],_,σ,K=>K σ
 | o::rest,i,σ,K=>uY ops σ o.guard fun b σ=>
  match b with
  | true=>kL E cN i o σ fun σ=>zu E cN ops rest (i+1) σ K
  | false=>zu E cN ops rest (i+1) (σ.aQ o.dst (.kO [])) K
def BN (σ:St) (o:Oper):Bool:=match o.op with
 | .load _ x=>match bA σ x with
  | .cp _ _=>true
  | _=>false
 | .convert _ _ x=>match bA σ x with
  | .val (.int _) _=>true
  | .val .str _=>true
  | .val (.U (.int .u8)) _=>true
  | _=>false
 | _=>false
def BO (E:Env) (cN i:Nat):Bool:=(ic E.ar cN).any (Nat.beq i)
def wk:Op->Bool
 | .store .. | .mapUpdate .. | .call ..=>true
 | _=>false
def pK:Path->Path->Bool
 | [],[]=>true
 | .fst::p,.fst::q=>pK p q
 | .snd::p,.snd::q=>pK p q
 | .idx i::p,.idx j::q=>Nat.beq i j&&pK p q
 | .je i::p,.je j::q=>Nat.beq i j&&pK p q
 | _,_=>false
def JG (σ:St) (o:Oper):Bool:=match o.op,o.dst with
 | .load _ (.tmp i),some d=>match σ.get i with
  | .ptr r p s=>match σ.get d with
   | .ref r' p' s'=>Nat.beq r r'&&(σ.ok r s&&σ.ok r s')&&pK p p'
   | _=>false
  | _=>false
 | _,_=>false
def xM (l:List (Nat×List (Nat×Nat))) (i:Nat):List (Nat×Nat):=match gg l i with | some x=>x | none=>[]
def FS (E:Env) (cN i:Nat):Bool:=(xM E.er cN).any fun e=>Nat.beq i e.1
def FT (E:Env) (cN:Nat) (ops:List Oper) (is:List Nat) (σ:St):Bool:=(xM E.er cN).all fun e=>is.any (Nat.beq e.1)||!(is.any (Nat.beq e.2)||Nat.ble ops.length e.2)||(match ops[e.1]? with
 | some o=>JG σ o
 | none=>false)
def xN (E:Env) (cN:Nat) (ops:List Oper) (i:Nat) (o:Oper) (is:List Nat) (σ:St):Bool:=!(wk o.op||FS E cN i)||FT E cN ops is σ
def ER (σ:St):List Nat->(St->Option R)->Option R
 | [],K=>K σ
 | i::is,K=>match σ.get i with
  | .box t m H v=>if H.isEmpty&&fits m (ax t) then ER ((σ.put i .dead).put i (.cp t v)) is K else none
  | _=>none
def zw (σ:St) (d:Nat):Bool:=Nat.blt d σ.n&&(match σ.get d with
 | .dead=>true
 | _=>false)&&!tr σ.av d&&!σ.gh.any fun e=>Nat.beq e.1 d
def FU (E:Env) (cN:Nat) (ops:List Oper) (is:List Nat) (σ:St):Bool:=(ic E.pd cN).all fun j=>!is.any (Nat.beq j)||(match (ops[j]?).bind (·.dst) with
 | some d=>zw σ d
 | none=>false)
def HF (ops:List Oper) (σ:St):List Nat->(St->Option R)->Option R
 | [],K=>K σ
 | j::js,K=>match (ops[j]?).bind (·.dst) with
  | some d=>HF ops (σ.put d .dead) js K
  | none=>none
def uZ (E:Env) (cN:Nat) (ops:List Oper):List Nat->St->(St->Option R)->Option R
 | [],σ,K=>K σ
 | i::is,σ,K=>
  match FU E cN ops (i::is) σ with
  | false=>none
  | true=>
  match ops[i]? with
  | none=>none
  | some o=>uY ops σ o.guard fun b σ=>
   match b with
   | true=>match BO E cN i&&!BN σ o with
    | true=>none
    | false=>kL E cN i o σ fun σ=>match xN E cN ops i o is σ with
     | true=>uZ E cN ops is σ K
     | false=>none
   | false=>uZ E cN ops is (σ.aQ o.dst (.kO [])) K
def lw:Code->Nat
 | .region id _ _=>id
 | .seq a _=>lw a
 | .block _ b=>lw b
 | .loop b=>lw b
 | .scope b=>lw b
 | _=>0
def u0 (live:List Nat) (fr:List (Nat×Md)) (r:Nat):Bool:=live.any (Nat.beq r)&&(match gg fr r with
 | none=>true
 | some _=>false)
def dE (live:List Nat) (fr:List (Nat×Md)) (σ:St) (i:Nat):Slot:=
 match σ.get i with
 | .ptr r p snap=>if σ.ok r snap&&u0 live fr r then .ptr r p (snap.map fun _=>0) else .dead
 | .ref r p snap=>if σ.ok r snap&&u0 live fr r then .ref r p (snap.map fun _=>0) else .dead
 | .sub r p snap lo hi=>if σ.ok r snap&&u0 live fr r then .sub r p (snap.map fun _=>0) lo hi else .dead
 | s=>s
def qj (live:List Nat) (σ:St):St:={ n:=σ.n,sl:=live.map fun i=>(i,dE live [] σ i),vr:=[],av:=σ.av }
def rp (fr:List (Nat×Md)) (i:Nat) (s:Slot):Slot:=
 match gg fr i with
 | none=>s
 | some m1=>
  match s with
  | .own t m H v=>if H.isEmpty&&fits m m1 then (if m1=ax t then .val t v else .own t m1 [] v) else .dead
  | .box t m H v=>if H.isEmpty&&fits m m1 then .box t m1 [] v else .dead
  | s=>s
def cj (live:List Nat) (fr:List (Nat×Md)) (σ:St):St:={ n:=σ.n,sl:=live.map fun i=>(i,rp fr i (dE live fr σ i)),vr:=[],av:=σ.av }
def FV (l:List (Nat×List (Nat×Md))) (i:Nat):List (Nat×Md):=match gg l i with | some x=>x | none=>[]
inductive Ex where
 | normal
 | exit (id:Nat)
def dw (rec:St->Option R) (kp:St->St) (K:Ex->St->Option R):Ex->St->Option R
 | .normal,σ=>rec (kp σ)
 | .exit j,σ=>K (.exit j) σ
def aq (B:St->(Ex->St->Option R)->Option R) (K:Ex->St->Option R):Ex->St->Option R
 | .normal,σ=>B σ K
 | .exit j,σ=>K (.exit j) σ
def af (id:Nat) (K:Ex->St->Option R):Ex->St->Option R
 | .normal,σ=>K .normal σ
 | .exit j,σ=>if Nat.beq j id then K .normal σ else K (.exit j) σ
def tA (F:St->(Ex->St->Option R)->Option R) (kp:St->St) (K:Ex->St->Option R):Nat->St->Option R
 | 0,_=>none
 | k+1,σ=>F σ (dw (tA F kp K k) kp K)
def mH (E:Env) (k:Nat) (fin:St->Option R):Code->St->(Ex->St->Option R)->Option R
 | .skip,σ,K=>K .normal σ
 | .region id ops d,σ,K=>match d with
  | false=>zu E id ops.toList ops.toList 0 σ fun σ=>ER σ (ic E.bx id) fun σ=>K .normal σ
  | true=>ER σ (ic E.bx id) fun σ=>HF ops.toList σ (ic E.pd id) fun σ=>uZ E id ops.toList (ic E.od id) σ fun σ=>K .normal σ
 | .seq a b,σ,K=>mH E k fin a σ (aq (mH E k fin b) K)
 | .cond c a b,σ,K=>xJ (bA σ c) fun c=>match c with
  | true=>mH E k fin a σ K
  | false=>mH E k fin b σ K
 | .block id b,σ,K=>mH E k fin b σ (af id K)
 | .loop b,σ,K=>tA (mH E k fin b) (cj (ic E.lv (lw b)) (FV E.lf (lw b))) K k (cj (ic E.lv (lw b)) (FV E.lf (lw b)) σ)
 | .scope b,σ,K=>mH E k fin b σ K
 | .exit id,σ,K=>K (.exit id) (qj (ic E.lx id) σ)
 | .ret,σ,_=>fin σ
 | _,_,_=>none
end
def sub:List Nat->Code->Code
 | [],c=>c
 | i::p,.seq a b=>match i with
  | 0=>sub p a
  | _=>sub p b
 | i::p,.cond _ a b=>match i with
  | 0=>sub p a
  | _=>sub p b
 | _::p,.block _ b=>sub p b
 | _::p,.loop b=>sub p b
 | _::p,.scope b=>sub p b
 | _,c=>c
def ak {V R:Type} (B:(V->Option R)->V->Option R):Nat->V->Option R
 | 0,_=>none
 | k+1,v=>B (ak B k) v
theorem an {V R:Type} (F:St->(Ex->St->Option R)->Option R) (kp:St->St) (K:Ex->St->Option R) (σ:V->St) (B:(V->Option R)->V->Option R)
  (h:∀ (rec:St->Option R) (v:V),F (σ v) (dw rec kp K)=B (fun v'=>rec (σ v')) v):∀ (n:Nat) (v:V),tA F kp K n (σ v)=ak B n v:=by
 intro n
 induction n with
 | zero=>intro v;rfl
 | succ n ih=>
  intro v
  show F (σ v) (dw (tA F kp K n) kp K)=B (ak B n) v
  rw[h]
  have e:(fun v'=>tA F kp K n (σ v'))=ak B n:=funext ih
  rw[e]
end
end OT
namespace OT
open Go
noncomputable section
def c9:(ps:List (PM×Ty))->(bE (ps.map (·.2))).den->List Slot
 | [],_=>[]
 | (.ro,.ptr e)::ps,v=>.cp e v.1::c9 ps v.2
 | (.fix f,.fn)::ps,v=>.val .fn (f,v.1.2)::c9 ps v.2
 | (.fix _,_)::ps,v=>.dead::c9 ps v.2
 | (.ro,t)::ps,v=>.val t v.1::c9 ps v.2
 | (.ji m,t)::ps,v=>.box t m [] v.1::c9 ps v.2
 | (.fi m,t)::ps,v=>.own t m [] v.1::c9 ps v.2
 | (.jV m,t)::ps,v=>.own t m [] v.1::c9 ps v.2
 | (.lR m,t)::ps,v=>.box t m [] v.1::c9 ps v.2
def rq:Nat->List Slot->List (Nat×Slot)
 | _,[]=>[]
 | i,s::ss=>(i,s)::rq (i+1) ss
def mP:Nat->List (PM×Ty)->List (Nat×Nat×Bool)
 | _,[]=>[]
 | i,(.ji _,_)::ps=>(i,i,false)::mP (i+1) ps
 | i,(.fi _,_)::ps=>(i,i,true)::mP (i+1) ps
 | i,(.lR _,_)::ps=>(i,i,false)::mP (i+1) ps
 | i,_::ps=>mP (i+1) ps
def sW (ps:List (PM×Ty)) (v:(bE (ps.map (·.2))).den) (n:Nat):St:={ n:=n,sl:=rq 0 (c9 ps v),vr:=[],av:=mP 0 ps }
section
variable {R:Type}
def oQ (σ:St):Nat->(ps:List (PM×Ty))->List Nat->((bE (e8 ps)).den->Option R)->Option R
 | _,[],_,K=>K ()
 | j,(.ro,_)::ps,es,K=>oQ σ (j+1) ps es K
 | j,(.fix _,_)::ps,es,K=>oQ σ (j+1) ps es K
 | j,(.lR _,_)::ps,es,K=>oQ σ (j+1) ps es K
 | j,(.jV _,_)::ps,es,K=>oQ σ (j+1) ps es K
 | j,(.ji m,t)::ps,i::es,K=>match σ.get i with
  | .box t' m' H v=>if H.isEmpty&&(decide (m'=m)||fits m' m)&&sV σ.av i j false then d_ t' t v fun v=>oQ σ (j+1) ps es fun vs=>K (v,vs) else none
  | _=>none
 | j,(.fi m,t)::ps,i::es,K=>match σ.get i with
  | .own t' m' H v | .box t' m' H v=>if H.isEmpty&&(decide (m'=m)||fits m' m)&&sV σ.av i j true then d_ t' t v fun v=>oQ σ (j+1) ps es fun vs=>K (v,vs) else none
  | _=>none
 | _,_,_,_=>none
def xO (σ:St):ResultVar->Slot
 | .tmp i=>bA σ (.tmp i)
 | .cell a _=>match σ.get a with
  | .box _ _ _ _=>.ref a [] (σ.eS a)
  | _=>.dead
def FW (σ:St) (ts:List Ty) (mv:Nat->Bool) (fin:St->((bE ts).den->Option R)->Option R) :
    (rs:List (Ty×Md))->List ResultVar->Nat->((bE (rs.map (·.1)++ts)).den->Option R)->Option R
 | [],[],_,K=>fin σ K
 | (t,m)::rs,x::xs,j,K=>gI σ (xO σ x) (mv j) t fun m' v σ'=>
  if m'=m\/fits m' m=true then FW σ' ts mv fin rs xs (j+1) fun vs=>K (v,vs) else none
 | _,_,_,_=>none
end
def BP (ps:List (PM×Ty)) (rs:List (Ty×Md)) (es:List Nat) (sX:List ResultVar) (mv:Nat->Bool) (σ:St):Option (bE (rs.map (·.1)++e8 ps)).den:=
 FW σ (e8 ps) mv (fun σ K=>oQ σ 0 ps es K) rs sX 0 some
def Lb (fr:List Nat) (j:Nat):Bool:=!(fr.any (Nat.beq j))
def M9 {R:Type} (fin:St->Option R):Ex->St->Option R
 | .normal,σ=>fin σ
 | .exit _,_=>none
def u7 (fn:Func):Code:=match fn.body with
 | some c=>c
 | none=>.refuse ""
abbrev PQ:Type:=List (PM×Ty)
abbrev RQ:Type:=List (Ty×Md)
abbrev TL:Type:=List (Nat×Ty)
abbrev GL:Type:=List (Nat×mO)
abbrev KT (R:Type):Type:=Ex->St->Option R
abbrev RT (R:Type):Type:=St->Option R
def Bm (E:Env) (k:Nat) (fn:Func) (ps:List (PM×Ty)) (rs:List (Ty×Md)) (es fr:List Nat) (v:(bE (ps.map (·.2))).den):Option (bE (rs.map (·.1)++e8 ps)).den:=
 mH E k (BP ps rs es fn.results.toList (Lb fr)) (u7 fn) (sW ps v fn.ntmps) (M9 (BP ps rs es fn.results.toList (Lb fr)))
def lift {R:Type} (f:Nat->Option R):Option R:=open Classical in if h:∃ out,∃ k,∀ k',k<=k'->f k'=some out then some h.choose else none
theorem ag {R:Type} {f:Nat->Option R} {out:R} {k:Nat} (h:∀ k',k<=k'->f k'=some out):lift f=some out:=by
 have hex:∃ out,∃ k,∀ k',k<=k'->f k'=some out:=⟨out,k,h⟩
 unfold lift
 rw[dif_pos hex]
 obtain ⟨k2,Y⟩:=hex.choose_spec
 have e1:=h (max k k2) (Nat.le_max_left _ _)
 have e2:=Y (max k k2) (Nat.le_max_right _ _)
 rw[e1] at e2
 exact e2.symm
theorem HG {R:Type} {f:Nat->Option R} {out:R} (h:lift f=some out):∃ k,f k=some out:=by
 unfold lift at h
 split at h
 ·rename_i hex
  obtain ⟨k,hk⟩:=hex.choose_spec
  injection h with h
  exact ⟨k,by rw[<-h];exact hk k (Nat.le_refl _)⟩
 ·cases h
abbrev i64:Ty:=.int .i64
abbrev u8:Ty:=.int .u8
def ae (n:Int):Int:=IntKind.wrap .i64 n
end
end OT
set_option linter.unusedVariables false
set_option linter.unusedSimpArgs false
namespace OT
open Go
abbrev FP:=Nat->Nat->Nat
abbrev Cells:=Nat->Nat->Prop
def isAgg:Ty->Bool
 | .unit | .pair _ _ | .arr _ _=>true
 | _=>false
def bm (t:Ty) (cs:List Value):Value:=if isAgg t then .agg cs.toArray else cs.headD undef
def tB (ka:List (Value×Value)):Value:=.tuple (ka.map fun kv=>Value.tuple #[kv.1,kv.2]).toArray
def entriesOf (es:Array MapEntry):List (Value×Value):=es.toList.map fun e=>(e.key,e.val)
def FX (u:Value):Option Value:=if u.oneCell' then some u else none
def ce (w:World) (b i:Nat):Option Value:=match w.heap[b]? with
 | some (.map es _)=>if i=0 then some (tB (entriesOf es)) else none
 | _=>(w.cell? ⟨b,i,none⟩).bind FX
theorem pz {w w2:World} {b:Nat} (h:w2.heap[b]?=w.heap[b]?) (i:Nat):ce w2 b i=ce w b i:=by simp only[ce,World.cell?,h]
theorem u9 {u v:Value} (h:FX u=some v):v=u/\u.oneCell'=true:=by
 unfold FX at h
 split at h
 ·rename_i hu;injection h with h;exact ⟨h.symm,hu⟩
 ·cases h
theorem nq {w:World} {b i:Nat} {u:Value} (h:ce w b i=some u) (hu:u.oneCell'=true):w.cell? ⟨b,i,none⟩=some u:=by
 unfold ce at h
 split at h
 ·split at h
  ·injection h with h;subst h;cases hu
  ·cases h
 ·cases hc:w.cell? ⟨b,i,none⟩ with
  | none=>rw[hc] at h;cases h
  | some v=>
   rw[hc] at h
   have:=u9 h
   rw[this.1]
theorem wl {w:World} {b i:Nat} {u:Value} (h:w.cell? ⟨b,i,none⟩=some u) (hu:u.oneCell'=true):ce w b i=some u:=by
 have h':=h
 unfold World.cell? at h
 unfold ce
 split at h
 ·rename_i heq;simp only at heq;simp only[heq,h',Option.bind_some,FX,hu,if_true]
 ·cases h
theorem JH:∀ {a b:List (Value×Value)},tB a=tB b->a=b:=by
 have main:∀ (a b:List (Value×Value)),(a.map fun kv=>Value.tuple #[kv.1,kv.2])=(b.map fun kv=>Value.tuple #[kv.1,kv.2])->a=b:=by
  intro a
  induction a with
  | nil=>intro b h;cases b with
   | nil=>rfl
   | cons _ _=>cases h
  | cons x a ih=>
   intro b h
   cases b with
   | nil=>cases h
   | cons y b=>
    simp only[List.map_cons,List.cons.injEq] at h
    obtain ⟨h1,Y⟩:=h
    injection h1 with h1
    have h3:=congrArg Array.toList h1
    simp only[List.cons.injEq,and_true] at h3
    rw[ih b Y,Prod.ext h3.1 h3.2]
 intro a b h
 unfold tB at h
 injection h with h
 exact main a b (by simpa using congrArg Array.toList h)
theorem HH {w:World} {r:Nat} {ka:List (Value×Value)} (h:ce w r 0=some (tB ka)):∃ es clock,w.heap[r]?=some (.map es clock)/\entriesOf es=ka:=by
 unfold ce at h
 split at h
 ·rename_i es clock heq
  simp only[if_true] at h
  injection h with h
  exact ⟨es,clock,heq,JH h⟩
 ·cases hc:w.cell? ⟨r,0,none⟩ with
  | none=>rw[hc] at h;cases h
  | some v=>
   rw[hc] at h
   have:=u9 h
   have Y:=this.2
   rw[<-this.1] at Y
   cases Y
theorem HI {w:World} {r:Nat} {es:Array MapEntry} {clock:Nat} (h:w.heap[r]?=some (.map es clock)):ce w r 0=some (tB (entriesOf es)):=by
 simp only[ce,h,if_true]
def Has (w:World) (b o:Nat) (L:List Value):Prop:=∀ j u,L[j]?=some u->ce w b (o+j)=some u
def BQ:Ty->Bool
 | .int .u8=>true
 | _=>false
def dq (w:World) (b:Nat) (n:Nat×Bool):Prop:=∃ c e fr,w.heap[b]?=some (.cells c e fr)/\c.size=n.1/\(∀ i,i < n.1->¬ (fr.1<=i/\i < fr.2))/\(n.2=false->¬ (fr.1<=n.1/\n.1 < fr.2))
def bq (b o n:Nat):FP:=fun b' i=>if b'=b/\o<=i/\i < o+n then 1 else 0
def ay:Nat->(Nat->FP)->FP
 | 0,_=>fun _ _=>0
 | n+1,f=>fun b i=>ay n f b i+f n b i
def ca (f:Nat->FP) (j:Nat) (g:FP):Nat->FP:=fun i=>if i=j then g else f i
theorem jW {n:Nat} {f g:Nat->FP} (h:∀ j,j < n->f j=g j):ay n f=ay n g:=by
 induction n with
 | zero=>rfl
 | succ n ih=>
  funext b i
  simp only[ay]
  rw[ih (fun j hj=>h j (by omega)),h n (by omega)]
theorem lZ {n:Nat} (f:Nat->FP) {j:Nat} (hj:j < n) (g:FP) (b i:Nat):ay n (ca f j g) b i+f j b i=ay n f b i+g b i:=by
 induction n with
 | zero=>omega
 | succ n ih=>
  simp only[ay]
  by_cases h:j=n
  ·subst h
   have:ay j (ca f j g)=ay j f:=jW fun k hk=>by simp[ca];omega
   rw[this]
   simp[ca]
   omega
  ·have:=ih (by omega)
   have e:ca f j g n=f n:=by simp[ca];omega
   rw[e];omega
theorem BR {n:Nat} (f:Nat->FP) {j:Nat} (hj:n<=j) (g:FP):ay n (ca f j g)=ay n f:=
 jW fun k hk=>by simp[ca];omega
theorem bk {n:Nat} (f:Nat->FP) {j:Nat} (hj:j < n) (b i:Nat):f j b i<=ay n f b i:=by
 induction n with
 | zero=>omega
 | succ n ih=>
  simp only[ay]
  by_cases h:j=n
  ·subst h;omega
  ·have:=ih (by omega);omega
theorem mQ {n:Nat} (f:Nat->FP) {j k:Nat} (hj:j < n) (hk:k < n) (eG:j≠k) (b i:Nat):f j b i+f k b i<=ay n f b i:=by
 have h1:=lZ f hj (fun _ _=>0) b i
 have Y:=bk (ca f j fun _ _=>0) hk b i
 have e:ca f j (fun _ _=>0) k=f k:=by simp[ca];omega
 rw[e] at Y
 simp at h1
 omega
theorem gK (n:Nat) (b i:Nat):ay n (fun _ _ _=>0) b i=0:=by
 induction n with
 | zero=>rfl
 | succ n ih=>simp[ay,ih]
theorem n_ (n m:Nat) (f:Nat->FP) (b i:Nat):ay (n+m) f b i=ay n f b i+ay m (fun j=>f (n+j)) b i:=by
 induction m with
 | zero=>simp[ay]
 | succ m ih=>rw[<-Nat.add_assoc];simp only[ay];rw[ih];omega
theorem zx {n:Nat} {f g:Nat->FP} (b i:Nat) (h:∀ j,j < n->f j b i<=g j b i):ay n f b i<=ay n g b i:=by
 induction n with
 | zero=>exact Nat.le_refl _
 | succ n ih=>
  simp only[ay]
  have:=ih fun j hj=>h j (by omega)
  have:=h n (by omega)
  omega
theorem HJ (n:Nat) (f:Nat->FP) (k m:Nat) (h:k+m<=n) (b i:Nat):ay m (fun j=>f (k+j)) b i<=ay n f b i:=by
 have e:n=k+(m+(n - k - m)):=by omega
 rw[e,n_,n_]
 omega
theorem BS {n:Nat} {f:Nat->FP} {b i:Nat} (h:1<=ay n f b i):∃ j,j < n/\1<=f j b i:=by
 induction n with
 | zero=>simp[ay] at h
 | succ n ih=>
  simp only[ay] at h
  by_cases h1:1<=ay n f b i
  ·obtain ⟨j,hj,hh⟩:=ih h1
   exact ⟨j,by omega,hh⟩
  ·exact ⟨n,by omega,by omega⟩
section
variable (P:Program) (w:World) (A:Cells)
def Ro:(t:Ty)->t.den->List Value->Prop
 | .int k,v,cs=>cs=[.int k (jp k v)]
 | .bool,v,cs=>cs=[.bool v]
 | .str,v,cs=>cs=[.string ⟨List.toArray v⟩]
 | .unit,_,cs=>cs=[]
 | .pair a b,v,cs=>Ro a v.1 (cs.take a.sz)/\Ro b v.2 (cs.drop a.sz)
 | .arr n e,v,cs=>e.flat=true/\List.length v=n/\cs.length=n*e.sz/\∀ (i:Nat) (x:e.den),v[i]?=some x->Ro e x ((cs.drop (i*e.sz)).take e.sz)
 | .U e,v,cs=>∃ a cap,cs=[.slice a (List.length v) cap]/\List.length v<=cap/\(a=none->List.length v=0)/\∀ ad,a=some ad->(0 < cap->ad.spot=none) /\
   ∀ (i:Nat) (x:e.den),v[i]?=some x->∃ L:List Value,L.length=e.sz/\(∀ j u,L[j]?=some u->ce w ad.block (ad.off+i*e.sz+j)=some u/\A ad.block (ad.off+i*e.sz+j))/\Ro e x L
 | .ptr e,v,cs=>∃ ad,cs=[.pointer (some ad)]/\ad.spot=none /\
   ∃ L:List Value,L.length=e.sz/\(∀ j u,L[j]?=some u->ce w ad.block (ad.off+j)=some u/\A ad.block (ad.off+j))/\Ro e v L
 | .fn,v,cs=>∃ qk,cs=[.func (.func v.1) #[] qk]/\∃ fn,P.funcs[v.1]?=some fn /\
   ((fn.nfree=0/\qk=#[])\/(fn.nfree=1/\∃ ad:Addr,qk=#[.pointer (some ad)]/\ad.spot=none/\ce w ad.block ad.off=some (.int .i64 v.2)/\A ad.block ad.off))
 | .map k v,x,cs=>k.flat=true/\v.flat=true/\∃ (r:Nat) (ka:List (Value×Value)),cs=[.map (some r)]/\ce w r 0=some (tB ka)/\A r 0/\ka.length=List.length x /\
   ∀ (i:Nat) (y:k.den×v.den),x[i]?=some y->∃ (kc vc:List Value),ka[i]?=some (bm k kc,bm v vc)/\Ro k y.1 kc/\Ro v y.2 vc
def hole (H:List Path):Bool:=H.any (·.isEmpty)
def gm (i:Nat):Path->Option Path
 | .idx j::p=>if i=j then some p else none
 | _=>none
def aj:(t:Ty)->Md->List Path->t.den->List Value->FP->Prop
 | .pair a b,m,H,v,cs,F=>hole H=false/\∃ F1 F2:FP,(∀ x i,F1 x i+F2 x i<=F x i) /\
   aj a m.l (H.filterMap nJ) v.1 (cs.take a.sz) F1/\aj b m.r (H.filterMap nK) v.2 (cs.drop a.sz) F2
 | .U e,m,H,v,cs,F=>
   if hole H then ∃ x:Value,cs=[x]/\x.oneCell'=true
   else if m.own then ∃ a cap,cs=[.slice a (List.length v) cap]/\List.length v<=cap/\cap<=maxLen/\(a=none->cap=0)/\∀ ad,a=some ad->ad.off=0/\ad.spot=none /\
    dq w ad.block (cap*e.sz,BQ e)/\∃ Fi:Nat->FP,(∀ x i,bq ad.block 0 (cap*e.sz) x i+ay (List.length v) Fi x i<=F x i) /\
    ∀ (i:Nat) (x:e.den),v[i]?=some x->∃ L:List Value,L.length=e.sz/\Has w ad.block (i*e.sz) L/\aj e m.e (H.filterMap (gm i)) x L (Fi i)
   else H=[]/\m.e.en=true/\Ro P w A (.U e) v cs
 | .ptr e,m,H,v,cs,F=>
   if hole H then ∃ x:Value,cs=[x]/\x.oneCell'=true
   else if m.own then ∃ b,cs=[.pointer (some ⟨b,0,none⟩)]/\dq w b (e.sz,false)/\∃ (L:List Value) (F1:FP),L.length=e.sz/\Has w b 0 L /\
    (∀ x i,bq b 0 e.sz x i+F1 x i<=F x i)/\aj e m.e [] v L F1
   else H=[]/\m.e.en=true/\Ro P w A (.ptr e) v cs
 | .int k,_,_,v,cs,_=>Ro P w A (.int k) v cs
 | .bool,_,_,v,cs,_=>Ro P w A .bool v cs
 | .str,_,_,v,cs,_=>Ro P w A .str v cs
 | .unit,_,_,v,cs,_=>Ro P w A .unit v cs
 | .arr n e,_,H,v,cs,_=>H=[]/\Ro P w A (.arr n e) v cs
 | .fn,_,_,v,cs,_=>Ro P w A .fn v cs
 | .map k v,m,H,x,cs,F=>
   if hole H then ∃ x:Value,cs=[x]/\x.oneCell'=true
   else if m.own then k.flat=true/\v.flat=true/\∃ (r:Nat) (ka:List (Value×Value)),cs=[.map (some r)]/\ce w r 0=some (tB ka)/\1<=F r 0/\ka.length=List.length x /\
    ∀ (i:Nat) (y:k.den×v.den),x[i]?=some y->∃ (kc vc:List Value),ka[i]?=some (bm k kc,bm v vc)/\Ro P w A k y.1 kc/\Ro P w A v y.2 vc
   else H=[]/\m.e.en=true/\Ro P w A (.map k v) x cs
end
theorem Ro.length {P:Program} {w:World} {A:Cells}:∀ (t:Ty) {v:t.den} {cs:List Value},Ro P w A t v cs->cs.length=t.sz:=by
 intro t
 induction t with
 | pair a b ey eg=>
  intro v cs h
  have h1:=ey h.1
  have Y:=eg h.2
  simp only[List.length_take,List.length_drop] at h1 Y
  simp only[Ty.sz];omega
 | arr n e ih=>intro v cs h;exact h.2.2.1
 | U e ih=>rintro v cs ⟨a,cap,rfl,_⟩;rfl
 | ptr e ih=>rintro v cs ⟨a,rfl,_⟩;rfl
 | fn=>rintro v cs ⟨a,rfl,_⟩;rfl
 | map k v=>rintro v cs ⟨_,_,r,ka,rfl,_⟩;rfl
 | unit=>intro v cs h;simp only[Ro] at h;subst h;rfl
 | _=>intro v cs h;simp only[Ro] at h;subst h;rfl
theorem aj.length {P:Program} {w:World} {A:Cells}:∀ (t:Ty) {m:Md} {H:List Path} {v:t.den} {cs:List Value} {F:FP},aj P w A t m H v cs F->cs.length=t.sz:=by
 intro t
 induction t with
 | pair a b ey eg=>
  intro m H v cs F h
  obtain ⟨_,F1,F2,_,h1,Y⟩:=h
  have h1:=ey h1
  have Y:=eg Y
  simp only[List.length_take,List.length_drop] at h1 Y
  simp only[Ty.sz];omega
 | U e ih=>
  intro m H v cs F h
  simp only[aj] at h
  split at h
  ·obtain ⟨x,rfl,_⟩:=h;rfl
  ·split at h
   ·obtain ⟨a,cap,rfl,_⟩:=h;rfl
   ·exact Ro.length _ h.2.2
 | ptr e ih=>
  intro m H v cs F h
  simp only[aj] at h
  split at h
  ·obtain ⟨x,rfl,_⟩:=h;rfl
  ·split at h
   ·obtain ⟨a,rfl,_⟩:=h;rfl
   ·exact Ro.length _ h.2.2
 | arr n e ih=>intro m H v cs F h;exact Ro.length _ h.2
 | map k v=>
  intro m H v cs F h
  simp only[aj] at h
  split at h
  ·obtain ⟨x,rfl,_⟩:=h;rfl
  ·split at h
   ·obtain ⟨_,_,r,ka,rfl,_⟩:=h;rfl
   ·exact Ro.length _ h.2.2
 | _=>intro m H v cs F h;exact Ro.length _ h
structure Up (w w':World) (S:Nat->Nat->Prop):Prop where
 cell:∀ b i,S b i->∀ u,ce w b i=some u->ce w' b i=some u
 pt:∀ b n,dq w b n->dq w' b n
theorem Ro.mono {P:Program} {w w':World} {A A':Cells} (hc:∀ b i,A b i->∀ u,ce w b i=some u->ce w' b i=some u) (hA:∀ b i,A b i->A' b i) :
  ∀ (t:Ty) {v:t.den} {cs:List Value},Ro P w A t v cs->Ro P w' A' t v cs:=by
 intro t
 induction t with
 | pair a b ey eg=>intro v cs h;exact ⟨ey h.1,eg h.2⟩
 | arr n e ih=>intro v cs h;exact ⟨h.1,h.2.1,h.2.2.1,fun i x hx=>ih (h.2.2.2 i x hx)⟩
 | U e ih=>
  rintro v cs ⟨a,cap,h1,Y,h3,h4⟩
  refine ⟨a,cap,h1,Y,h3,fun ad c8=>⟨(h4 ad c8).1,fun i x hx=>?_⟩⟩
  obtain ⟨L,hl,hL,hr⟩:=(h4 ad c8).2 i x hx
  exact ⟨L,hl,fun j u hu=>⟨hc _ _ (hL j u hu).2 u (hL j u hu).1,hA _ _ (hL j u hu).2⟩,ih hr⟩
 | ptr e ih=>
  rintro v cs ⟨ad,h1,Y,L,hl,hL,hr⟩
  exact ⟨ad,h1,Y,L,hl,fun j u hu=>⟨hc _ _ (hL j u hu).2 u (hL j u hu).1,hA _ _ (hL j u hu).2⟩,ih hr⟩
 | fn=>
  rintro v cs ⟨qk,h1,fn,Y,h3⟩
  refine ⟨qk,h1,fn,Y,?_⟩
  rcases h3 with h3 | ⟨h3,ad,h4,h5,h6,h7⟩
  ·exact .inl h3
  ·exact .inr ⟨h3,ad,h4,h5,hc _ _ h7 _ h6,hA _ _ h7⟩
 | map k v Lc Ld=>
  rintro x cs ⟨h1,Y,r,ka,h3,h4,h5,h6,h7⟩
  refine ⟨h1,Y,r,ka,h3,hc _ _ h5 _ h4,hA _ _ h5,h6,fun i y hy=>?_⟩
  obtain ⟨kc,vc,g1,g2,g3⟩:=h7 i y hy
  exact ⟨kc,vc,g1,Lc g2,Ld g3⟩
 | _=>intro v cs h;exact h
theorem aj.mono {P:Program} {w w':World} {A A':Cells} (hA:∀ b i,A b i->A' b i) (hc:∀ b i,A b i->∀ u,ce w b i=some u->ce w' b i=some u) (hb:∀ b n,dq w b n->dq w' b n) :
  ∀ (t:Ty) {m:Md} {H:List Path} {v:t.den} {cs:List Value} {F F':FP},aj P w A t m H v cs F->(∀ b i,F b i<=F' b i)->(∀ b i,1<=F b i->∀ u,ce w b i=some u->ce w' b i=some u)->aj P w' A' t m H v cs F':=by
 intro t
 induction t with
 | pair a b ey eg=>
  intro m H v cs F F' h hF oR
  obtain ⟨h0,F1,F2,hs,h1,Y⟩:=h
  exact ⟨h0,F1,F2,fun x i=>Nat.le_trans (hs x i) (hF x i),ey h1 (fun _ _=>Nat.le_refl _) (fun b i hp=>oR b i (by have:=hs b i;omega)),
   eg Y (fun _ _=>Nat.le_refl _) (fun b i hp=>oR b i (by have:=hs b i;omega))⟩
 | U e ih=>
  intro m H v cs F F' h hF oR
  simp only[aj] at h ⊢
  split at h
  ·rename_i hh;rw[if_pos hh];exact h
  ·rename_i hh;rw[if_neg hh]
   split at h
   ·rename_i hm;rw[if_pos hm]
    obtain ⟨a,cap,h1,Y,h3,h4,h5⟩:=h
    refine ⟨a,cap,h1,Y,h3,h4,fun ad c8=>?_⟩
    obtain ⟨g1,g2,g3,Fi,g4,g5⟩:=h5 ad c8
    refine ⟨g1,g2,hb _ _ g3,Fi,fun x i=>Nat.le_trans (g4 x i) (hF x i),fun i x hx=>?_⟩
    obtain ⟨L,hl,hL,hr⟩:=g5 i x hx
    have hi:i < List.length v:=(List.getElem?_eq_some_iff.1 hx).1
    refine ⟨L,hl,fun j u hu=>oR _ _ ?_ u (hL j u hu),ih hr (fun _ _=>Nat.le_refl _) (fun b k hp=>oR b k ?_)⟩
    ·have:=g4 ad.block (i*e.sz+j)
     have hj:j < e.sz:=hl ▸ (List.getElem?_eq_some_iff.1 hu).1
     have:i*e.sz+j < cap*e.sz:=by
      have h1:(i+1)*e.sz<=cap*e.sz:=Nat.mul_le_mul_right _ (by omega)
      rw[Nat.add_mul] at h1;omega
     simp[bq,this] at *
     omega
    ·have h1:=g4 b k
     have Y:=bk Fi hi b k
     omega
   ·rename_i hm;rw[if_neg hm];exact ⟨h.1,h.2.1,Ro.mono hc hA _ h.2.2⟩
 | ptr e ih=>
  intro m H v cs F F' h hF oR
  simp only[aj] at h ⊢
  split at h
  ·rename_i hh;rw[if_pos hh];exact h
  ·rename_i hh;rw[if_neg hh]
   split at h
   ·rename_i hm;rw[if_pos hm]
    obtain ⟨b,h1,Y,L,F1,h3,h4,h5,h6⟩:=h
    refine ⟨b,h1,hb _ _ Y,L,F1,h3,fun j u hu=>oR _ _ ?_ u (h4 j u hu),fun x i=>Nat.le_trans (h5 x i) (hF x i),ih h6 (fun _ _=>Nat.le_refl _) (fun b' k hp=>oR b' k ?_)⟩
    ·have:=h5 b (0+j)
     have hj:j < e.sz:=h3 ▸ (List.getElem?_eq_some_iff.1 hu).1
     simp[bq,hj] at *
     omega
    ·have:=h5 b' k;omega
   ·rename_i hm;rw[if_neg hm];exact ⟨h.1,h.2.1,Ro.mono hc hA _ h.2.2⟩
 | arr n e ih=>intro m H v cs F F' h hF oR;exact ⟨h.1,Ro.mono hc hA _ h.2⟩
 | map k v Lc Ld=>
  intro m H x cs F F' h hF oR
  simp only[aj] at h ⊢
  split at h
  ·rename_i hh;rw[if_pos hh];exact h
  ·rename_i hh;rw[if_neg hh]
   split at h
   ·rename_i hm;rw[if_pos hm]
    obtain ⟨h1,Y,r,ka,h3,h4,h5,h6,h7⟩:=h
    refine ⟨h1,Y,r,ka,h3,oR _ _ h5 _ h4,Nat.le_trans h5 (hF r 0),h6,fun i y hy=>?_⟩
    obtain ⟨kc,vc,g1,g2,g3⟩:=h7 i y hy
    exact ⟨kc,vc,g1,Ro.mono hc hA k g2,Ro.mono hc hA v g3⟩
   ·rename_i hm;rw[if_neg hm];exact ⟨h.1,h.2.1,Ro.mono hc hA _ h.2.2⟩
 | _=>intro m H v cs F F' h hF oR;exact Ro.mono hc hA _ h
theorem aj.le {P:Program} {w:World} {A:Cells} {t:Ty} {m:Md} {H:List Path} {v:t.den} {cs:List Value} {F F':FP} (h:aj P w A t m H v cs F) (hF:∀ b i,F b i<=F' b i):aj P w A t m H v cs F':=
 aj.mono (fun _ _ h=>h) (fun _ _ _ _ h=>h) (fun _ _ h=>h) t h hF (fun _ _ _ _ h=>h)
theorem aj.oS {P:Program} {w:World} {A A':Cells} (hA:∀ b i,A b i->A' b i) :
  ∀ (t:Ty) {m:Md} {v:t.den} {cs:List Value} {F:FP},aj P w A t m [] v cs F->(∀ b i,1<=F b i->A' b i)->Ro P w A' t v cs:=by
 intro t
 induction t with
 | pair a b ey eg=>
  intro m v cs F h hF
  obtain ⟨h0,F1,F2,hs,h1,Y⟩:=h
  exact ⟨ey h1 (fun b i hp=>hF b i (by have:=hs b i;omega)),eg Y (fun b i hp=>hF b i (by have:=hs b i;omega))⟩
 | U e ih=>
  intro m v cs F h hF
  simp only[aj,hole,List.any_nil,Bool.false_eq_true,if_false] at h
  split at h
  ·obtain ⟨a,cap,h1,Y,h3,h4,h5⟩:=h
   refine ⟨a,cap,h1,Y,fun hn=>by have:=h4 hn;omega,fun ad c8=>?_⟩
   obtain ⟨g1,g2,g3,Fi,g4,g5⟩:=h5 ad c8
   refine ⟨fun _=>g2,fun i x hx=>?_⟩
   obtain ⟨L,hl,hL,hr⟩:=g5 i x hx
   have hi:i < List.length v:=(List.getElem?_eq_some_iff.1 hx).1
   refine ⟨L,hl,fun j u hu=>?_,ih hr fun b k hp=>hF b k ?_⟩
   ·rw[g1,Nat.zero_add]
    refine ⟨hL j u hu,hF _ _ ?_⟩
    have:=g4 ad.block (i*e.sz+j)
    have hj:j < e.sz:=hl ▸ (List.getElem?_eq_some_iff.1 hu).1
    have:i*e.sz+j < cap*e.sz:=by
     have h1:(i+1)*e.sz<=cap*e.sz:=Nat.mul_le_mul_right _ (by omega)
     rw[Nat.add_mul] at h1;omega
    simp[bq,this] at *
    omega
   ·have h1:=g4 b k
    have Y:=bk Fi hi b k
    omega
  ·exact Ro.mono (fun _ _ _ _ h=>h) hA _ h.2.2
 | ptr e ih=>
  intro m v cs F h hF
  simp only[aj,hole,List.any_nil,Bool.false_eq_true,if_false] at h
  split at h
  ·obtain ⟨b,h1,Y,L,F1,h3,h4,h5,h6⟩:=h
   refine ⟨_,h1,rfl,L,h3,fun j u hu=>⟨h4 j u hu,hF _ _ ?_⟩,ih h6 fun b' k hp=>hF _ _ ?_⟩
   ·have:=h5 b (0+j)
    have hj:j < e.sz:=h3 ▸ (List.getElem?_eq_some_iff.1 hu).1
    simp[bq,hj] at *
    omega
   ·have:=h5 b' k;omega
  ·exact Ro.mono (fun _ _ _ _ h=>h) hA _ h.2.2
 | arr n e ih=>intro m v cs F h hF;exact Ro.mono (fun _ _ _ _ h=>h) hA _ h.2
 | map k v Lc Ld=>
  intro m x cs F h hF
  simp only[aj,hole,List.any_nil,Bool.false_eq_true,if_false] at h
  split at h
  ·obtain ⟨h1,Y,r,ka,h3,h4,h5,h6,h7⟩:=h
   refine ⟨h1,Y,r,ka,h3,h4,hF _ _ h5,h6,fun i y hy=>?_⟩
   obtain ⟨kc,vc,g1,g2,g3⟩:=h7 i y hy
   exact ⟨kc,vc,g1,Ro.mono (fun _ _ _ _ h=>h) hA k g2,Ro.mono (fun _ _ _ _ h=>h) hA v g3⟩
  ·exact Ro.mono (fun _ _ _ _ h=>h) hA _ h.2.2
 | _=>intro m v cs F h hF;exact Ro.mono (fun _ _ _ _ h=>h) hA _ h
end OT
set_option linter.unusedVariables false
set_option linter.unusedSimpArgs false
namespace OT
open Go
theorem ES {m:Md} (h:m.en=true):m.l.en=true:=by cases m <;> simp_all [Md.en,Md.l]
theorem ET {m:Md} (h:m.en=true):m.r.en=true:=by cases m <;> simp_all [Md.en,Md.r]
theorem zy {m:Md} (h:m.en=true):m.e.en=true:=by cases m <;> simp_all [Md.en,Md.e]
theorem oy {m:Md} (h:m.en=true):m.own=false:=by cases m <;> simp_all [Md.en,Md.own]
theorem cZ (t:Ty):(ax t).en=true:=by
 induction t <;> simp_all [ax,mN,Md.en]
theorem M_ {m m1:Md} (h:fits m m1=true):fits m.l m1.l=true:=by cases m <;> cases m1 <;> simp_all [fits,Md.l]
theorem Na {m m1:Md} (h:fits m m1=true):fits m.r m1.r=true:=by cases m <;> cases m1 <;> simp_all [fits,Md.r]
theorem HK {m m1:Md} (h:fits m m1=true):fits m.e m1.e=true:=by cases m <;> cases m1 <;> simp_all [fits,Md.e]
theorem w7 {m m1:Md} (h:fits m m1=true):m1.own=true->m.own=true:=by
 intro h1;cases m <;> cases m1 <;> simp_all [fits,Md.own]
theorem zA {m m1:Md} (h:fits m m1=true) (h1:m1.own=false):m1.e.en=true\/∃ e,m1=.arr e:=by
 cases m <;> cases m1 <;> simp_all [fits,Md.own,Md.e,Md.en]
theorem tC:∀ {m m1:Md},fits m m1=true->m.en=true->m1.en=true:=by
 intro m
 induction m with
 | leaf=>intro m1 h hn;cases m1 <;> simp_all [fits,Md.en]
 | pair a b ey eg=>
  intro m1 h hn
  cases m1 with
  | pair c d=>simp only[fits,Md.en,Bool.and_eq_true] at *;exact ⟨ey h.1 hn.1,eg h.2 hn.2⟩
  | _=>simp[fits] at h
 | arr e ih=>
  intro m1 h hn
  cases m1 with
  | arr d=>simp only[fits,Md.en] at *;exact ih h hn
  | _=>simp[fits] at h
 | U o e ih=>
  intro m1 h hn
  cases m1 with
  | U o' d=>
   simp only[fits,Md.en,Bool.and_eq_true,Bool.or_eq_true,Bool.not_eq_true'] at *
   rw[hn.1] at h
   exact ⟨by rcases h.1.1 with h | h;exact absurd h (by simp);exact h,ih h.2 hn.2⟩
  | _=>simp[fits] at h
 | ptr o e ih=>
  intro m1 h hn
  cases m1 with
  | ptr o' d=>
   simp only[fits,Md.en,Bool.and_eq_true,Bool.or_eq_true,Bool.not_eq_true'] at *
   rw[hn.1] at h
   exact ⟨by rcases h.1.1 with h | h;exact absurd h (by simp);exact h,ih h.2 hn.2⟩
  | _=>simp[fits] at h
section
variable {P:Program} {w:World} {A:Cells}
theorem Ro.rep:∀ (t:Ty) {m:Md} {v:t.den} {cs:List Value} (F:FP),m.en=true->Ro P w A t v cs->aj P w A t m [] v cs F:=by
 intro t
 induction t with
 | pair a b ey eg=>
  intro m v cs F hm h
  exact ⟨rfl,fun _ _=>0,fun _ _=>0,fun _ _=>Nat.zero_le _,ey _ (ES hm) h.1,eg _ (ET hm) h.2⟩
 | U e ih=>intro m v cs F hm h;simp only[aj,hole,List.any_nil,Bool.false_eq_true,if_false,oy hm];exact ⟨trivial,zy hm,h⟩
 | ptr e ih=>intro m v cs F hm h;simp only[aj,hole,List.any_nil,Bool.false_eq_true,if_false,oy hm];exact ⟨trivial,zy hm,h⟩
 | arr n e ih=>intro m v cs F hm h;exact ⟨rfl,h⟩
 | map k v=>intro m x cs F hm h;simp only[aj,hole,List.any_nil,Bool.false_eq_true,if_false,oy hm];exact ⟨trivial,zy hm,h⟩
 | _=>intro m v cs F hm h;exact h
theorem aj.ro:∀ (t:Ty) {m:Md} {v:t.den} {cs:List Value} {F:FP},m.en=true->aj P w A t m [] v cs F->Ro P w A t v cs:=by
 intro t
 induction t with
 | pair a b ey eg=>
  intro m v cs F hm h
  obtain ⟨_,F1,F2,_,h1,Y⟩:=h
  exact ⟨ey (ES hm) h1,eg (ET hm) Y⟩
 | U e ih=>intro m v cs F hm h;simp only[aj,hole,List.any_nil,Bool.false_eq_true,if_false,oy hm] at h;exact h.2.2
 | ptr e ih=>intro m v cs F hm h;simp only[aj,hole,List.any_nil,Bool.false_eq_true,if_false,oy hm] at h;exact h.2.2
 | arr n e ih=>intro m v cs F hm h;exact h.2
 | map k v=>intro m x cs F hm h;simp only[aj,hole,List.any_nil,Bool.false_eq_true,if_false,oy hm] at h;exact h.2.2
 | _=>intro m v cs F hm h;exact h
theorem Ro.flat:∀ (t:Ty) {m:Md} {v:t.den} {cs:List Value} (F:FP),t.flat=true->Ro P w A t v cs->aj P w A t m [] v cs F:=by
 intro t
 induction t with
 | pair a b ey eg=>
  intro m v cs F hm h
  simp only[Ty.flat,Bool.and_eq_true] at hm
  exact ⟨rfl,fun _ _=>0,fun _ _=>0,fun _ _=>Nat.zero_le _,ey _ hm.1 h.1,eg _ hm.2 h.2⟩
 | U e ih=>intro m v cs F hm;simp[Ty.flat] at hm
 | ptr e ih=>intro m v cs F hm;simp[Ty.flat] at hm
 | arr n e ih=>intro m v cs F hm h;exact ⟨rfl,h⟩
 | map k v=>intro m v cs F hm;simp[Ty.flat] at hm
 | _=>intro m v cs F hm h;exact h
theorem aj.flat:∀ (t:Ty) {m:Md} {H:List Path} {v:t.den} {cs:List Value} {F:FP},t.flat=true->aj P w A t m H v cs F->Ro P w A t v cs:=by
 intro t
 induction t with
 | pair a b ey eg=>
  intro m H v cs F hm h
  simp only[Ty.flat,Bool.and_eq_true] at hm
  obtain ⟨_,F1,F2,_,h1,Y⟩:=h
  exact ⟨ey hm.1 h1,eg hm.2 Y⟩
 | U e ih=>intro m H v cs F hm;simp[Ty.flat] at hm
 | ptr e ih=>intro m H v cs F hm;simp[Ty.flat] at hm
 | arr n e ih=>intro m H v cs F hm h;exact h.2
 | map k v=>intro m H v cs F hm;simp[Ty.flat] at hm
 | _=>intro m H v cs F hm h;exact h
theorem aj.fits:∀ (t:Ty) {m m1:Md} {v:t.den} {cs:List Value} {F:FP},fits m m1=true->aj P w A t m [] v cs F->(∀ b i,F b i<=1) ->
  ∃ F1:FP,(∀ b i,F1 b i<=F b i)/\∀ A':Cells,(∀ b i,A b i->A' b i)->(∀ b i,1<=F b i->F1 b i=0->A' b i)->aj P w A' t m1 [] v cs F1:=by
 intro t
 induction t with
 | pair a b ey eg=>
  intro m m1 v cs F hf h hF
  obtain ⟨_,Fa,Fb,hs,h1,Y⟩:=h
  obtain ⟨G1,P1,k1⟩:=ey (M_ hf) h1 (fun b i=>by have:=hs b i;have:=hF b i;omega)
  obtain ⟨G2,P2,k2⟩:=eg (Na hf) Y (fun b i=>by have:=hs b i;have:=hF b i;omega)
  refine ⟨fun b i=>G1 b i+G2 b i,fun b i=>by have:=hs b i;have:=P1 b i;have:=P2 b i;show G1 b i+G2 b i<=_;omega,fun A' hA gX=>⟨rfl,G1,G2,fun _ _=>Nat.le_refl _,k1 A' hA fun b i hp hz=>?_,k2 A' hA fun b i hp hz=>?_⟩⟩
  ·have:=hs b i;have:=hF b i;have:=P2 b i
   exact gX b i (by omega) (by show G1 b i+G2 b i=0;omega)
  ·have:=hs b i;have:=hF b i;have:=P1 b i
   exact gX b i (by omega) (by show G1 b i+G2 b i=0;omega)
 | U e ih=>
  intro m m1 v cs F hf h hF
  by_cases pu:m1.own=true
  ·have hm:=w7 hf pu
   simp only[aj,hole,List.any_nil,Bool.false_eq_true,if_false,hm,if_true] at h
   obtain ⟨a,cap,h1,Y,h3,h4,h5⟩:=h
   cases a with
   | none=>
    refine ⟨fun _ _=>0,fun _ _=>Nat.zero_le _,fun A' hA gX=>?_⟩
    simp only[aj,hole,List.any_nil,Bool.false_eq_true,if_false,pu,if_true]
    exact ⟨none,cap,h1,Y,h3,h4,fun ad c8=>by cases c8⟩
   | some ad=>
    obtain ⟨g1,g2,g3,Fi,g4,g5⟩:=h5 ad rfl
    have each:∀ i,∃ Gi:FP,(∀ b k,Gi b k<=Fi i b k)/\∀ A':Cells,(∀ b i,A b i->A' b i)->(∀ b k,1<=Fi i b k->Gi b k=0->A' b k) ->
      ∀ x,v[i]?=some x->∃ L:List Value,L.length=e.sz/\Has w ad.block (i*e.sz) L/\aj P w A' e m1.e (([]:List Path).filterMap (gm i)) x L Gi:=by
     intro i
     cases hx:(v:List e.den)[i]? with
     | none=>exact ⟨fun _ _=>0,fun _ _=>Nat.zero_le _,fun A' _ _ x BT=>by cases BT⟩
     | some x=>
      obtain ⟨L,hl,hL,hr⟩:=g5 i x hx
      have hi:i < List.length v:=(List.getElem?_eq_some_iff.1 hx).1
      obtain ⟨G,hG,k⟩:=ih (HK hf) hr (fun b k=>by have:=bk Fi hi b k;have:=g4 b k;have:=hF b k;omega)
      exact ⟨G,hG,fun A' hA gX x' BT=>by injection BT with BT;subst BT;exact ⟨L,hl,hL,k A' hA gX⟩⟩
    have ⟨Gi,Nb⟩:=Classical.axiomOfChoice each
    refine ⟨fun b k=>bq ad.block 0 (cap*e.sz) b k+ay (List.length v) Gi b k,fun b k=>?_,fun A' hA gX=>?_⟩
    ·have:=g4 b k;have:=zx b k (f:=Gi) (g:=Fi) (n:=List.length v) fun j _=>(Nb j).1 b k
     show bq ad.block 0 (cap*e.sz) b k+ay (List.length v) Gi b k<=_;omega
    ·simp only[aj,hole,List.any_nil,Bool.false_eq_true,if_false,pu,if_true]
     refine ⟨some ad,cap,h1,Y,h3,h4,fun a_ w8=>?_⟩
     injection w8 with w8;subst w8
     refine ⟨g1,g2,g3,Gi,fun _ _=>Nat.le_refl _,fun i x hx=>(Nb i).2 A' hA (fun b k hp hz=>?_) x hx⟩
     have hi:i < List.length v:=(List.getElem?_eq_some_iff.1 hx).1
     have h1:=g4 b k;have Y:=hF b k;have h3:=bk Fi hi b k
     refine gX b k (by omega) ?_
     show bq ad.block 0 (cap*e.sz) b k+ay (List.length v) Gi b k=0
     have:ay (List.length v) Gi b k=0:=by
      rcases Nat.eq_zero_or_pos (ay (List.length v) Gi b k) with h0 | h0
      ·exact h0
      ·obtain ⟨j,hj,P3⟩:=BS h0
       have:=(Nb j).1 b k
       by_cases ge:j=i
       ·subst ge;omega
       ·have:=mQ Fi hj hi ge b k;omega
     omega
  ·have u_:m1.own=false:=by simpa using pu
   have kP:m1.e.en=true:=by
    rcases zA hf u_ with h | ⟨e',rfl⟩
    ·exact h
    ·cases m <;> simp[OT.fits] at hf
     simp only[aj,hole,List.any_nil,Bool.false_eq_true,if_false,Md.own] at h
     exact tC hf h.2.1
   refine ⟨fun _ _=>0,fun _ _=>Nat.zero_le _,fun A' hA gX=>?_⟩
   have lK:=aj.oS hA _ h (fun b i hp=>gX b i hp rfl)
   simp only[aj,hole,List.any_nil,Bool.false_eq_true,if_false,u_]
   exact ⟨trivial,kP,lK⟩
 | ptr e ih=>
  intro m m1 v cs F hf h hF
  by_cases pu:m1.own=true
  ·have hm:=w7 hf pu
   simp only[aj,hole,List.any_nil,Bool.false_eq_true,if_false,hm,if_true] at h
   obtain ⟨b,h1,Y,L,F1,h3,h4,h5,h6⟩:=h
   obtain ⟨G,hG,k⟩:=ih (HK hf) h6 (fun b' i=>by have:=h5 b' i;have:=hF b' i;omega)
   refine ⟨fun b' k=>bq b 0 e.sz b' k+G b' k,fun b' k=>by have:=h5 b' k;have:=hG b' k;show bq b 0 e.sz b' k+G b' k<=_;omega,fun A' hA gX=>?_⟩
   simp only[aj,hole,List.any_nil,Bool.false_eq_true,if_false,pu,if_true]
   refine ⟨b,h1,Y,L,G,h3,h4,fun _ _=>Nat.le_refl _,k A' hA fun b' i hp hz=>gX b' i ?_ ?_⟩
   ·have:=h5 b' i;omega
   ·have:=h5 b' i;have:=hF b' i
    show bq b 0 e.sz b' i+G b' i=0
    omega
  ·have u_:m1.own=false:=by simpa using pu
   have kP:m1.e.en=true:=by
    rcases zA hf u_ with h | ⟨e',rfl⟩
    ·exact h
    ·cases m <;> simp[OT.fits] at hf
     simp only[aj,hole,List.any_nil,Bool.false_eq_true,if_false,Md.own] at h
     exact tC hf h.2.1
   refine ⟨fun _ _=>0,fun _ _=>Nat.zero_le _,fun A' hA gX=>?_⟩
   have lK:=aj.oS hA _ h (fun b i hp=>gX b i hp rfl)
   simp only[aj,hole,List.any_nil,Bool.false_eq_true,if_false,u_]
   exact ⟨trivial,kP,lK⟩
 | arr n e ih=>intro m m1 v cs F hf h hF;exact ⟨fun _ _=>0,fun _ _=>Nat.zero_le _,fun A' hA gX=>⟨rfl,Ro.mono (fun _ _ _ _ h=>h) hA _ h.2⟩⟩
 | map k v Lc Ld=>
  intro m m1 x cs F hf h hF
  by_cases pu:m1.own=true
  ·have hm:=w7 hf pu
   simp only[aj,hole,List.any_nil,Bool.false_eq_true,if_false,hm,if_true] at h
   obtain ⟨h1,Y,r,ka,h3,h4,h5,h6,h7⟩:=h
   refine ⟨F,fun _ _=>Nat.le_refl _,fun A' hA gX=>?_⟩
   simp only[aj,hole,List.any_nil,Bool.false_eq_true,if_false,pu,if_true]
   refine ⟨h1,Y,r,ka,h3,h4,h5,h6,fun i y hy=>?_⟩
   obtain ⟨kc,vc,g1,g2,g3⟩:=h7 i y hy
   exact ⟨kc,vc,g1,Ro.mono (fun _ _ _ _ h=>h) hA k g2,Ro.mono (fun _ _ _ _ h=>h) hA v g3⟩
  ·have u_:m1.own=false:=by simpa using pu
   have kP:m1.e.en=true:=by
    rcases zA hf u_ with h | ⟨e',rfl⟩
    ·exact h
    ·cases m <;> simp[OT.fits] at hf
     simp only[aj,hole,List.any_nil,Bool.false_eq_true,if_false,Md.own] at h
     exact tC hf h.2.1
   refine ⟨fun _ _=>0,fun _ _=>Nat.zero_le _,fun A' hA gX=>?_⟩
   have lK:=aj.oS hA _ h (fun b i hp=>gX b i hp rfl)
   simp only[aj,hole,List.any_nil,Bool.false_eq_true,if_false,u_]
   exact ⟨trivial,kP,lK⟩
 | _=>intro m m1 v cs F hf h hF;exact ⟨fun _ _=>0,fun _ _=>Nat.zero_le _,fun A' hA gX=>Ro.mono (fun _ _ _ _ h=>h) hA _ h⟩
end
end OT
set_option linter.unusedVariables false
set_option linter.unusedSimpArgs false
namespace OT
open Go
def rd (w:World) (b o n:Nat):List Value:=(List.range n).map fun j=>(ce w b (o+j)).getD undef
theorem pY (w:World) (b o n:Nat):(rd w b o n).length=n:=by simp[rd]
theorem bB {w:World} {b o:Nat} {L:List Value} {n:Nat} (h:Has w b o L) (hn:L.length=n):rd w b o n=L:=by
 subst hn
 apply List.ext_getElem?
 intro j
 unfold rd
 rw[List.getElem?_map]
 by_cases hj:j < L.length
 ·rw[List.getElem?_range hj]
  have:=h j L[j] (List.getElem?_eq_getElem hj)
  simp[this,List.getElem?_eq_getElem hj]
 ·simp[List.getElem?_eq_none (Nat.le_of_not_lt hj),List.getElem?_eq_none (l:=List.range L.length) (by simpa using Nat.le_of_not_lt hj)]
structure Pl where
 t:Ty
 H:List Path
 cs:List Value
 ad:Option (Nat×Nat)
def cG (ad:Option (Nat×Nat)) (k:Nat):Option (Nat×Nat):=ad.map fun x=>(x.1,x.2+k)
def aH (w:World):Path->Ty->List Path->List Value->Option (Nat×Nat)->Option Pl
 | [],t,H,cs,ad=>some ⟨t,H,cs,ad⟩
 | .fst::p,.pair a _,H,cs,ad=>if hole H then none else aH w p a (H.filterMap nJ) (cs.take a.sz) ad
 | .snd::p,.pair a b,H,cs,ad=>if hole H then none else aH w p b (H.filterMap nK) (cs.drop a.sz) (cG ad a.sz)
 | .idx i::p,.U e,H,cs,_=>if hole H then none else match cs with
  | [.slice (some a) n _]=>if i < n then aH w p e (H.filterMap (gm i)) (rd w a.block (a.off+i*e.sz) e.sz) (some (a.block,a.off+i*e.sz)) else none
  | _=>none
 | .je i::p,.arr n e,H,cs,ad=>if H.isEmpty then (if i < n then aH w p e [] ((cs.drop (i*e.sz)).take e.sz) (cG ad (i*e.sz)) else none) else none
 | _,_,_,_,_=>none
def nV:Ty->Bool
 | .U _ | .map _ _=>true
 | _=>false
def kQ (d:Nat) (full:Prop) (w:World) (t:Ty) (H:List Path) (cs:List Value) (ad:Option (Nat×Nat)) (w2:World) (H2:List Path) (bn:List Value):Prop:=
 ∀ q pl,br q<=d->aH w q t H cs ad=some pl->∃ H' aL,aH w2 q t H2 bn ad=some ⟨pl.t,H',aL,pl.ad⟩/\((br q < d/\nV pl.t=true)\/full->aL=pl.cs)
theorem va {R:Type} {H:List Path} {i:Nat} {K:List Path->Option R} {r:R} (h:px H i K=some r) :
  K (H.filterMap (gm i))=some r/\(∀ j,j≠i->H.filterMap (gm j)=[])/\hole H=false:=by
 unfold px at h
 split at h
 ·exact ⟨h,fun _ _=>rfl,rfl⟩
 ·rename_i j q
  split at h
  ·rename_i jf;subst jf
   refine ⟨by simpa [gm] using h,fun j hj=>by simp[gm,hj],rfl⟩
  ·cases h
 ·cases h
theorem tD {R S:Type} {H:List Path} {i:Nat} {K:List Path->Option R} {r:R} (h:px H i K=some r) (K2:List Path->Option S) :
  px H i K2=K2 (H.filterMap (gm i)):=by
 unfold px at h ⊢
 split at h
 ·rfl
 ·rename_i j q
  split at h
  ·rename_i jf;subst jf
   simp[gm]
  ·cases h
 ·cases h
theorem mq (H:List Path):(H.map (.fst::·)).filterMap nJ=H:=by
 induction H with
 | nil=>rfl
 | cons a H ih=>simp only[List.map_cons,List.filterMap_cons,nJ,ih]
theorem mr (H:List Path):(H.map (.snd::·)).filterMap nK=H:=by
 induction H with
 | nil=>rfl
 | cons a H ih=>simp only[List.map_cons,List.filterMap_cons,nK,ih]
theorem mR (H:List Path):(H.map (.snd::·)).filterMap nJ=[]:=by
 induction H with
 | nil=>rfl
 | cons a H ih=>simp[nJ] at *
theorem mS (H:List Path):(H.map (.fst::·)).filterMap nK=[]:=by
 induction H with
 | nil=>rfl
 | cons a H ih=>simp[nK] at *
theorem uI (i:Nat) (H:List Path):(H.map (.idx i::·)).filterMap (gm i)=H:=by
 induction H with
 | nil=>rfl
 | cons a H ih=>simp only[List.map_cons,List.filterMap_cons,gm,if_true,ih]
theorem rr {i j:Nat} (h:j≠i) (H:List Path):(H.map (.idx i::·)).filterMap (gm j)=[]:=by
 induction H with
 | nil=>rfl
 | cons a H ih=>simp[gm,h] at *
theorem jN (s:Step) (H:List Path):hole (H.map (s::·))=false:=by
 induction H with
 | nil=>rfl
 | cons a H ih=>simp[hole] at *
theorem ly (H1 H2:List Path):hole (H1++H2)=(hole H1||hole H2):=by simp[hole]
theorem O5 {w:World}:∀ (q:Path) (t:Ty) {H H2:List Path} {cs:List Value} {ad:Option (Nat×Nat)} {pl BU:Pl},aH w q t H cs ad=some pl->aH w q t H2 cs ad=some BU->BU.t=pl.t/\BU.cs=pl.cs/\BU.ad=pl.ad:=by
 intro q
 induction q with
 | nil=>intro t H H2 cs ad pl BU h Y;simp only[aH,Option.some.injEq] at h Y;subst h;subst Y;exact ⟨rfl,rfl,rfl⟩
 | cons s q ih=>
  intro t H H2 cs ad pl BU h Y
  cases t with
  | pair a b=>
   cases s with
   | fst=>simp only[aH] at h Y;split at h;cases h;split at Y;cases Y;exact ih a h Y
   | snd=>simp only[aH] at h Y;split at h;cases h;split at Y;cases Y;exact ih b h Y
   | _=>simp[aH] at h
  | U e=>
   cases s with
   | idx i=>
    simp only[aH] at h Y
    split at h
    ·cases h
    ·split at Y
     ·cases Y
     ·split at h
      ·split at h
       ·rename_i hi;simp only[hi,if_true] at Y;exact ih e h Y
       ·cases h
      ·cases h
   | _=>simp[aH] at h
  | arr n e=>
   cases s with
   | je i=>
    simp only[aH] at h Y
    split at h
    ·split at h
     ·split at Y
      ·exact ih e h Y
      ·cases Y
     ·cases h
    ·cases h
   | _=>simp[aH] at h
  | _=>cases s <;> simp[aH] at h
section
variable {P:Program}
theorem oz {w w2:World} {A:Cells} (hA:∀ b i,A b i->∀ u,ce w b i=some u->ce w2 b i=some u) :
  ∀ (q:Path) (t:Ty) {m:Md} {H:List Path} {v:t.den} {cs:List Value} {F:FP} {ad:Option (Nat×Nat)} {pl:Pl},aj P w A t m H v cs F->(∀ b i,1<=F b i->∀ u,ce w b i=some u->ce w2 b i=some u) ->
  aH w q t H cs ad=some pl->aH w2 q t H cs ad=some pl:=by
 intro q
 induction q with
 | nil=>intro t m H v cs F ad pl _ _ h;exact h
 | cons s q ih=>
  intro t m H v cs F ad pl hr hF h
  cases t with
  | pair a b=>
   obtain ⟨h0,F1,F2,hs,h1,Y⟩:=hr
   cases s with
   | fst=>simp only[aH,h0,if_false] at h ⊢;exact ih a h1 (fun b i hp=>hF b i (by have:=hs b i;omega)) h
   | snd=>simp only[aH,h0,if_false] at h ⊢;exact ih b Y (fun b i hp=>hF b i (by have:=hs b i;omega)) h
   | idx i=>simp[aH] at h
   | je i=>simp[aH] at h
  | U e=>
   cases s with
   | fst=>simp[aH] at h
   | snd=>simp[aH] at h
   | je i=>simp[aH] at h
   | idx i=>
    simp only[aj] at hr
    simp only[aH] at h ⊢
    split at h
    ·cases h
    ·rename_i hh
     rw[if_neg hh]
     rw[if_neg hh] at hr
     split at hr
     ·obtain ⟨a,cap,rfl,Y,h3,h4,h5⟩:=hr
      cases a with
      | none=>cases h
      | some cc=>
       obtain ⟨g1,g2,g3,Fi,g4,g5⟩:=h5 cc rfl
       simp only at h ⊢
       split at h
       ·rename_i hi
        rw[if_pos hi]
        obtain ⟨L,hl,hL,cI⟩:=g5 i _ (List.getElem?_eq_getElem hi)
        have ai:(i+1)*e.sz<=cap*e.sz:=Nat.mul_le_mul_right _ (by omega)
        rw[Nat.add_mul] at ai
        have R6:Has w2 cc.block (i*e.sz) L:=fun j u hu=>by
         have hj:j < e.sz:=hl ▸ (List.getElem?_eq_some_iff.1 hu).1
         refine hF _ _ ?_ u (hL j u hu)
         have:=g4 cc.block (i*e.sz+j)
         have h0:i*e.sz+j < cap*e.sz:=by omega
         simp[bq,h0] at this;omega
        rw[g1,Nat.zero_add,bB hL hl] at h
        rw[g1,Nat.zero_add,bB R6 hl]
        exact ih e cI (fun b k hp=>hF b k (by have:=g4 b k;have:=bk Fi hi b k;omega)) h
       ·cases h
     ·obtain ⟨rfl,kP,a,cap,rfl,Y,h3,h4⟩:=hr
      cases a with
      | none=>cases h
      | some cc=>
       simp only at h ⊢
       split at h
       ·rename_i hi
        rw[if_pos hi]
        obtain ⟨L,hl,hL,cI⟩:=(h4 cc rfl).2 i _ (List.getElem?_eq_getElem hi)
        rw[bB (fun j u hu=>(hL j u hu).1) hl] at h
        rw[bB (fun j u hu=>hA _ _ (hL j u hu).2 u (hL j u hu).1) hl]
        exact ih e (Ro.rep e (fun _ _=>0) kP cI) (fun b k hp=>by simp at hp) h
       ·cases h
  | arr n e=>
   cases s with
   | fst=>simp[aH] at h
   | snd=>simp[aH] at h
   | idx i=>simp[aH] at h
   | je i=>
    obtain ⟨rfl,hf,hl,hlen,hr⟩:=hr
    simp only[aH,List.isEmpty_nil,if_true] at h ⊢
    split at h
    ·rename_i hi
     rw[if_pos hi]
     exact ih e (Ro.flat e (m:=.leaf) (fun _ _=>0) hf (hr i _ (List.getElem?_eq_getElem (by rw[hl];exact hi)))) (fun b k hp=>by simp at hp) h
    ·cases h
  | _=>cases s <;> simp[aH] at h
theorem HL {w:World} {A:Cells} {S:Nat->Nat->Prop} (hA:∀ b i,A b i->S b i) :
  ∀ (q:Path) (t:Ty) {m:Md} {H:List Path} {v:t.den} {cs:List Value} {F:FP} {ad:Option (Nat×Nat)} {pl:Pl},aj P w A t m H v cs F->(∀ b i,1<=F b i->S b i) ->
  (∀ b o,ad=some (b,o)->∀ j,j < t.sz->S b (o+j))->aH w q t H cs ad=some pl->∀ b o,pl.ad=some (b,o)->∀ j,j < pl.t.sz->S b (o+j):=by
 intro q
 induction q with
 | nil=>intro t m H v cs F ad pl _ _ c8 h;simp only[aH,Option.some.injEq] at h;subst h;exact c8
 | cons s q ih=>
  intro t m H v cs F ad pl hr hF c8 h
  cases t with
  | pair a b=>
   obtain ⟨h0,F1,F2,hs,h1,Y⟩:=hr
   cases s with
   | fst=>simp only[aH,h0,if_false] at h;exact ih a h1 (fun b i hp=>hF b i (by have:=hs b i;omega)) (fun b' o e j hj=>c8 b' o e j (by simp only[Ty.sz];omega)) h
   | snd=>
    simp only[aH,h0,if_false] at h
    refine ih b Y (fun b i hp=>hF b i (by have:=hs b i;omega)) (fun b' o e j hj=>?_) h
    cases ad with
    | none=>cases e
    | some y=>
     simp only[cG,Option.map_some,Option.some.injEq,Prod.mk.injEq] at e
     obtain ⟨rfl,rfl⟩:=e
     have:=c8 y.1 y.2 rfl (a.sz+j) (by simp only[Ty.sz];omega)
     rwa [Nat.add_assoc]
   | idx i=>simp[aH] at h
   | je i=>simp[aH] at h
  | U e=>
   cases s with
   | fst=>simp[aH] at h
   | snd=>simp[aH] at h
   | je i=>simp[aH] at h
   | idx i=>
    simp only[aj] at hr
    simp only[aH] at h
    split at h
    ·cases h
    ·rename_i hh
     rw[if_neg hh] at hr
     split at hr
     ·obtain ⟨a,cap,rfl,Y,h3,h4,h5⟩:=hr
      cases a with
      | none=>cases h
      | some cc=>
       obtain ⟨g1,g2,g3,Fi,g4,g5⟩:=h5 cc rfl
       simp only at h
       split at h
       ·rename_i hi
        obtain ⟨L,hl,hL,cI⟩:=g5 i _ (List.getElem?_eq_getElem hi)
        have ai:(i+1)*e.sz<=cap*e.sz:=Nat.mul_le_mul_right _ (by omega)
        rw[Nat.add_mul] at ai
        rw[g1,Nat.zero_add,bB hL hl] at h
        refine ih e cI (fun b k hp=>hF b k (by have:=g4 b k;have:=bk Fi hi b k;omega)) (fun b' o e' j hj=>?_) h
        simp only[Option.some.injEq,Prod.mk.injEq] at e'
        obtain ⟨rfl,rfl⟩:=e'
        refine hF _ _ ?_
        have:=g4 cc.block (i*e.sz+j)
        have h0:i*e.sz+j < cap*e.sz:=by omega
        simp[bq,h0] at this;omega
       ·cases h
     ·obtain ⟨rfl,kP,a,cap,rfl,Y,h3,h4⟩:=hr
      cases a with
      | none=>cases h
      | some cc=>
       simp only at h
       split at h
       ·rename_i hi
        obtain ⟨L,hl,hL,cI⟩:=(h4 cc rfl).2 i _ (List.getElem?_eq_getElem hi)
        rw[bB (fun j u hu=>(hL j u hu).1) hl] at h
        refine ih e (Ro.rep e (fun _ _=>0) kP cI) (fun b k hp=>by simp at hp) (fun b' o e' j hj=>?_) h
        simp only[Option.some.injEq,Prod.mk.injEq] at e'
        obtain ⟨rfl,rfl⟩:=e'
        exact hA _ _ (hL j _ (List.getElem?_eq_getElem (by omega))).2
       ·cases h
  | arr n e=>
   cases s with
   | fst=>simp[aH] at h
   | snd=>simp[aH] at h
   | idx i=>simp[aH] at h
   | je i=>
    obtain ⟨rfl,hf,hl,hlen,hr⟩:=hr
    simp only[aH,List.isEmpty_nil,if_true] at h
    split at h
    ·rename_i hi
     refine ih e (Ro.flat e (m:=.leaf) (fun _ _=>0) hf (hr i _ (List.getElem?_eq_getElem (by rw[hl];exact hi)))) (fun b k hp=>by simp at hp) (fun b' o e' j hj=>?_) h
     cases ad with
     | none=>cases e'
     | some y=>
      simp only[cG,Option.map_some,Option.some.injEq,Prod.mk.injEq] at e'
      obtain ⟨rfl,rfl⟩:=e'
      have ai:(i+1)*e.sz<=n*e.sz:=Nat.mul_le_mul_right _ hi
      rw[Nat.add_mul] at ai
      have:=c8 y.1 y.2 rfl (i*e.sz+j) (by simp only[Ty.sz];omega)
      rwa [Nat.add_assoc]
    ·cases h
  | _=>cases s <;> simp[aH] at h
theorem Mj {w:World} {A:Cells} :
  ∀ (q:Path) (t:Ty) {m:Md} {H:List Path} {v:t.den} {cs:List Value} {F:FP} {ad:Option (Nat×Nat)} {pl:Pl},aj P w A t m H v cs F ->
  (∀ b o,ad=some (b,o)->Has w b o cs)->aH w q t H cs ad=some pl->(∀ b o,pl.ad=some (b,o)->Has w b o pl.cs)/\∃ (m':Md) (v':pl.t.den) (F':FP),aj P w A pl.t m' pl.H v' pl.cs F':=by
 intro q
 induction q with
 | nil=>intro t m H v cs F ad pl hr c8 h;simp only[aH,Option.some.injEq] at h;subst h;exact ⟨c8,m,v,F,hr⟩
 | cons s q ih=>
  intro t m H v cs F ad pl hr c8 h
  cases t with
  | pair a b=>
   obtain ⟨h0,F1,F2,hs,h1,Y⟩:=hr
   cases s with
   | fst=>
    simp only[aH,h0,if_false] at h
    exact ih a h1 (fun b' o e j u hu=>c8 b' o e j u (by rw[List.getElem?_take] at hu;split at hu;exact hu;cases hu)) h
   | snd=>
    simp only[aH,h0,if_false] at h
    refine ih b Y (fun b' o e j u hu=>?_) h
    cases ad with
    | none=>cases e
    | some y=>
     simp only[cG,Option.map_some,Option.some.injEq,Prod.mk.injEq] at e
     obtain ⟨rfl,rfl⟩:=e
     rw[List.getElem?_drop] at hu
     have:=c8 y.1 y.2 rfl (a.sz+j) u hu
     rwa [Nat.add_assoc]
   | idx i=>simp[aH] at h
   | je i=>simp[aH] at h
  | U e=>
   cases s with
   | fst=>simp[aH] at h
   | snd=>simp[aH] at h
   | je i=>simp[aH] at h
   | idx i=>
    simp only[aj] at hr
    simp only[aH] at h
    split at h
    ·cases h
    ·rename_i hh
     rw[if_neg hh] at hr
     split at hr
     ·obtain ⟨a,cap,rfl,Y,h3,h4,h5⟩:=hr
      cases a with
      | none=>cases h
      | some cc=>
       obtain ⟨g1,g2,g3,Fi,g4,g5⟩:=h5 cc rfl
       simp only at h
       split at h
       ·rename_i hi
        obtain ⟨L,hl,hL,cI⟩:=g5 i _ (List.getElem?_eq_getElem hi)
        rw[g1,Nat.zero_add,bB hL hl] at h
        refine ih e cI (fun b' o e'=>?_) h
        simp only[Option.some.injEq,Prod.mk.injEq] at e'
        obtain ⟨rfl,rfl⟩:=e'
        exact hL
       ·cases h
     ·obtain ⟨rfl,kP,a,cap,rfl,Y,h3,h4⟩:=hr
      cases a with
      | none=>cases h
      | some cc=>
       simp only at h
       split at h
       ·rename_i hi
        obtain ⟨L,hl,hL,cI⟩:=(h4 cc rfl).2 i _ (List.getElem?_eq_getElem hi)
        rw[bB (fun j u hu=>(hL j u hu).1) hl] at h
        refine ih e (Ro.rep e (fun _ _=>0) kP cI) (fun b' o e'=>?_) h
        simp only[Option.some.injEq,Prod.mk.injEq] at e'
        obtain ⟨rfl,rfl⟩:=e'
        exact fun j u hu=>(hL j u hu).1
       ·cases h
  | arr n e=>
   cases s with
   | fst=>simp[aH] at h
   | snd=>simp[aH] at h
   | idx i=>simp[aH] at h
   | je i=>
    obtain ⟨rfl,hf,hl,hlen,hr⟩:=hr
    simp only[aH,List.isEmpty_nil,if_true] at h
    split at h
    ·rename_i hi
     refine ih e (Ro.flat e (m:=.leaf) (fun _ _=>0) hf (hr i _ (List.getElem?_eq_getElem (by rw[hl];exact hi)))) (fun b' o e' j u hu=>?_) h
     cases ad with
     | none=>cases e'
     | some y=>
      simp only[cG,Option.map_some,Option.some.injEq,Prod.mk.injEq] at e'
      obtain ⟨rfl,rfl⟩:=e'
      rw[List.getElem?_take] at hu
      split at hu
      ·rw[List.getElem?_drop] at hu
       have:=c8 y.1 y.2 rfl (i*e.sz+j) u hu
       rwa [Nat.add_assoc]
      ·cases hu
    ·cases h
  | _=>cases s <;> simp[aH] at h
theorem se {w w2:World} {A A2:Cells} :
  ∀ (q:Path) (t:Ty) {m m2:Md} {H H2:List Path} {v v2:t.den} {cs bn:List Value} {F F2:FP} {ad:Option (Nat×Nat)} {pl:Pl},
  aj P w2 A2 t m2 H2 v2 bn F2->(br q=0\/t.flat=true) ->
  aH w q t H cs ad=some pl->∃ H' aL,aH w2 q t H2 bn ad=some ⟨pl.t,H',aL,pl.ad⟩/\(t.flat=true->nV pl.t=false):=by
 intro q
 induction q with
 | nil=>
  intro t m m2 H H2 v v2 cs bn F F2 ad pl hr hq h
  simp only[aH,Option.some.injEq] at h
  subst h
  exact ⟨_,_,rfl,fun hf=>by cases t <;> simp_all [Ty.flat,nV]⟩
 | cons s q ih=>
  intro t m m2 H H2 v v2 cs bn F F2 ad pl hr hq h
  cases t with
  | pair a b=>
   obtain ⟨h0,F1,F2,hs,h1,Y⟩:=hr
   simp only[Ty.flat,Bool.and_eq_true] at hq ⊢
   cases s with
   | fst=>
    simp only[aH,h0,if_false] at h ⊢
    split at h
    ·cases h
    ·obtain ⟨H',aL,h3,h4⟩:=ih a (v:=v.1) (m:=.leaf) (F:=F) h1 (hq.imp (fun h=>by simpa [br] using h) (·.1)) h
     exact ⟨H',aL,by simpa using h3,fun hf=>h4 hf.1⟩
   | snd=>
    simp only[aH,h0,if_false] at h ⊢
    split at h
    ·cases h
    ·obtain ⟨H',aL,h3,h4⟩:=ih b (v:=v.2) (m:=.leaf) (F:=F) Y (hq.imp (fun h=>by simpa [br] using h) (·.2)) h
     exact ⟨H',aL,by simpa using h3,fun hf=>h4 hf.2⟩
   | idx i=>simp[aH] at h
   | je i=>simp[aH] at h
  | U e=>
   cases s with
   | fst=>simp[aH] at h
   | snd=>simp[aH] at h
   | je i=>simp[aH] at h
   | idx i=>simp[br,Ty.flat] at hq
  | arr n e=>
   cases s with
   | fst=>simp[aH] at h
   | snd=>simp[aH] at h
   | idx i=>simp[aH] at h
   | je i=>
    obtain ⟨rfl,hf,hl,hlen,hr⟩:=hr
    simp only[aH,List.isEmpty_nil,if_true] at h ⊢
    split at h
    ·split at h
     ·rename_i hi
      rw[if_pos hi]
      obtain ⟨H',aL,h3,h4⟩:=ih e (v:=e.zero) (m:=.leaf) (F:=F) (Ro.flat e (m:=.leaf) (fun _ _=>0) hf (hr i _ (List.getElem?_eq_getElem (by rw[hl];exact hi)))) (.inr hf) h
      exact ⟨H',aL,h3,fun _=>h4 hf⟩
     ·cases h
    ·cases h
  | _=>cases s <;> simp[aH] at h
theorem kQ.zero {w w2:World} {A A2:Cells} {t:Ty} {m2:Md} {H H2:List Path} {v2:t.den} {cs bn:List Value} {F2:FP} (ad:Option (Nat×Nat)) (h:aj P w2 A2 t m2 H2 v2 bn F2):kQ 0 False w t H cs ad w2 H2 bn:=by
 intro q pl hq hp
 obtain ⟨H',aL,h1,_⟩:=se (A:=A) (m:=m2) (v:=v2) (F:=F2) q t h (.inl (by omega)) hp
 exact ⟨H',aL,h1,fun h=>by rcases h with h | h;omega;exact h.elim⟩
theorem kQ.flat {w w2:World} {A A2:Cells} {t:Ty} {m2:Md} {H H2:List Path} {v2:t.den} {cs bn:List Value} {F2:FP} (ad:Option (Nat×Nat)) (h:aj P w2 A2 t m2 H2 v2 bn F2) (hf:t.flat=true) (d:Nat):kQ d False w t H cs ad w2 H2 bn:=by
 intro q pl hq hp
 obtain ⟨H',aL,h1,Y⟩:=se (A:=A) (m:=m2) (v:=v2) (F:=F2) q t h (.inr hf) hp
 exact ⟨H',aL,h1,fun h=>by rcases h with ⟨_,hs⟩ | h;rw[Y hf] at hs;cases hs;exact h.elim⟩
theorem kQ.same {w w2:World} {A:Cells} {t:Ty} {m:Md} {H:List Path} {v:t.den} {cs:List Value} {F:FP} (ad:Option (Nat×Nat)) (h:aj P w A t m H v cs F)
  (hA:∀ b i,A b i->∀ u,ce w b i=some u->ce w2 b i=some u) (hF:∀ b i,1<=F b i->∀ u,ce w b i=some u->ce w2 b i=some u) (d:Nat) (full:Prop):kQ d full w t H cs ad w2 H cs:=by
 intro q pl hq hp
 exact ⟨pl.H,pl.cs,oz hA q t h hF hp,fun _=>rfl⟩
end
end OT
set_option linter.unusedVariables false
set_option linter.unusedSimpArgs false
namespace OT
open Go
def rt (cs:List Value) (off:Nat) (n:Nat) (c2:List Value):List Value:=cs.take off++c2++cs.drop (off+n)
def fa (loc:Option Nat) (cs:List Value) (n:Nat) (c2:List Value):List Value:=match loc with
 | some off=>rt cs off n c2
 | none=>cs
theorem nr {cs c2:List Value} {off n:Nat} (h:off+n<=cs.length) (Y:c2.length=n):(rt cs off n c2).length=cs.length:=by
 simp[rt];omega
theorem ru {cs:List Value} {off n:Nat} (h:off+n<=cs.length):rt cs off n ((cs.drop off).take n)=cs:=by
 unfold rt
 rw[List.append_assoc]
 have:(cs.drop off).take n++cs.drop (off+n)=cs.drop off:=by
  rw[<-List.drop_drop];exact List.take_append_drop n (cs.drop off)
 rw[this];exact List.take_append_drop off cs
theorem sY {cs c2:List Value} {off n:Nat} (h:off+n<=cs.length) (Y:c2.length=n) (j:Nat):(rt cs off n c2)[j]?=if off<=j/\j < off+n then c2[j - off]? else cs[j]?:=by
 unfold rt
 rw[List.getElem?_append,List.getElem?_append]
 simp only[List.length_append,List.length_take]
 have h1:min off cs.length=off:=by omega
 rw[h1,Y]
 split
 ·split
  ·rw[if_neg (by omega),List.getElem?_take,if_pos (by omega)]
  ·rw[if_pos (by omega)]
 ·rw[if_neg (by omega),List.getElem?_drop]
  congr 1;omega
theorem Mk {cs c2:List Value} {k n' off n:Nat} (h:off+n<=n') (h':k+n'<=cs.length) (Y:c2.length=n) :
  rt cs k n' (rt ((cs.drop k).take n') off n c2)=rt cs (k+off) n c2:=by
 have hl:((cs.drop k).take n').length=n':=by simp;omega
 apply List.ext_getElem?
 intro j
 rw[sY h' (by rw[nr (by omega) Y,hl]),sY (by omega) Y,sY (by omega) Y]
 by_cases h3:k<=j/\j < k+n'
 ·rw[if_pos h3]
  by_cases h4:off<=j - k/\j - k < off+n
  ·rw[if_pos h4,if_pos (by omega)];congr 1;omega
  ·rw[if_neg h4,if_neg (by omega),List.getElem?_take,if_pos (by omega),List.getElem?_drop];congr 1;omega
 ·rw[if_neg h3,if_neg (by omega)]
theorem EU {w2:World} {b o:Nat} {cs c2:List Value} {off n:Nat} (h:off+n<=cs.length) (Y:c2.length=n)
  (hc:Has w2 b (o+off) c2) (hk:∀ j u,cs[j]?=some u->¬ (off<=j/\j < off+n)->ce w2 b (o+j)=some u):Has w2 b o (rt cs off n c2):=by
 intro j u hu
 rw[sY h Y] at hu
 split at hu
 ·have:=hc _ u hu
  rw[show o+off+(j - off)=o+j by omega] at this
  exact this
 ·exact hk j u hu (by assumption)
section
variable {P:Program} {R:Type}
theorem Nc {w:World} {A:Cells} {r:R}:∀ (p:Path) (t:Ty) {m:Md} {H:List Path} {v:t.den} {cs:List Value} {F:FP} {ad:Option (Nat×Nat)} {K:(t':Ty)->Md->List Path->t'.den->Option R},
  gZ p t m H v K=some r->aj P w A t m H v cs F->(∀ b o,ad=some (b,o)->Has w b o cs) ->
  ∃ (t':Ty) (m':Md) (H':List Path) (v':t'.den) (aL:List Value) (a_:Option (Nat×Nat)) (F':FP),K t' m' H' v'=some r/\(∀ {S:Type} (K0:(t:Ty)->Md->List Path->t.den->Option S),gZ p t m H v K0=K0 t' m' H' v')/\aH w p t H cs ad=some ⟨t',H',aL,a_⟩/\aj P w A t' m' H' v' aL F' /\
   (∀ b i,F' b i<=F b i)/\(∀ b o,a_=some (b,o)->Has w b o aL)/\(ad.isSome=true->a_.isSome=true):=by
 intro p
 induction p with
 | nil=>intro t m H v cs F ad K h hr c8;exact ⟨t,m,H,v,cs,ad,F,h,fun _=>rfl,rfl,hr,fun _ _=>Nat.le_refl _,c8,fun h=>h⟩
 | cons s p ih=>
  intro t m H v cs F ad K h hr c8
  cases t with
  | pair a b=>
   obtain ⟨h0,F1,F2,hs,h1,Y⟩:=hr
   have hle:=aj.length a h1
   have BV:=aj.length b Y
   simp only[List.length_take,List.length_drop] at hle BV
   cases s with
   | fst=>
    have pv:H.any (·.isEmpty)=false:=h0
    simp only[gZ,pv] at h
    obtain ⟨t',m',H',v',aL,a_,F',k1,kn,k2,k3,k4,k5,k6⟩:=ih a h h1 (ad:=ad) (fun b o hb j u hu=>by
     rw[List.getElem?_take] at hu;split at hu;exact c8 b o hb j u hu;cases hu)
    exact ⟨t',m',H',v',aL,a_,F',k1,fun K0=>by simp only[gZ,pv];exact kn K0,by simp only[aH,h0];exact k2,k3,fun b i=>by have:=hs b i;have:=k4 b i;omega,k5,k6⟩
   | snd=>
    have pv:H.any (·.isEmpty)=false:=h0
    simp only[gZ,pv] at h
    obtain ⟨t',m',H',v',aL,a_,F',k1,kn,k2,k3,k4,k5,k6⟩:=ih b h Y (ad:=cG ad a.sz) (fun b' o hb j u hu=>by
     cases ad with
     | none=>cases hb
     | some x=>
      simp only[cG,Option.map_some,Option.some.injEq,Prod.mk.injEq] at hb
      obtain ⟨rfl,rfl⟩:=hb
      rw[List.getElem?_drop] at hu
      have:=c8 x.1 x.2 rfl _ u hu
      rwa [Nat.add_assoc])
    exact ⟨t',m',H',v',aL,a_,F',k1,fun K0=>by simp only[gZ,pv];exact kn K0,by simp only[aH,h0];exact k2,k3,fun b i=>by have:=hs b i;have:=k4 b i;omega,k5,fun h=>k6 (by cases ad <;> simp_all [cG])⟩
   | idx i=>simp[gZ] at h
   | je i=>simp[gZ] at h
  | U e=>
   cases s with
   | fst=>simp[gZ] at h
   | snd=>simp[gZ] at h
   | je i=>simp[gZ] at h
   | idx i=>
    simp only[gZ] at h
    obtain ⟨h1,Y,h3⟩:=va h
    cases hx:(v:List e.den)[i]? with
    | none=>rw[hx] at h1;cases h1
    | some x=>
     rw[hx] at h1
     simp only[Option.bind_some] at h1
     have hi:i < List.length v:=(List.getElem?_eq_some_iff.1 hx).1
     simp only[aj,h3,Bool.false_eq_true,if_false] at hr
     split at hr
     ·obtain ⟨a,cap,rfl,g2,g3,g4,g5⟩:=hr
      cases a with
      | none=>have:=g4 rfl;omega
      | some cc=>
       obtain ⟨q1,q2,q3,Fi,q4,q5⟩:=g5 cc rfl
       obtain ⟨L,hl,hL,cI⟩:=q5 i x hx
       obtain ⟨t',m',H',v',aL,a_,F',k1,kn,k2,k3,k4,k5,k6⟩:=ih e h1 cI (ad:=some (cc.block,i*e.sz)) (fun b o hb=>by
        simp only[Option.some.injEq,Prod.mk.injEq] at hb;obtain ⟨rfl,rfl⟩:=hb;exact hL)
       refine ⟨t',m',H',v',aL,a_,F',k1,fun K0=>by simp only[gZ];rw[tD h,hx];exact kn K0,?_,k3,fun b k=>?_,k5,fun _=>k6 rfl⟩
       ·simp only[aH,h3,Bool.false_eq_true,if_false,hi,if_true,q1,Nat.zero_add,bB hL hl];exact k2
       ·have:=k4 b k;have:=q4 b k;have:=bk Fi hi b k;omega
     ·obtain ⟨rfl,kP,a,cap,rfl,g2,g3,g4⟩:=hr
      cases a with
      | none=>have:=g3 rfl;omega
      | some cc=>
       obtain ⟨L,hl,hL,cI⟩:=(g4 cc rfl).2 i x hx
       have Le:Has w cc.block (cc.off+i*e.sz) L:=fun j u hu=>(hL j u hu).1
       obtain ⟨t',m',H',v',aL,a_,F',k1,kn,k2,k3,k4,k5,k6⟩:=ih e h1 (Ro.rep e (fun _ _=>0) kP cI) (ad:=some (cc.block,cc.off+i*e.sz)) (fun b o hb=>by
        simp only[Option.some.injEq,Prod.mk.injEq] at hb;obtain ⟨rfl,rfl⟩:=hb;exact Le)
       refine ⟨t',m',H',v',aL,a_,F',k1,fun K0=>by simp only[gZ];rw[tD h,hx];exact kn K0,?_,k3,fun b k=>?_,k5,fun _=>k6 rfl⟩
       ·simp only[aH,h3,Bool.false_eq_true,if_false,hi,if_true,bB Le hl];exact k2
       ·have:=k4 b k;omega
  | arr n e=>
   cases s with
   | fst=>simp[gZ] at h
   | snd=>simp[gZ] at h
   | idx i=>simp[gZ] at h
   | je i=>
    obtain ⟨rfl,hf,hl,hlen,hr⟩:=hr
    simp only[gZ,List.isEmpty_nil,if_true] at h
    cases hx:(v:List e.den)[i]? with
    | none=>rw[hx] at h;cases h
    | some x=>
     rw[hx] at h
     simp only[Option.bind_some] at h
     have hi:i < n:=hl ▸ (List.getElem?_eq_some_iff.1 hx).1
     obtain ⟨t',m',H',v',aL,a_,F',k1,kn,k2,k3,k4,k5,k6⟩:=ih e h (Ro.flat e (fun _ _=>0) hf (hr i x hx)) (ad:=cG ad (i*e.sz)) (fun b' o hb j u hu=>by
      cases ad with
      | none=>cases hb
      | some y=>
       simp only[cG,Option.map_some,Option.some.injEq,Prod.mk.injEq] at hb
       obtain ⟨rfl,rfl⟩:=hb
       rw[List.getElem?_take] at hu
       split at hu
       ·rw[List.getElem?_drop] at hu
        have:=c8 y.1 y.2 rfl _ u hu
        rwa [Nat.add_assoc]
       ·cases hu)
     exact ⟨t',m',H',v',aL,a_,F',k1,fun K0=>by simp only[gZ,List.isEmpty_nil,if_true,hx,Option.bind_some];exact kn K0,by simp only[aH,List.isEmpty_nil,if_true,hi];exact k2,k3,fun b k=>by have:=k4 b k;omega,k5,fun h=>k6 (by cases ad <;> simp_all [cG])⟩
  | _=>cases s <;> simp[gZ] at h
structure O6 (P:Program) (w:World) (A:Cells) {R:Type} (r:R) (p:Path) (t:Ty) (m:Md) (H:List Path) (v:t.den) (cs:List Value) (F:FP) (ad:Option (Nat×Nat))
  (f:(t':Ty)->Md->List Path->t'.den->(Md->List Path->t'.den->Option R)->Option R) (K:Md->List Path->t.den->Option R)
  (t':Ty) (m':Md) (H':List Path) (v':t'.den) (aL:List Value) (a_:Option (Nat×Nat)) (F' G:FP) (kk:Md->List Path->t'.den->Option R) (loc:Option Nat):Prop where
 run:f t' m' H' v' kk=some r
 HM:∀ {S:Type} (K0:(t':Ty)->Md->List Path->t'.den->Option S),gZ p t m H v K0=K0 t' m' H' v'
 place:aH w p t H cs ad=some ⟨t',H',aL,a_⟩
 rep:aj P w A t' m' H' v' aL F'
 sum:∀ b i,F' b i+G b i<=F b i
 has:∀ b o,a_=some (b,o)->Has w b o aL
 mt:∀ off,loc=some off->off+t'.sz<=t.sz/\aL=(cs.drop off).take t'.sz/\a_=cG ad off
 FY:1<=br p->loc=none
 out:loc=none->∃ b o,a_=some (b,o)/\∀ j,j < t'.sz->1<=G b (o+j)/\w.frozen? ⟨b,o+j,none⟩=false
 back:∀ m2 H2 (v2:t'.den),kk m2 H2 v2=some r->∀ (w2:World) (A2:Cells) (bn:List Value) (F2:FP),
  (∀ b n,dq w b n->dq w2 b n)->(∀ b i,A b i->A2 b i)->(∀ b i,A b i->∀ u,ce w b i=some u->ce w2 b i=some u) ->
  (∀ b i,1<=G b i->(∀ o,a_=some (b,o)->¬ (o<=i/\i < o+t'.sz))->∀ u,ce w b i=some u->ce w2 b i=some u) ->
  (∀ b o,a_=some (b,o)->Has w2 b o bn)->aj P w2 A2 t' m2 H2 v2 bn F2->(∀ b i,F2 b i+G b i<=1) ->
  ∃ m3 H3 v3 F3,K m3 H3 v3=some r/\(∀ b i,F3 b i<=F2 b i+G b i) /\
   (∀ A3:Cells,(∀ b i,A2 b i->A3 b i)->(∀ b i,1<=F2 b i+G b i->F3 b i=0->A3 b i)->aj P w2 A3 t m3 H3 v3 (fa loc cs t'.sz bn) F3) /\
   (∀ d full,kQ d full w t' H' aL a_ w2 H2 bn->kQ (d+br p) full w t H cs ad w2 H3 (fa loc cs t'.sz bn))
theorem dq.frozen {w:World} {b:Nat} {n:Nat×Bool} (h:dq w b n) {i:Nat} (hi:i < n.1):w.frozen? ⟨b,i,none⟩=false:=by
 obtain ⟨c,e,fr,h1,Y,h3,_⟩:=h
 obtain ⟨lo,fj⟩:=fr
 have:=h3 i hi
 simp only[World.frozen?,h1]
 simp only[Bool.and_eq_false_iff,decide_eq_false_iff_not]
 simp only at this
 omega
theorem Nd {w:World} {A:Cells} {r:R}:∀ (p:Path) (t:Ty) {m:Md} {H:List Path} {v:t.den} {cs:List Value} {F:FP} {ad:Option (Nat×Nat)}
  {f:(t':Ty)->Md->List Path->t'.den->(Md->List Path->t'.den->Option R)->Option R} {K:Md->List Path->t.den->Option R},
  kw p t m H v f K=some r->aj P w A t m H v cs F->(∀ b i,F b i<=1)->(∀ b o,ad=some (b,o)->Has w b o cs)->(∀ b o,ad=some (b,o)->∀ j,j < t.sz->F b (o+j)=0) ->
  ∃ t' m' H' v' aL a_ F' G kk loc,O6 P w A r p t m H v cs F ad f K t' m' H' v' aL a_ F' G kk loc:=by
 intro p
 induction p with
 | nil=>
  intro t m H v cs F ad f K h hr hF c8 tE
  have hlen:=aj.length t hr
  refine ⟨t,m,H,v,cs,ad,F,fun _ _=>0,K,some 0,h,fun _=>rfl,rfl,hr,fun _ _=>by simp,c8,?_,(fun h=>by simp[br] at h),(fun h=>by cases h),?_⟩
  ·intro off ho
   injection ho with ho;subst ho
   refine ⟨by omega,?_,?_⟩
   ·rw[List.drop_zero,<- hlen,List.take_length]
   ·cases ad <;> simp[cG]
  ·intro m2 H2 v2 hk w2 A2 bn F2 hb hA lL hG tF nL hs
   have oA:=aj.length t nL
   have Q_:fa (some 0) cs t.sz bn=bn:=by
    simp[fa,rt,List.drop_eq_nil_of_le (show cs.length<=t.sz by omega)]
   rw[Q_]
   refine ⟨m2,H2,v2,F2,hk,fun _ _=>by simp,fun A3 kb _=>aj.mono kb (fun _ _ _ _ h=>h) (fun _ _ h=>h) t nL (fun _ _=>Nat.le_refl _) (fun _ _ _ _ h=>h),fun d full hd=>hd⟩
 | cons s p ih=>
  intro t m H v cs F ad f K h hr hF c8 tE
  cases t with
  | pair a b=>
   obtain ⟨h0,F1,F2,hs,h1,Y⟩:=hr
   have hle:=aj.length a h1
   have BV:=aj.length b Y
   simp only[List.length_take,List.length_drop] at hle BV
   have pv:H.any (·.isEmpty)=false:=h0
   have O7:∀ b o,ad=some (b,o)->Has w b o (cs.take a.sz):=fun b o hb j u hu=>by
    rw[List.getElem?_take] at hu;split at hu;exact c8 b o hb j u hu;cases hu
   have O8:∀ b' o,cG ad a.sz=some (b',o)->Has w b' o (cs.drop a.sz):=fun b' o hb j u hu=>by
    cases ad with
    | none=>cases hb
    | some x=>
     simp only[cG,Option.map_some,Option.some.injEq,Prod.mk.injEq] at hb
     obtain ⟨rfl,rfl⟩:=hb
     rw[List.getElem?_drop] at hu
     have:=c8 x.1 x.2 rfl _ u hu
     rwa [Nat.add_assoc]
   cases s with
   | fst=>
    simp only[kw,pv] at h
    obtain ⟨t',m',H',v',aL,a_,F',G,kk,loc,M⟩:=ih a h h1 (fun b i=>by have:=hs b i;have:=hF b i;omega) O7 (fun b' o hb j hj=>by
     have:=tE b' o hb j (by simp only[Ty.sz];omega);have:=hs b' (o+j);omega)
    refine ⟨t',m',H',v',aL,a_,F',fun b i=>G b i+F2 b i,kk,loc,M.run,fun K0=>by simp only[gZ,pv];exact M.HM K0,by simp only[aH,h0];exact M.place,M.rep,fun b i=>by have:=hs b i;have:=M.sum b i;omega,M.has,?_,(fun h=>M.FY (by simpa [br] using h)),?_,?_⟩
    ·intro off ho
     obtain ⟨q1,q2,q3⟩:=M.mt off ho
     refine ⟨by simp only[Ty.sz];omega,?_,q3⟩
     rw[q2,List.drop_take,List.take_take]
     congr 1;omega
    ·intro ho
     obtain ⟨b',o,q1,q2⟩:=M.out ho
     exact ⟨b',o,q1,fun j hj=>⟨by have:=(q2 j hj).1;omega,(q2 j hj).2⟩⟩
    ·intro m2 H2 v2 hk w2 A2 bn z_ hb hA lL hG tF nL fM
     obtain ⟨m3,H3,v3,F3,k1,k2,k3,k4⟩:=M.back m2 H2 v2 hk w2 A2 bn z_ hb hA lL (fun b' i hp hn=>hG b' i (by omega) hn) tF nL (fun b' i=>by have:=fM b' i;omega)
     have oA:=aj.length t' nL
     have lS:fa loc cs t'.sz bn=fa loc (cs.take a.sz) t'.sz bn++cs.drop a.sz:=by
      cases loc with
      | none=>simp[fa]
      | some off=>
       have:=(M.mt off rfl).1
       simp only[fa,rt]
       rw[List.take_take,show min off a.sz=off by omega,List.append_assoc,List.append_assoc,List.append_assoc]
       congr 2
       rw[List.drop_take]
       have e:cs.drop a.sz=(cs.drop (off+t'.sz)).drop (a.sz - (off+t'.sz)):=by rw[List.drop_drop];congr 1;omega
       rw[e,List.take_append_drop]
     have oB:(fa loc (cs.take a.sz) t'.sz bn).length=a.sz:=by
      cases loc with
      | none=>simp[fa];omega
      | some off=>have:=(M.mt off rfl).1;simp only[fa];rw[nr (by simp;omega) oA];simp;omega
     have oT:∀ d full,kQ d full w t' H' aL a_ w2 H2 bn->full->fa loc cs t'.sz bn=cs:=fun d full hd oU=>by
      obtain ⟨H5,c5,e1,e2⟩:=hd [] ⟨t',H',aL,a_⟩ (Nat.zero_le _) rfl
      simp only[aH,Option.some.injEq,Pl.mk.injEq] at e1
      have e3:bn=aL:=e1.2.2.1.trans (e2 (.inr oU))
      cases loc with
      | none=>rfl
      | some off=>
       have:=M.mt off rfl
       rw[e3,this.2.1,List.drop_take,List.take_take,show min t'.sz (a.sz - off)=t'.sz by omega]
       exact ru (by omega)
     have gH:(fa loc cs t'.sz bn).take a.sz=fa loc (cs.take a.sz) t'.sz bn:=by rw[lS];exact List.take_left' oB
     have uJ:(fa loc cs t'.sz bn).drop a.sz=cs.drop a.sz:=by rw[lS];exact List.drop_left' oB
     have Aa:∀ b' i,1<=F2 b' i->∀ u,ce w b' i=some u->ce w2 b' i=some u:=fun b' i hp u hu=>by
      refine hG b' i (by omega) (fun o fL rx=>?_) u hu
      have R7:=hs b' i;have R8:=hF b' i
      cases loc with
      | none=>
       obtain ⟨b0,o0,q1,q2⟩:=M.out rfl
       rw[q1] at fL
       simp only[Option.some.injEq,Prod.mk.injEq] at fL
       obtain ⟨rfl,rfl⟩:=fL
       have:=(q2 (i - o0) (by omega)).1
       rw[show o0+(i - o0)=i by omega] at this
       have:=M.sum b0 i
       omega
      | some off=>
       obtain ⟨q1,q2,q3⟩:=M.mt off rfl
       cases ad with
       | none=>rw[q3] at fL;cases fL
       | some x=>
        rw[q3] at fL
        simp only[cG,Option.map_some,Option.some.injEq,Prod.mk.injEq] at fL
        obtain ⟨rfl,rfl⟩:=fL
        have:=tE x.1 x.2 rfl (i - x.2) (by simp only[Ty.sz];omega)
        rw[show x.2+(i - x.2)=i by omega] at this
        omega
     refine ⟨_,_,_,fun b' i=>F3 b' i+F2 b' i,k1,fun b' i=>by have:=k2 b' i;show F3 b' i+F2 b' i<=_;omega,fun A3 kb gX=>?_,fun d full hd=>?_⟩
     ·refine ⟨by rw[ly,jN,jN];rfl,F3,F2,fun _ _=>Nat.le_refl _,?_,?_⟩
      ·rw[gH,List.filterMap_append,mq,mR,List.append_nil]
       refine k3 A3 kb fun b' i hp hz=>gX b' i (by omega) ?_
       have:=fM b' i
       show F3 b' i+F2 b' i=0;omega
      ·rw[uJ,List.filterMap_append,mS,mr,List.nil_append]
       exact aj.mono (fun b' i ha=>kb b' i (hA b' i ha)) lL hb b Y (fun _ _=>Nat.le_refl _) Aa
     ·intro q pl hq hp
      cases q with
      | nil=>
       simp only[aH,Option.some.injEq] at hp;subst hp
       refine ⟨_,_,rfl,fun h=>?_⟩
       rcases h with ⟨_,hs⟩ | oU
       ·simp[nV] at hs
       ·exact oT d full hd oU
      | cons s q=>
       cases s with
       | fst=>
        simp only[aH,h0,Bool.false_eq_true,if_false] at hp
        obtain ⟨H4,Lf,e1,e2⟩:=k4 d full hd q pl (by simpa [br] using hq) hp
        refine ⟨H4,Lf,?_,fun lM=>e2 (by simpa [br] using lM)⟩
        simp only[aH,ly,jN,Bool.or_self,Bool.false_eq_true,if_false]
        rw[gH,List.filterMap_append,mq,mR,List.append_nil]
        exact e1
       | snd=>
        simp only[aH,h0,Bool.false_eq_true,if_false] at hp
        refine ⟨pl.H,pl.cs,?_,fun _=>rfl⟩
        simp only[aH,ly,jN,Bool.or_self,Bool.false_eq_true,if_false]
        rw[uJ,List.filterMap_append,mS,mr,List.nil_append]
        exact oz lL q b Y Aa hp
       | idx i=>simp[aH] at hp
       | je i=>simp[aH] at hp
   | snd=>
    simp only[kw,pv] at h
    obtain ⟨t',m',H',v',aL,a_,F',G,kk,loc,M⟩:=ih b h Y (fun b i=>by have:=hs b i;have:=hF b i;omega) O8 (fun b' o hb j hj=>by
     cases ad with
     | none=>cases hb
     | some x=>
      simp only[cG,Option.map_some,Option.some.injEq,Prod.mk.injEq] at hb
      obtain ⟨rfl,rfl⟩:=hb
      have:=tE x.1 x.2 rfl (a.sz+j) (by simp only[Ty.sz];omega);have:=hs x.1 (x.2+(a.sz+j))
      rw[Nat.add_assoc];omega)
    refine ⟨t',m',H',v',aL,a_,F',fun b i=>G b i+F1 b i,kk,loc.map (a.sz+·),M.run,fun K0=>by simp only[gZ,pv];exact M.HM K0,by simp only[aH,h0];exact M.place,M.rep,fun b i=>by have:=hs b i;have:=M.sum b i;omega,M.has,?_,(fun h=>by rw[M.FY (by simpa [br] using h)];rfl),?_,?_⟩
    ·intro Nf ho
     obtain ⟨off,Ng,rfl⟩:=Option.map_eq_some_iff.1 ho
     obtain ⟨q1,q2,q3⟩:=M.mt off Ng
     refine ⟨by simp only[Ty.sz];omega,by rw[q2,List.drop_drop],?_⟩
     rw[q3];cases ad <;> simp[cG,Nat.add_assoc]
    ·intro ho
     obtain ⟨b',o,q1,q2⟩:=M.out (by simpa using ho)
     exact ⟨b',o,q1,fun j hj=>⟨by have:=(q2 j hj).1;omega,(q2 j hj).2⟩⟩
    ·intro m2 H2 v2 hk w2 A2 bn z_ hb hA lL hG tF nL fM
     obtain ⟨m3,H3,v3,F3,k1,k2,k3,k4⟩:=M.back m2 H2 v2 hk w2 A2 bn z_ hb hA lL (fun b' i hp hn=>hG b' i (by omega) hn) tF nL (fun b' i=>by have:=fM b' i;omega)
     have oA:=aj.length t' nL
     have lS:fa (loc.map (a.sz+·)) cs t'.sz bn=cs.take a.sz++fa loc (cs.drop a.sz) t'.sz bn:=by
      cases loc with
      | none=>simp[fa]
      | some off=>
       have:=(M.mt off rfl).1
       simp only[fa,rt,Option.map_some]
       rw[List.take_add,List.drop_drop,List.append_assoc,List.append_assoc,List.append_assoc,Nat.add_assoc]
     have oB:(cs.take a.sz).length=a.sz:=by simp;omega
     have oT:∀ d full,kQ d full w t' H' aL a_ w2 H2 bn->full->fa (loc.map (a.sz+·)) cs t'.sz bn=cs:=fun d full hd oU=>by
      obtain ⟨H5,c5,e1,e2⟩:=hd [] ⟨t',H',aL,a_⟩ (Nat.zero_le _) rfl
      simp only[aH,Option.some.injEq,Pl.mk.injEq] at e1
      have e3:bn=aL:=e1.2.2.1.trans (e2 (.inr oU))
      cases loc with
      | none=>rfl
      | some off=>
       have:=M.mt off rfl
       rw[e3,this.2.1,List.drop_drop]
       exact ru (show a.sz+off+t'.sz<=cs.length by omega)
     have gH:(fa (loc.map (a.sz+·)) cs t'.sz bn).take a.sz=cs.take a.sz:=by rw[lS];exact List.take_left' oB
     have uJ:(fa (loc.map (a.sz+·)) cs t'.sz bn).drop a.sz=fa loc (cs.drop a.sz) t'.sz bn:=by rw[lS];exact List.drop_left' oB
     have Aa:∀ b' i,1<=F1 b' i->∀ u,ce w b' i=some u->ce w2 b' i=some u:=fun b' i hp u hu=>by
      refine hG b' i (by omega) (fun o fL rx=>?_) u hu
      have R7:=hs b' i;have R8:=hF b' i
      cases loc with
      | none=>
       obtain ⟨b0,o0,q1,q2⟩:=M.out rfl
       rw[q1] at fL
       simp only[Option.some.injEq,Prod.mk.injEq] at fL
       obtain ⟨rfl,rfl⟩:=fL
       have:=(q2 (i - o0) (by omega)).1
       rw[show o0+(i - o0)=i by omega] at this
       have:=M.sum b0 i
       omega
      | some off=>
       obtain ⟨q1,q2,q3⟩:=M.mt off rfl
       cases ad with
       | none=>rw[q3] at fL;cases fL
       | some x=>
        rw[q3] at fL
        simp only[cG,Option.map_some,Option.some.injEq,Prod.mk.injEq] at fL
        obtain ⟨rfl,rfl⟩:=fL
        have:=tE x.1 x.2 rfl (i - x.2) (by simp only[Ty.sz];omega)
        rw[show x.2+(i - x.2)=i by omega] at this
        omega
     refine ⟨_,_,_,fun b' i=>F3 b' i+F1 b' i,k1,fun b' i=>by have:=k2 b' i;show F3 b' i+F1 b' i<=_;omega,fun A3 kb gX=>?_,fun d full hd=>?_⟩
     ·refine ⟨by rw[ly,jN,jN];rfl,F1,F3,fun b' i=>by show F1 b' i+F3 b' i<=F3 b' i+F1 b' i;omega,?_,?_⟩
      ·rw[gH,List.filterMap_append,mq,mR,List.append_nil]
       exact aj.mono (fun b' i ha=>kb b' i (hA b' i ha)) lL hb a h1 (fun _ _=>Nat.le_refl _) Aa
      ·rw[uJ,List.filterMap_append,mS,mr,List.nil_append]
       refine k3 A3 kb fun b' i hp hz=>gX b' i (by omega) ?_
       have:=fM b' i
       show F3 b' i+F1 b' i=0;omega
     ·intro q pl hq hp
      cases q with
      | nil=>
       simp only[aH,Option.some.injEq] at hp;subst hp
       refine ⟨_,_,rfl,fun h=>?_⟩
       rcases h with ⟨_,hs⟩ | oU
       ·simp[nV] at hs
       ·exact oT d full hd oU
      | cons s q=>
       cases s with
       | snd=>
        simp only[aH,h0,Bool.false_eq_true,if_false] at hp
        obtain ⟨H4,Lf,e1,e2⟩:=k4 d full hd q pl (by simpa [br] using hq) hp
        refine ⟨H4,Lf,?_,fun lM=>e2 (by simpa [br] using lM)⟩
        simp only[aH,ly,jN,Bool.or_self,Bool.false_eq_true,if_false]
        rw[uJ,List.filterMap_append,mS,mr,List.nil_append]
        exact e1
       | fst=>
        simp only[aH,h0,Bool.false_eq_true,if_false] at hp
        refine ⟨pl.H,pl.cs,?_,fun _=>rfl⟩
        simp only[aH,ly,jN,Bool.or_self,Bool.false_eq_true,if_false]
        rw[gH,List.filterMap_append,mq,mR,List.append_nil]
        exact oz lL q a h1 Aa hp
       | idx i=>simp[aH] at hp
       | je i=>simp[aH] at hp
   | idx i=>simp[kw] at h
   | je i=>simp[kw] at h
  | U e=>
   cases s with
   | fst=>simp[kw] at h
   | snd=>simp[kw] at h
   | je i=>simp[kw] at h
   | idx i=>
    simp only[kw] at h
    split at h
    ·rename_i dm
     obtain ⟨h1,Y,h3⟩:=va h
     cases hx:(v:List e.den)[i]? with
     | none=>rw[hx] at h1;cases h1
     | some x=>
      rw[hx] at h1
      simp only[Option.bind_some] at h1
      have hi:i < List.length v:=(List.getElem?_eq_some_iff.1 hx).1
      simp only[aj,h3,Bool.false_eq_true,if_false,dm,if_true] at hr
      obtain ⟨a,cap,rfl,g2,g3,g4,g5⟩:=hr
      cases a with
      | none=>have:=g4 rfl;omega
      | some cc=>
       obtain ⟨q1,q2,q3,Fi,q4,q5⟩:=g5 cc rfl
       obtain ⟨L,hl,hL,cI⟩:=q5 i x hx
       have ai:∀ k,k < List.length v->∀ j,j < e.sz->k*e.sz+j < cap*e.sz:=fun k hk j hj=>by
        have ai:(k+1)*e.sz<=cap*e.sz:=Nat.mul_le_mul_right _ (by omega)
        rw[Nat.add_mul] at ai;omega
       have BW:∀ k,k < cap*e.sz->bq cc.block 0 (cap*e.sz) cc.block k=1:=fun k hk=>by simp[bq,hk]
       obtain ⟨t',m',H',v',aL,a_,F',G,kk,loc,M⟩:=ih e h1 cI (fun b k=>by have:=q4 b k;have:=hF b k;have:=bk Fi hi b k;omega)
        (ad:=some (cc.block,i*e.sz)) (fun b o hb=>by simp only[Option.some.injEq,Prod.mk.injEq] at hb;obtain ⟨rfl,rfl⟩:=hb;exact hL)
        (fun b o hb j hj=>by
         simp only[Option.some.injEq,Prod.mk.injEq] at hb;obtain ⟨rfl,rfl⟩:=hb
         have:=q4 cc.block (i*e.sz+j);have:=hF cc.block (i*e.sz+j);have:=bk Fi hi cc.block (i*e.sz+j)
         have:=BW _ (ai i hi j hj);omega)
       have vb:∀ b k,ay (List.length v) (ca Fi i G) b k+Fi i b k=ay (List.length v) Fi b k+G b k:=lZ Fi hi G
       have sH:∀ b k,G b k<=ay (List.length v) (ca Fi i G) b k:=fun b k=>by
        have:=bk (ca Fi i G) hi b k;simpa [ca] using this
       refine ⟨t',m',H',v',aL,a_,F',fun b k=>bq cc.block 0 (cap*e.sz) b k+ay (List.length v) (ca Fi i G) b k,kk,none,M.run,fun K0=>by simp only[gZ];rw[tD h,hx];exact M.HM K0,?_,M.rep,fun b k=>by have:=vb b k;have:=M.sum b k;have:=q4 b k;omega,M.has,(fun off ho=>by cases ho),(fun _=>rfl),?_,?_⟩
       ·simp only[aH,h3,Bool.false_eq_true,if_false,hi,if_true,q1,Nat.zero_add,bB hL hl];exact M.place
       ·intro _
        cases loc with
        | none=>
         obtain ⟨b',o,e1,e2⟩:=M.out rfl
         exact ⟨b',o,e1,fun j hj=>⟨by have:=(e2 j hj).1;have:=sH b' (o+j);omega,(e2 j hj).2⟩⟩
        | some off=>
         obtain ⟨e1,e2,e3⟩:=M.mt off rfl
         refine ⟨cc.block,i*e.sz+off,e3,fun j hj=>?_⟩
         have oC:=ai i hi (off+j) (by omega)
         rw[<-Nat.add_assoc] at oC
         exact ⟨by have:=BW _ oC;omega,q3.frozen oC⟩
       ·intro m2 H2 v2 hk w2 A2 bn z_ hb hA lL hG tF nL fM
        obtain ⟨m3,H3,v3,F3,k1,k2,k3,k4⟩:=M.back m2 H2 v2 hk w2 A2 bn z_ hb hA lL (fun b' i hp hn=>hG b' i (by have:=sH b' i;omega) hn) tF nL
         (fun b' i=>by have:=fM b' i;have:=sH b' i;omega)
        have oA:=aj.length t' nL
        have apart:∀ b' k,(∀ o,a_=some (b',o)->o<=k/\k < o+t'.sz->1<=Fi i b' k\/(b'=cc.block/\i*e.sz<=k/\k < i*e.sz+e.sz)):=fun b' k o fL rx=>by
         cases loc with
         | none=>
          obtain ⟨b0,o0,e1,e2⟩:=M.out rfl
          rw[e1] at fL
          simp only[Option.some.injEq,Prod.mk.injEq] at fL
          obtain ⟨rfl,rfl⟩:=fL
          have:=(e2 (k - o0) (by omega)).1
          rw[show o0+(k - o0)=k by omega] at this
          have:=M.sum b0 k
          left;omega
         | some off=>
          obtain ⟨e1,e2,e3⟩:=M.mt off rfl
          rw[e3] at fL
          simp only[cG,Option.map_some,Option.some.injEq,Prod.mk.injEq] at fL
          obtain ⟨rfl,rfl⟩:=fL
          exact .inr ⟨rfl,by omega,by omega⟩
        have Aa:∀ j,j < List.length v->j≠i->∀ b' k,1<=Fi j b' k->∀ u,ce w b' k=some u->ce w2 b' k=some u:=fun j hj ge b' k hp u hu=>by
         have h1:=bk (ca Fi i G) hj b' k
         have e1:ca Fi i G j=Fi j:=by simp[ca,ge]
         rw[e1] at h1
         refine hG b' k (by omega) (fun o fL rx=>?_) u hu
         have Y:=q4 b' k;have h3:=hF b' k;have h4:=mQ Fi hj hi ge b' k
         rcases apart b' k o fL rx with h | ⟨rfl,Nh,Ni⟩
         ·omega
         ·have:=BW (i*e.sz+(k - i*e.sz)) (ai i hi _ (by omega))
          rw[show i*e.sz+(k - i*e.sz)=k by omega] at this
          omega
        have cell:∀ j,j < List.length v->j≠i->∀ k,k < e.sz->∀ u,ce w cc.block (j*e.sz+k)=some u->ce w2 cc.block (j*e.sz+k)=some u:=fun j hj ge k hk u hu=>by
         have mT:=BW _ (ai j hj k hk)
         refine hG _ _ (by omega) (fun o fL rx=>?_) u hu
         have Y:=q4 cc.block (j*e.sz+k);have h3:=hF cc.block (j*e.sz+k)
         rcases apart _ _ o fL rx with h | ⟨_,Nh,Ni⟩
         ·have:=bk Fi hi cc.block (j*e.sz+k);omega
         ·have eG:j < i\/i < j:=by omega
          rcases eG with oc | oc
          ·have:(j+1)*e.sz<=i*e.sz:=Nat.mul_le_mul_right _ oc
           rw[Nat.add_mul] at this;omega
          ·have:(i+1)*e.sz<=j*e.sz:=Nat.mul_le_mul_right _ oc
           rw[Nat.add_mul] at this;omega
        have Nj:Has w2 cc.block (i*e.sz) (fa loc L t'.sz bn):=by
         have qj:∀ j u,L[j]?=some u->(∀ off,loc=some off->¬ (off<=j/\j < off+t'.sz))->ce w2 cc.block (i*e.sz+j)=some u:=fun j u hu hn=>by
          have hj:j < e.sz:=hl ▸ (List.getElem?_eq_some_iff.1 hu).1
          have mT:=BW _ (ai i hi j hj)
          refine hG _ _ (by omega) (fun o fL rx=>?_) u (hL j u hu)
          cases loc with
          | none=>
           obtain ⟨b0,o0,e1,e2⟩:=M.out rfl
           rw[e1] at fL
           simp only[Option.some.injEq,Prod.mk.injEq] at fL
           obtain ⟨rfl,rfl⟩:=fL
           have:=(e2 (i*e.sz+j - o0) (by omega)).1
           rw[show o0+(i*e.sz+j - o0)=i*e.sz+j by omega] at this
           have Y:=q4 cc.block (i*e.sz+j);have h3:=hF cc.block (i*e.sz+j);have:=sH cc.block (i*e.sz+j);have:=vb cc.block (i*e.sz+j);have:=M.sum cc.block (i*e.sz+j)
           have:=bk Fi hi cc.block (i*e.sz+j)
           omega
          | some off=>
           obtain ⟨e1,e2,e3⟩:=M.mt off rfl
           rw[e3] at fL
           simp only[cG,Option.map_some,Option.some.injEq,Prod.mk.injEq] at fL
           obtain ⟨_,rfl⟩:=fL
           exact hn off rfl (by omega)
         cases loc with
         | none=>exact fun j u hu=>qj j u hu (fun off ho=>by cases ho)
         | some off=>
          obtain ⟨e1,e2,e3⟩:=M.mt off rfl
          exact EU (by omega) oA (tF _ _ e3) (fun j u hu hn=>qj j u hu (fun Nf ho=>by injection ho with ho;subst ho;exact hn))
        have HN:(fa loc L t'.sz bn).length=e.sz:=by
         cases loc with
         | none=>exact hl
         | some off=>have:=(M.mt off rfl).1;simp only[fa];rw[nr (by omega) oA,hl]
        have vd:∀ (j:Nat) (y:e.den),(List.set v i v3)[j]?=some y->(j=i/\y=v3)\/(j≠i/\(v:List e.den)[j]?=some y):=fun j y hy=>by
         rw[List.getElem?_set] at hy
         split at hy
         ·rename_i jf
          subst jf
          injection hy with hy
          exact .inl ⟨rfl,hy.symm⟩
         ·rename_i jf;exact .inr ⟨fun h=>jf h.symm,hy⟩
        have others:∀ A3:Cells,(∀ b i,A2 b i->A3 b i)->∀ (j:Nat) (y:e.den),j≠i->(v:List e.den)[j]?=some y->∃ L:List Value,L.length=e.sz/\Has w2 cc.block (j*e.sz) L/\Has w cc.block (j*e.sz) L/\aj P w A e m.e [] y L (Fi j)/\aj P w2 A3 e m.e [] y L (Fi j):=fun A3 kb j y ge hy=>by
         have hj:j < List.length v:=(List.getElem?_eq_some_iff.1 hy).1
         obtain ⟨Lj,xP,Lg,HO⟩:=q5 j y hy
         rw[Y j ge] at HO
         exact ⟨Lj,xP,fun k u hu=>cell j hj ge k (xP ▸ (List.getElem?_eq_some_iff.1 hu).1) u (Lg k u hu),Lg,HO,aj.mono (fun b' i ha=>kb b' i (hA b' i ha)) lL hb e HO (fun _ _=>Nat.le_refl _) (Aa j hj ge)⟩
        have Nk:∀ H4:List Path,hole H4=false->H4.filterMap (gm i)=H3->(∀ j,j≠i->H4.filterMap (gm j)=[])->∀ d full,kQ d full w t' H' aL a_ w2 H2 bn->kQ (d+br (.idx i::p)) full w (.U e) H [.slice (some cc) (List.length v) cap] ad w2 H4 [.slice (some cc) (List.length v) cap]:=by
         intro H4 P4 R9 R_ d full hd q pl hq hp
         cases q with
         | nil=>
          simp only[aH,Option.some.injEq] at hp;subst hp
          exact ⟨_,_,rfl,fun _=>rfl⟩
         | cons s q=>
          cases s with
          | fst=>simp[aH] at hp
          | snd=>simp[aH] at hp
          | je j=>simp[aH] at hp
          | idx j=>
           simp only[aH,h3,Bool.false_eq_true,if_false] at hp
           split at hp
           ·rename_i hj
            by_cases ge:j=i
            ·subst ge
             rw[q1,Nat.zero_add,bB hL hl] at hp
             obtain ⟨H5,Nl,e1,e2⟩:=k4 d full hd q pl (by simp only[br] at hq;omega) hp
             refine ⟨H5,Nl,?_,fun lM=>e2 (lM.imp (fun h=>⟨by have:=h.1;simp only[br] at this;omega,h.2⟩) id)⟩
             simp only[aH,P4,Bool.false_eq_true,if_false,hj,if_true,q1,Nat.zero_add,bB Nj HN,R9]
             exact e1
            ·obtain ⟨Lj,xP,BX,Lg,HO,_⟩:=others A2 (fun _ _ h=>h) j _ ge (List.getElem?_eq_getElem hj)
             rw[q1,Nat.zero_add,bB Lg xP,Y j ge] at hp
             refine ⟨pl.H,pl.cs,?_,fun _=>rfl⟩
             simp only[aH,P4,Bool.false_eq_true,if_false,hj,if_true,q1,Nat.zero_add,bB BX xP,R_ j ge]
             exact oz lL q e HO (Aa j hj ge) hp
           ·cases hp
        simp only[fa]
        by_cases uK:m3=m.e
        ·rw[if_pos uK] at k1
         subst uK
         refine ⟨_,_,_,fun b' k=>bq cc.block 0 (cap*e.sz) b' k+ay (List.length v) (ca Fi i F3) b' k,k1,fun b' k=>?_,fun A3 kb gX=>?_,Nk _ (jN _ _) (uI _ _) (fun j hj=>rr hj _)⟩
         ·have:=lZ Fi hi F3 b' k;have:=vb b' k;have:=k2 b' k
          show bq cc.block 0 (cap*e.sz) b' k+ay (List.length v) (ca Fi i F3) b' k<=_
          omega
         ·simp only[aj,jN,Bool.false_eq_true,if_false,Md.own,if_true]
          refine ⟨some cc,cap,by simp,by simpa using g2,g3,(fun hn=>by cases hn),fun sf w9=>?_⟩
          injection w9 with w9;subst w9
          refine ⟨q1,q2,hb _ _ q3,ca Fi i F3,fun b' k=>by simp,fun j y hy=>?_⟩
          rcases vd j y hy with ⟨rfl,rfl⟩ | ⟨ge,ve⟩
          ·refine ⟨_,HN,Nj,?_⟩
           rw[uI]
           simp only[Md.e,ca,if_true]
           refine k3 A3 kb fun b' k hp hz=>gX b' k ?_ ?_
           ·have:=sH b' k;omega
           ·have h5:=fM b' k;have h6:=lZ Fi hi F3 b' k;have h7:=vb b' k;have:=sH b' k
            have h8:=q4 b' k;have h9:=M.sum b' k
            have:=k2 b' k
            show bq cc.block 0 (cap*e.sz) b' k+ay (List.length v) (ca Fi j F3) b' k=0
            omega
          ·obtain ⟨Lj,xP,BX,_,_,JI⟩:=others A3 kb j y ge ve
           refine ⟨Lj,xP,BX,?_⟩
           rw[rr ge]
           simp only[ca,if_neg ge]
           exact JI
        ·rw[if_neg uK] at k1
         split at k1
         ·rename_i Ab
          have Ab:H3=[]:=List.isEmpty_iff.1 Ab
          refine ⟨_,_,_,fun b' k=>bq cc.block 0 (cap*e.sz) b' k,k1,fun b' k=>by show bq cc.block 0 (cap*e.sz) b' k<=_;omega,fun A3 kb gX=>?_,Nk _ rfl (by rw[Ab];rfl) (fun j hj=>rfl)⟩
          simp only[aj,hole,List.any_nil,Bool.false_eq_true,if_false,Md.own,if_true]
          refine ⟨some cc,cap,by simp,by simpa using g2,g3,(fun hn=>by cases hn),fun sf w9=>?_⟩
          injection w9 with w9;subst w9
          refine ⟨q1,q2,hb _ _ q3,fun _ _ _=>0,fun b' k=>by rw[gK];simp,fun j y hy=>?_⟩
          have fz:∀ b' k,1<=z_ b' k+(bq cc.block 0 (cap*e.sz) b' k+ay (List.length v) (ca Fi i G) b' k)->bq cc.block 0 (cap*e.sz) b' k=0->A3 b' k:=gX
          rcases vd j y hy with ⟨rfl,rfl⟩ | ⟨ge,ve⟩
          ·refine ⟨_,HN,Nj,?_⟩
           have Lh:=k3 A3 kb fun b' k hp hz=>fz b' k (by have:=sH b' k;omega) (by
            have h5:=fM b' k;have:=sH b' k;omega)
           rw[Ab] at Lh
           refine Ro.rep e _ (cZ e) (aj.oS (fun _ _ h=>h) e Lh fun b' k hp=>fz b' k ?_ ?_)
           ·have:=k2 b' k;have:=sH b' k;omega
           ·have h5:=fM b' k;have:=sH b' k;have:=k2 b' k;omega
          ·obtain ⟨Lj,xP,BX,_,_,JI⟩:=others A3 kb j y ge ve
           have hj:j < List.length v:=(List.getElem?_eq_some_iff.1 ve).1
           refine ⟨Lj,xP,BX,Ro.rep e _ (cZ e) (aj.oS (fun _ _ h=>h) e JI fun b' k hp=>?_)⟩
           have h1:=bk (ca Fi i G) hj b' k
           have e1:ca Fi i G j=Fi j:=by simp[ca,ge]
           rw[e1] at h1
           have h5:=fM b' k
           exact fz b' k (by omega) (by omega)
         ·cases k1
    ·cases h
  | arr n e=>
   cases s with
   | fst=>simp[kw] at h
   | snd=>simp[kw] at h
   | idx i=>simp[kw] at h
   | je i=>
    obtain ⟨rfl,hf,hl,hlen,hr⟩:=hr
    simp only[kw,List.isEmpty_nil,if_true] at h
    cases hx:(v:List e.den)[i]? with
    | none=>rw[hx] at h;cases h
    | some x=>
     rw[hx] at h
     simp only[Option.bind_some] at h
     have hi:i < n:=hl ▸ (List.getElem?_eq_some_iff.1 hx).1
     have dY:∀ j,j < n->j*e.sz+e.sz<=cs.length:=fun j hj=>by
      have:(j+1)*e.sz<=n*e.sz:=Nat.mul_le_mul_right _ hj
      rw[Nat.add_mul] at this;omega
     have ig:∀ j,j < n->((cs.drop (j*e.sz)).take e.sz).length=e.sz:=fun j hj=>by have:=dY j hj;simp;omega
     obtain ⟨t',m',H',v',aL,a_,F',G,kk,loc,M⟩:=ih e h (Ro.flat e (fun _ _=>0) hf (hr i x hx)) (fun _ _=>Nat.zero_le _) (ad:=cG ad (i*e.sz)) (fun b' o hb j u hu=>by
      cases ad with
      | none=>cases hb
      | some y=>
       simp only[cG,Option.map_some,Option.some.injEq,Prod.mk.injEq] at hb
       obtain ⟨rfl,rfl⟩:=hb
       rw[List.getElem?_take] at hu
       split at hu
       ·rw[List.getElem?_drop] at hu
        have:=c8 y.1 y.2 rfl _ u hu
        rwa [Nat.add_assoc]
       ·cases hu) (fun _ _ _ _ _=>rfl)
     have EV:∀ b k,G b k=0:=fun b k=>by have:=M.sum b k;omega
     have uL:∀ b k,F' b k=0:=fun b k=>by have:=M.sum b k;omega
     have FZ:∀ h:loc=none,t'.sz=0:=fun h=>by
      obtain ⟨b',o,e1,e2⟩:=M.out h
      rcases Nat.eq_zero_or_pos t'.sz with h0 | h0
      ·exact h0
      ·have:=(e2 0 h0).1;rw[EV] at this;omega
     refine ⟨t',m',H',v',aL,a_,F',F,kk,loc.map (i*e.sz+·),M.run,fun K0=>by simp only[gZ,List.isEmpty_nil,if_true,hx,Option.bind_some];exact M.HM K0,by simp only[aH,List.isEmpty_nil,if_true,hi];exact M.place,M.rep,fun b k=>by rw[uL];omega,M.has,?_,(fun h=>by rw[M.FY (by simpa [br] using h)];rfl),?_,?_⟩
     ·intro Nf ho
      obtain ⟨off,Ng,rfl⟩:=Option.map_eq_some_iff.1 ho
      obtain ⟨q1,q2,q3⟩:=M.mt off Ng
      have:=dY i hi
      refine ⟨by simp only[Ty.sz];omega,?_,by rw[q3];cases ad <;> simp[cG,Nat.add_assoc]⟩
      rw[q2,List.drop_take,List.take_take,List.drop_drop]
      congr 1;omega
     ·intro ho
      obtain ⟨b',o,q1,q2⟩:=M.out (by simpa using ho)
      have:=FZ (by simpa using ho)
      exact ⟨b',o,q1,fun j hj=>by omega⟩
     ·intro m2 H2 v2 hk w2 A2 bn z_ hb hA lL hG tF nL fM
      obtain ⟨m3,H3,v3,F3,k1,k2,k3,k4⟩:=M.back m2 H2 v2 hk w2 A2 bn z_ hb hA lL (fun b' i hp hn=>by rw[EV] at hp;omega) tF nL (fun b' i=>by have:=fM b' i;rw[EV];omega)
      have oA:=aj.length t' nL
      split at k1
      ·rename_i Ab
       have Ab:H3=[]:=List.isEmpty_iff.1 Ab
       have lS:fa (loc.map (i*e.sz+·)) cs t'.sz bn=rt cs (i*e.sz) e.sz (fa loc ((cs.drop (i*e.sz)).take e.sz) t'.sz bn):=by
        cases loc with
        | none=>simp only[fa,Option.map_none];exact (ru (dY i hi)).symm
        | some off=>
         have:=(M.mt off rfl).1
         exact (Mk this (dY i hi) oA).symm
       have oB:(fa loc ((cs.drop (i*e.sz)).take e.sz) t'.sz bn).length=e.sz:=by
        cases loc with
        | none=>exact ig i hi
        | some off=>have:=(M.mt off rfl).1;simp only[fa];rw[nr (by rw[ig i hi];omega) oA,ig i hi]
       have F5:∀ j,j < n->((fa (loc.map (i*e.sz+·)) cs t'.sz bn).drop (j*e.sz)).take e.sz=if j=i then fa loc ((cs.drop (i*e.sz)).take e.sz) t'.sz bn else (cs.drop (j*e.sz)).take e.sz:=fun j hj=>by
        rw[lS]
        apply List.ext_getElem?
        intro k
        rw[List.getElem?_take]
        split
        ·rename_i hk
         rw[List.getElem?_drop,sY (dY i hi) oB]
         by_cases ge:j=i
         ·subst ge
          rw[if_pos (by omega),if_pos rfl];congr 1;omega
         ·rw[if_neg ge,List.getElem?_take,if_pos hk,List.getElem?_drop,if_neg]
          have eG:j < i\/i < j:=by omega
          rcases eG with oc | oc
          ·have:(j+1)*e.sz<=i*e.sz:=Nat.mul_le_mul_right _ oc
           rw[Nat.add_mul] at this;omega
          ·have:(i+1)*e.sz<=j*e.sz:=Nat.mul_le_mul_right _ oc
           rw[Nat.add_mul] at this;omega
        ·rename_i hk
         by_cases ge:j=i
         ·rw[if_pos ge,List.getElem?_eq_none (by omega)]
         ·rw[if_neg ge,List.getElem?_eq_none (by rw[ig j hj];omega)]
       have oT:∀ d full,kQ d full w t' H' aL a_ w2 H2 bn->full->fa (loc.map (i*e.sz+·)) cs t'.sz bn=cs:=fun d full hd oU=>by
        obtain ⟨H5,c5,e1,e2⟩:=hd [] ⟨t',H',aL,a_⟩ (Nat.zero_le _) rfl
        simp only[aH,Option.some.injEq,Pl.mk.injEq] at e1
        have e3:bn=aL:=e1.2.2.1.trans (e2 (.inr oU))
        cases loc with
        | none=>rfl
        | some off=>
         have:=M.mt off rfl
         have:=dY i hi
         rw[e3,(M.mt off rfl).2.1,List.drop_take,List.take_take,show min t'.sz (e.sz - off)=t'.sz by omega,List.drop_drop]
         exact ru (show i*e.sz+off+t'.sz<=cs.length by omega)
       have O9:(fa (loc.map (i*e.sz+·)) cs t'.sz bn).length=n*e.sz:=by rw[lS,nr (dY i hi) oB,hlen]
       refine ⟨_,_,_,fun b' k=>F3 b' k+F b' k,k1,fun b' k=>by have:=k2 b' k;have:=EV b' k;show F3 b' k+F b' k<=_;omega,fun A3 kb gX=>?_,fun d full hd=>?_⟩
       ·refine ⟨rfl,hf,by simpa using hl,O9,fun j y hy=>?_⟩
        have hj:j < n:=by have:=(List.getElem?_eq_some_iff.1 hy).1;rw[List.length_set] at this;omega
        rw[F5 j hj]
        rw[List.getElem?_set] at hy
        split at hy
        ·rename_i jf
         subst jf
         have hy:some v3=some y:=by
          split at hy
          ·exact hy
          ·cases hy
         injection hy with hy
         rw[if_pos rfl,<- hy]
         exact aj.flat e hf (k3 A3 kb fun b' k hp hz=>gX b' k (by have:=EV b' k;omega) (by have:=fM b' k;have:=EV b' k;show F3 b' k+F b' k=0;omega))
        ·rename_i jf
         rw[if_neg (fun h=>jf h.symm)]
         exact Ro.mono lL (fun b' k ha=>kb b' k (hA b' k ha)) e (hr j y hy)
       ·intro q pl hq hp
        cases q with
        | nil=>
         simp only[aH,Option.some.injEq] at hp;subst hp
         refine ⟨_,_,rfl,fun h=>?_⟩
         rcases h with ⟨_,hs⟩ | oU
         ·simp[nV] at hs
         ·exact oT d full hd oU
        | cons s q=>
         cases s with
         | fst=>simp[aH] at hp
         | snd=>simp[aH] at hp
         | idx j=>simp[aH] at hp
         | je j=>
          simp only[aH,List.isEmpty_nil,if_true] at hp
          split at hp
          ·rename_i hj
           by_cases ge:j=i
           ·subst ge
            obtain ⟨H5,Nl,e1,e2⟩:=k4 d full hd q pl (by simp only[br] at hq;omega) hp
            refine ⟨H5,Nl,?_,fun lM=>e2 (lM.imp (fun h=>⟨by have:=h.1;simp only[br] at this;omega,h.2⟩) id)⟩
            simp only[aH,List.isEmpty_nil,if_true,hj]
            rw[F5 j hj,if_pos rfl]
            rw[Ab] at e1
            exact e1
           ·refine ⟨pl.H,pl.cs,?_,fun _=>rfl⟩
            simp only[aH,List.isEmpty_nil,if_true,hj]
            rw[F5 j hj,if_neg ge]
            exact oz lL q e (Ro.flat e (m:=.leaf) (fun _ _=>0) hf (hr j _ (List.getElem?_eq_getElem (by rw[hl];exact hj)))) (fun b k hp=>by simp at hp) hp
          ·cases hp
      ·cases k1
  | _=>cases s <;> simp[kw] at h
end
end OT
set_option linter.unusedVariables false
set_option linter.unusedSimpArgs false
namespace OT
open Go
def tmp (a:Act) (i:Nat):Value:=a.tmps.getD i undef
section
variable {P:Program} {w:World} {A:Cells}
theorem Ro.one:∀ (t:Ty) {v:t.den} {cs:List Value},Ro P w A t v cs->∀ x ∈ cs,x.oneCell'=true:=by
 intro t
 induction t with
 | pair a b ey eg=>
  intro v cs h x hx
  rw[<-List.take_append_drop a.sz cs] at hx
  rcases List.mem_append.1 hx with hx | hx
  ·exact ey h.1 x hx
  ·exact eg h.2 x hx
 | arr n e ih=>
  intro v cs h x hx
  obtain ⟨hf,hl,hlen,hr⟩:=h
  obtain ⟨k,hk,rfl⟩:=List.mem_iff_getElem.1 hx
  rw[hlen] at hk
  have eH:0 < e.sz:=by
   rcases Nat.eq_zero_or_pos e.sz with h0 | h0
   ·rw[h0] at hk;omega
   ·exact h0
  have hi:k / e.sz < n:=(Nat.div_lt_iff_lt_mul eH).2 hk
  refine ih (hr (k / e.sz) _ (List.getElem?_eq_getElem (by rw[hl];exact hi))) _ ?_
  rw[List.mem_iff_getElem?]
  refine ⟨k % e.sz,?_⟩
  rw[List.getElem?_take,if_pos (Nat.mod_lt _ eH),List.getElem?_drop]
  have:k / e.sz*e.sz+k % e.sz=k:=by rw[Nat.mul_comm];exact Nat.div_add_mod k e.sz
  rw[this];exact List.getElem?_eq_getElem _
 | U e ih=>rintro v cs ⟨a,cap,rfl,_⟩ x hx;simp at hx;subst hx;rfl
 | ptr e ih=>rintro v cs ⟨a,rfl,_⟩ x hx;simp at hx;subst hx;rfl
 | fn=>rintro v cs ⟨a,rfl,_⟩ x hx;simp at hx;subst hx;rfl
 | map k v=>rintro v cs ⟨_,_,r,ka,rfl,_⟩ x hx;simp at hx;subst hx;rfl
 | unit=>intro v cs h x hx;simp only[Ro] at h;subst h;cases hx
 | _=>intro v cs h x hx;simp only[Ro] at h;subst h;simp at hx;subst hx;rfl
theorem aj.one:∀ (t:Ty) {m:Md} {H:List Path} {v:t.den} {cs:List Value} {F:FP},aj P w A t m H v cs F->∀ x ∈ cs,x.oneCell'=true:=by
 intro t
 induction t with
 | pair a b ey eg=>
  intro m H v cs F h x hx
  obtain ⟨_,F1,F2,_,h1,Y⟩:=h
  rw[<-List.take_append_drop a.sz cs] at hx
  rcases List.mem_append.1 hx with hx | hx
  ·exact ey h1 x hx
  ·exact eg Y x hx
 | U e ih=>
  intro m H v cs F h x hx
  simp only[aj] at h
  split at h
  ·obtain ⟨y,rfl,hy⟩:=h;simp at hx;subst hx;exact hy
  ·split at h
   ·obtain ⟨a,cap,rfl,_⟩:=h;simp at hx;subst hx;rfl
   ·exact Ro.one _ h.2.2 x hx
 | ptr e ih=>
  intro m H v cs F h x hx
  simp only[aj] at h
  split at h
  ·obtain ⟨y,rfl,hy⟩:=h;simp at hx;subst hx;exact hy
  ·split at h
   ·obtain ⟨a,rfl,_⟩:=h;simp at hx;subst hx;rfl
   ·exact Ro.one _ h.2.2 x hx
 | arr n e ih=>intro m H v cs F h;exact Ro.one _ h.2
 | map k v=>
  intro m H v cs F h x hx
  simp only[aj] at h
  split at h
  ·obtain ⟨y,rfl,hy⟩:=h;simp at hx;subst hx;exact hy
  ·split at h
   ·obtain ⟨_,_,r,ka,rfl,_⟩:=h;simp at hx;subst hx;rfl
   ·exact Ro.one _ h.2.2 x hx
 | _=>intro m H v cs F h;exact Ro.one _ h
end
theorem fE {t:Ty} {cs:List Value} (hl:cs.length=t.sz) (h1:∀ x ∈ cs,x.oneCell'=true):(bm t cs).cells.toList=cs:=by
 unfold bm
 split
 ·simp[Value.cells]
 ·rename_i h
  have:t.sz=1:=by cases t <;> simp_all [isAgg,Ty.sz]
  match cs,hl with
  | [x],_=>
   have:=h1 x (by simp)
   cases x <;> simp_all [Value.cells,Value.oneCell']
  | [],hl=>simp[this] at hl
  | _::_::_,hl=>simp[this] at hl
def Below (snap v:List Nat):Prop:=∀ (j x:Nat),snap[j]?=some x->∃ y,v[j]?=some y/\x<=y
theorem w_:∀ (s v:List Nat),preB s v=true↔∀ (j x:Nat),s[j]?=some x->v[j]?=some x
 | [],v=>by simp[preB]
 | a::s,[]=>by
  simp only[preB,Bool.false_eq_true,false_iff]
  intro h
  have:=h 0 a rfl
  cases this
 | a::s,b::v=>by
  simp only[preB,Bool.and_eq_true,Nat.beq_eq,w_ s v]
  constructor
  ·rintro ⟨rfl,h⟩ j x hj
   cases j with
   | zero=>exact hj
   | succ j=>exact h j x hj
  ·intro h
   refine ⟨by have:=h 0 a rfl;simpa using this.symm,fun j x hj=>h (j+1) x hj⟩
theorem wm {s v v':List Nat} (hs:Below s v) (hv:Below v v') (h:preB s v'=true):preB s v=true/\∀ (j:Nat),j < s.length->v[j]?=v'[j]?:=by
 have key:∀ (j x:Nat),s[j]?=some x->v[j]?=some x/\v'[j]?=some x:=fun j x hj=>by
  obtain ⟨y,hy,qw⟩:=hs j x hj
  obtain ⟨z,hz,Sa⟩:=hv j y hy
  have:=(w_ _ _).1 h j x hj
  rw[this] at hz
  injection hz with hz
  have:x=y:=by omega
  subst this
  exact ⟨hy,by assumption⟩
 refine ⟨(w_ _ _).2 fun j x hj=>(key j x hj).1,fun j hj=>?_⟩
 obtain ⟨h1,Y⟩:=key j _ (List.getElem?_eq_getElem hj)
 rw[h1,Y]
theorem Below.trans {s v v':List Nat} (h1:Below s v) (Y:Below v v'):Below s v':=fun j x hj=>by
 obtain ⟨y,hy,qw⟩:=h1 j x hj
 obtain ⟨z,hz,Sa⟩:=Y j y hy
 exact ⟨z,hz,by omega⟩
theorem Below.refl (s:List Nat):Below s s:=fun j x hj=>⟨x,hj,Nat.le_refl _⟩
def bp (w:World) (tv:Value):Slot->Option Pl
 | .own t _ H _=>some ⟨t,H,tv.cells.toList,none⟩
 | .box t _ H _=>match tv with
  | .pointer (some a)=>some ⟨t,H,rd w a.block a.off t.sz,some (a.block,a.off)⟩
  | _=>none
 | _=>none
def place (σ:St) (a:Act) (w:World) (r:Nat) (p:Path):Option Pl:=
 (bp w (tmp a r) (σ.get r)).bind fun R=>aH w p R.t R.H R.cs R.ad
def kx (σ:St) (a:Act) (w:World) (tv:Value) (r:Nat) (p:Path) (snap:List Nat):Prop:=
 Below snap (σ.eS r)/\(σ.ok r snap=true->∃ pl,place σ a w r p=some pl/\tv=bm pl.t pl.cs/\((nV pl.t=true/\snap.length=min 5 (2+br p))\/snap.length=5))
def sZ (σ:St) (a:Act) (w:World) (tv:Value) (r:Nat) (p:Path) (snap:List Nat):Prop:=
 Below snap (σ.eS r)/\(σ.ok r snap=true->∃ pl b o,place σ a w r p=some pl/\pl.ad=some (b,o)/\tv=.pointer (some ⟨b,o,none⟩)/\snap.length=min 5 (1+br p))
def vf (σ:St) (a:Act) (w:World) (tv:Value) (r:Nat) (p:Path) (snap:List Nat) (lo hi:Nat):Prop:=
 Below snap (σ.eS r)/\(σ.ok r snap=true->∃ pl e x n cap x' cap',place σ a w r p=some pl/\pl.t=.U e/\pl.cs=[.slice x n cap]/\lo<=hi/\hi<=n/\tv=.slice x' (hi - lo) cap'/\cap'+lo=cap/\(lo=0->x'=x) /\
  (x=none->x'=none)/\(∀ ad,x=some ad->∃ a_,x'=some a_/\a_.spot=ad.spot/\a_.block=ad.block/\(lo < hi->a_.off=ad.off+lo*e.sz))/\(snap.length=min 5 (2+br p)\/snap.length=5))
section
variable (P:Program) (A:Cells)
def Nm (w:World) (x:xH) (tv:Value) (F:FP):Prop:=x.t=.unit\/∃ cs,tv=bm x.t cs/\aj P w A x.t x.m [] x.v cs F
def ba (σ:St) (a:Act) (w:World) (tv:Value):Slot->FP->Prop
 | .dead,_=>True
 | .oN,_=>tv=.slice none 0 0
 | .val t v,_=>∃ cs,tv=bm t cs/\Ro P w A t v cs
 | .cp t v,_=>Ro P w A (.ptr t) v [tv]
 | .own t m H v,F=>∃ cs,tv=bm t cs/\aj P w A t m H v cs F
 | .box t m H v,F=>∃ b o L F1,tv=.pointer (some ⟨b,o,none⟩)/\L.length=t.sz/\Has w b o L/\(∀ j,j < t.sz->w.frozen? ⟨b,o+j,none⟩=false) /\
   (∀ x i,bq b o t.sz x i+F1 x i<=F x i)/\aj P w A t m H v L F1
 | .ref r p snap,_=>kx σ a w tv r p snap
 | .ptr r p snap,_=>sZ σ a w tv r p snap
 | .sub r p snap lo hi,_=>vf σ a w tv r p snap lo hi
 | .kO xs,F=>∃ (vs:Array Value) (Fi:Nat->FP),tv=.tuple vs/\(∀ b i,ay xs.length Fi b i<=F b i)/\∀ j x,xs[j]?=some x->∃ v,vs[j]?=some v/\Nm P A w x v (Fi j)
end
structure Ext (w w':World) (F:FP):Prop where
 size:w.heap.size<=w'.heap.size
 cell:∀ b i,b < w.heap.size->F b i=0->∀ u,ce w b i=some u->ce w' b i=some u
 pt:∀ b n,dq w b n->dq w' b n
 ql:∀ b i,b < w.heap.size->w'.frozen? ⟨b,i,none⟩=w.frozen? ⟨b,i,none⟩
 os:w'.os=w.os
 tape:w'.tape=w.tape
 output:w'.output=w.output
 obj:∀ b,b < w.heap.size->(∀ i,F b i=0)->w'.heap[b]?=w.heap[b]?
 drawn:w.drawn<=w'.drawn
structure Ctx where
 w0:World
 A0:Cells
 F0:FP
 args:Array Value
structure Rel (P:Program) (C:Ctx) (A:Cells) (X:FP) (σ:St) (a:Act) (w:World) (F:Nat->FP):Prop where
 size:a.tmps.size=σ.n
 defers:a.defers=[]
 dx:∀ i,i < σ.n->ba P A σ a w (tmp a i) (σ.get i) (F i)
 gh:∀ d r p snap,(d,r,p,snap) ∈ σ.gh->kx σ a w (tmp a d) r p snap
 iP:∀ b i,X b i+ay σ.n F b i<=1
 jx:∀ b i,1<=X b i+ay σ.n F b i->¬ A b i
 ez:∀ b i,1<=X b i+ay σ.n F b i\/A b i->b < w.heap.size
 fD:∀ i,(σ.eS i).length=5
 ext:Ext C.w0 w C.F0
 own:∀ b i,1<=X b i+ay σ.n F b i->1<=C.F0 b i\/C.w0.heap.size<=b
 a0:∀ b i,C.A0 b i->A b i
 a1:∀ b i,A b i->C.A0 b i\/1<=C.F0 b i\/C.w0.heap.size<=b
 it:∀ j k,(j,k,false) ∈ σ.av->tmp a j=C.args.getD k undef
 whole:∀ r t m H v,σ.get r=.box t m H v->(∀ k,(r,k,false) ∉ σ.av)->∃ b,tmp a r=.pointer (some ⟨b,0,none⟩)/\dq w b (t.sz,false)
 gE:∀ j k,(j,k,true) ∈ σ.av->∀ R,bp w (tmp a j) (σ.get j)=some R->bm R.t R.cs=C.args.getD k undef
def pA (σ:St) (a:Act) (w:World) (σ':St) (a':Act) (w':World):Prop:=
 ∀ r p snap,Below snap (σ.eS r)->Below snap (σ'.eS r)/\(σ'.ok r snap=true->σ.ok r snap=true /\
  (snap.length=min 5 (1+br p)\/snap.length=min 5 (2+br p)\/snap.length=5->∀ pl,place σ a w r p=some pl->∃ H' aL,place σ' a' w' r p=some ⟨pl.t,H',aL,pl.ad⟩ /\
   ((nV pl.t=true/\snap.length=min 5 (2+br p))\/snap.length=5->aL=pl.cs)))
section
variable {P:Program} {A A':Cells} {σ σ':St} {a a':Act} {w w':World} {tv:Value} {F:FP}
theorem kx.gd (hp:pA σ a w σ' a' w') {r:Nat} {p:Path} {snap:List Nat} (h:kx σ a w tv r p snap):kx σ' a' w' tv r p snap:=by
 obtain ⟨h1,Y⟩:=h
 obtain ⟨h3,h4⟩:=hp r p snap h1
 refine ⟨h3,fun az=>?_⟩
 obtain ⟨h5,h6⟩:=h4 az
 obtain ⟨pl,h7,h8,h9⟩:=Y h5
 obtain ⟨H',aL,pZ,sg⟩:=h6 (h9.elim (fun h=>.inr (.inl h.2)) (fun h=>.inr (.inr h))) pl h7
 exact ⟨_,pZ,by rw[sg h9];exact h8,h9⟩
theorem sZ.gd (hp:pA σ a w σ' a' w') {r:Nat} {p:Path} {snap:List Nat} (h:sZ σ a w tv r p snap):sZ σ' a' w' tv r p snap:=by
 obtain ⟨h1,Y⟩:=h
 obtain ⟨h3,h4⟩:=hp r p snap h1
 refine ⟨h3,fun az=>?_⟩
 obtain ⟨h5,h6⟩:=h4 az
 obtain ⟨pl,b,o,h7,h8,h9,pZ⟩:=Y h5
 obtain ⟨H',aL,sg,_⟩:=h6 (.inl pZ) pl h7
 exact ⟨_,b,o,sg,h8,h9,pZ⟩
theorem vf.gd (hp:pA σ a w σ' a' w') {r:Nat} {p:Path} {snap:List Nat} {lo hi:Nat} (h:vf σ a w tv r p snap lo hi):vf σ' a' w' tv r p snap lo hi:=by
 obtain ⟨h1,Y⟩:=h
 obtain ⟨h3,h4⟩:=hp r p snap h1
 refine ⟨h3,fun az=>?_⟩
 obtain ⟨h5,h6⟩:=h4 az
 obtain ⟨pl,e,x,n,cap,x',cap',h7,h8,h9,pZ,sg,BY,Sb,Ra,Sc,Sd,Nn⟩:=Y h5
 obtain ⟨H',aL,Se,Sf⟩:=h6 (.inr Nn) pl h7
 have:nV pl.t=true:=by rw[h8];rfl
 exact ⟨_,e,x,n,cap,x',cap',Se,h8,(Sf (Nn.imp (fun h=>⟨this,h⟩) id)).trans h9,pZ,sg,BY,Sb,Ra,Sc,Sd,Nn⟩
theorem ba.gd (hp:pA σ a w σ' a' w') (hA:∀ b i,A b i->A' b i) (hc:∀ b i,A b i->∀ u,ce w b i=some u->ce w' b i=some u) (hb:∀ b n,dq w b n->dq w' b n)
  (hF:∀ b i,1<=F b i->(∀ u,ce w b i=some u->ce w' b i=some u)/\w'.frozen? ⟨b,i,none⟩=w.frozen? ⟨b,i,none⟩) {s:Slot} (h:ba P A σ a w tv s F):ba P A' σ' a' w' tv s F:=by
 cases s with
 | dead=>trivial
 | oN=>exact h
 | val t v=>obtain ⟨cs,h1,Y⟩:=h;exact ⟨cs,h1,Ro.mono hc hA t Y⟩
 | cp t v=>exact Ro.mono hc hA (.ptr t) h
 | own t m H v=>obtain ⟨cs,h1,Y⟩:=h;exact ⟨cs,h1,aj.mono hA hc hb t Y (fun _ _=>Nat.le_refl _) (fun b i hp=>(hF b i hp).1)⟩
 | box t m H v=>
  obtain ⟨b,o,L,F1,h1,Y,h3,h4,h5,h6⟩:=h
  have hr:∀ j,j < t.sz->1<=F b (o+j):=fun j hj=>by
   have:=h5 b (o+j);simp[bq,hj] at this;omega
  exact ⟨b,o,L,F1,h1,Y,fun j u hu=>(hF _ _ (hr j (Y ▸ (List.getElem?_eq_some_iff.1 hu).1))).1 u (h3 j u hu),fun j hj=>by rw[(hF _ _ (hr j hj)).2];exact h4 j hj,h5,
   aj.mono hA hc hb t h6 (fun _ _=>Nat.le_refl _) (fun b i hp=>(hF b i (by have:=h5 b i;omega)).1)⟩
 | ref r p snap=>exact kx.gd hp h
 | ptr r p snap=>exact sZ.gd hp h
 | sub r p snap lo hi=>exact vf.gd hp h
 | kO xs=>
  obtain ⟨vs,Fi,h1,Y,h3⟩:=h
  refine ⟨vs,Fi,h1,Y,fun j x hx=>?_⟩
  obtain ⟨v,h4,h5⟩:=h3 j x hx
  refine ⟨v,h4,h5.imp id fun ⟨cs,h6,h7⟩=>⟨cs,h6,aj.mono hA hc hb x.t h7 (fun _ _=>Nat.le_refl _) (fun b i hp=>(hF b i ?_).1)⟩⟩
  have:=bk Fi (List.getElem?_eq_some_iff.1 hx).1 b i
  have:=Y b i;omega
end
end OT
set_option linter.unusedVariables false
set_option linter.unusedSimpArgs false
namespace OT
open Go
theorem qD {α:Type} (k:Nat) (x:α) (l:List (Nat×α)) (i:Nat):gg ((k,x)::l) i=if k=i then some x else gg l i:=by
 simp only[gg]
 by_cases h:k=i
 ·simp[h]
 ·rw[if_neg h,if_neg (by simpa using h)]
theorem pB (σ:St) (d:Nat) (s:Slot) (i:Nat):(σ.put d s).get i=if d=i/\i < σ.n then s else σ.get i:=by
 simp only[St.get,St.put,qD,Nat.blt_eq]
 by_cases hi:i < σ.n
 ·by_cases hd:d=i <;> simp[hi,hd]
 ·simp[hi]
theorem wo (σ:St) (d:Nat) (s:Slot) (i:Nat):(σ.BC d s).get i=if d=i/\i < σ.n then s else σ.get i:=by
 simp only[St.get,St.BC,qD,Nat.blt_eq]
 by_cases hi:i < σ.n
 ·by_cases hd:d=i <;> simp[hi,hd]
 ·simp[hi]
theorem qY (σ:St) (d:Nat) (s:Slot) (i:Nat):(σ.put d s).eS i=if d=i then ls (σ.eS d) else σ.eS i:=by
 simp only[St.eS,St.put,qD]
 by_cases hd:d=i <;> simp[hd]
theorem jX (σ:St) (d:Nat) (f:List Nat->List Nat) (i:Nat):(σ.fh d f).eS i=if d=i then f (σ.eS d) else σ.eS i:=by
 simp only[St.eS,St.fh,qD]
 by_cases hd:d=i <;> simp[hd]
theorem qE {l:List (Nat×Nat×Bool)} {d:Nat} {e:Nat×Nat×Bool} (h:e ∈ rg l d):e ∈ l/\e.1≠d:=by
 induction l with
 | nil=>cases h
 | cons x l ih=>
  obtain ⟨k,b⟩:=x
  simp only[rg] at h
  split at h
  ·exact ⟨List.mem_cons_of_mem _ (ih h).1,(ih h).2⟩
  ·rename_i hk
   rcases List.mem_cons.1 h with rfl | h
   ·exact ⟨List.mem_cons_self,by simpa using hk⟩
   ·exact ⟨List.mem_cons_of_mem _ (ih h).1,(ih h).2⟩
theorem xQ {l:List (Nat×Nat×Bool)} {d:Nat} {e:Nat×Nat×Bool} (h:e ∈ l) (hd:e.1≠d):e ∈ rg l d:=by
 induction l with
 | nil=>cases h
 | cons x l ih=>
  obtain ⟨k,b⟩:=x
  simp only[rg]
  rcases List.mem_cons.1 h with rfl | h
  ·rw[if_neg (by simpa using hd)];exact List.mem_cons_self
  ·split
   ·exact ih h
   ·exact List.mem_cons_of_mem _ (ih h)
theorem F6 {l:List (Nat×Nat×Bool)} {d j k:Nat} (h:(j,k,false) ∈ l):(j,k,false) ∈ rh l d:=by
 induction l with
 | nil=>cases h
 | cons x l ih=>
  obtain ⟨k',n,b⟩:=x
  simp only[rh]
  rcases List.mem_cons.1 h with h | h
  ·injection h with h1 Y
   injection Y with Y h3
   subst h3
   simp[h1,Y]
  ·split
   ·exact ih h
   ·exact List.mem_cons_of_mem _ (ih h)
theorem xR {l:List (Nat×Nat×Bool)} {d:Nat} {e:Nat×Nat×Bool} (h:e ∈ rh l d):e ∈ l/\¬ (e.1=d/\e.2.2=true):=by
 induction l with
 | nil=>cases h
 | cons x l ih=>
  obtain ⟨k,n,b⟩:=x
  simp only[rh] at h
  split at h
  ·exact ⟨List.mem_cons_of_mem _ (ih h).1,(ih h).2⟩
  ·rename_i hk
   rcases List.mem_cons.1 h with rfl | h
   ·exact ⟨List.mem_cons_self,by simpa using hk⟩
   ·exact ⟨List.mem_cons_of_mem _ (ih h).1,(ih h).2⟩
theorem BZ {l:List (Nat×Nat×Path×List Nat)} {d:Nat} {e:Nat×Nat×Path×List Nat} (h:e ∈ BB l d):e ∈ l/\e.1≠d:=by
 induction l with
 | nil=>cases h
 | cons x l ih=>
  obtain ⟨k,b⟩:=x
  simp only[BB] at h
  split at h
  ·exact ⟨List.mem_cons_of_mem _ (ih h).1,(ih h).2⟩
  ·rename_i hk
   rcases List.mem_cons.1 h with rfl | h
   ·exact ⟨List.mem_cons_self,by simpa using hk⟩
   ·exact ⟨List.mem_cons_of_mem _ (ih h).1,(ih h).2⟩
theorem lN (v:List Nat):Below v (ls v):=fun j x hj=>⟨x+1,by simp[ls,hj],by omega⟩
theorem vg {v:List Nat} (h:v.length=5):∃ b x y z w,v=[b,x,y,z,w]:=by
 match v,h with
 | [b,x,y,z,w],_=>exact ⟨b,x,y,z,w,rfl⟩
theorem HP {b x y z w b' x' y' z' w':Nat} (h0:b<=b') (h1:x<=x') (Y:y<=y') (h3:z<=z') (h4:w<=w'):Below [b,x,y,z,w] [b',x',y',z',w']:=by
 intro j n hj
 match j,hj with
 | 0,hj=>exact ⟨b',rfl,by simp at hj;omega⟩
 | 1,hj=>exact ⟨x',rfl,by simp at hj;omega⟩
 | 2,hj=>exact ⟨y',rfl,by simp at hj;omega⟩
 | 3,hj=>exact ⟨z',rfl,by simp at hj;omega⟩
 | 4,hj=>exact ⟨w',rfl,by simp at hj;omega⟩
 | n+5,hj=>simp at hj
theorem mU (d:Nat) {v:List Nat} (h:v.length=5):Below v (mp d v):=by
 obtain ⟨b,x,y,z,w,rfl⟩:=vg h
 match d with
 | 0 | 1 | 2 | n+3=>exact HP (by omega) (by omega) (by omega) (by omega) (by omega)
theorem pL {v:List Nat} (h:v.length=5):Below v (oO v):=by
 obtain ⟨b,x,y,z,w,rfl⟩:=vg h
 exact HP (by omega) (by omega) (by omega) (by omega) (by omega)
theorem vh {v:List Nat}:(ls v).length=v.length:=by simp[ls]
theorem tG (d:Nat) {v:List Nat} (h:v.length=5):(mp d v).length=5:=by
 obtain ⟨b,x,y,z,w,rfl⟩:=vg h
 match d with
 | 0 | 1 | 2 | n+3=>rfl
theorem vj {v:List Nat} (h:v.length=5):(oO v).length=5:=by
 obtain ⟨b,x,y,z,w,rfl⟩:=vg h
 rfl
theorem xS {s v v':List Nat} (hs:Below s v) (hv:Below v v') (h:preB s v'=true) {j:Nat} (hj:v[j]?≠v'[j]?):s.length<=j:=by
 rcases Nat.lt_or_ge j s.length with h' | h'
 ·exact absurd ((wm hs hv h).2 j h') hj
 ·exact h'
theorem wI {s v:List Nat} (hl:v.length=5) (hs:Below s v) (h:preB s (ls v)=true):s.length=0:=by
 obtain ⟨b,x,y,z,w,rfl⟩:=vg hl
 have:=xS hs (lN _) h (j:=0) (by simp[ls])
 omega
theorem vk {s v:List Nat} (d:Nat) (hl:v.length=5) (hs:Below s v) (h:preB s (mp d v)=true):s.length<=min 4 (1+d):=by
 have h4:s.length<=4:=by
  refine xS hs (mU d hl) h ?_
  obtain ⟨b,x,y,z,w,rfl⟩:=vg hl
  match d with
  | 0 | 1 | 2 | n+3=>simp[mp]
 have hd:s.length<=1+d:=by
  rcases Nat.lt_or_ge d 3 with hd | hd
  ·refine xS hs (mU d hl) h ?_
   obtain ⟨b,x,y,z,w,rfl⟩:=vg hl
   match d,hd with
   | 0,_ | 1,_ | 2,_=>simp[mp]
  ·omega
 omega
theorem xd {s v:List Nat} (hl:v.length=5) (hs:Below s v) (h:preB s (oO v)=true):s.length<=4:=by
 refine xS hs (pL hl) h ?_
 obtain ⟨b,x,y,z,w,rfl⟩:=vg hl
 simp[oO]
section
variable {P:Program} {C:Ctx} {A A2:Cells} {X:FP} {σ:St} {a:Act} {w w2:World} {F:Nat->FP}
theorem ii (a:Act) (d:Nat) (v:Value) (i:Nat):tmp (a.put (some d) v) i=if d=i/\i < a.tmps.size then v else tmp a i:=by
 simp only[tmp,Act.put,Array.getD_eq_getD_getElem?,Array.getElem?_setIfInBounds]
 by_cases hd:d=i
 ·subst hd
  by_cases hs:d < a.tmps.size <;> simp[hs]
 ·simp[hd]
theorem qF {tv:Value} {s:Slot} {G:FP} {R:Pl} (h:ba P A σ a w tv s G) (hR:bp w tv s=some R) :
  ∃ (m:Md) (v:R.t.den) (F1:FP),aj P w A R.t m R.H v R.cs F1/\(∀ b i,F1 b i<=G b i) /\
   (∀ b o,R.ad=some (b,o)->Has w b o R.cs/\(∀ x i,bq b o R.t.sz x i+F1 x i<=G x i)/\∀ j,j < R.t.sz->w.frozen? ⟨b,o+j,none⟩=false) /\
   ((∃ v',s=.own R.t m R.H v'/\HEq v v'/\R.ad=none)\/(∃ v',s=.box R.t m R.H v'/\HEq v v'/\R.ad.isSome=true)):=by
 cases s with
 | own t m H v=>
  simp only[bp,Option.some.injEq] at hR
  subst hR
  obtain ⟨cs,h1,Y⟩:=h
  refine ⟨m,v,G,?_,fun _ _=>Nat.le_refl _,(fun b o h=>by cases h),.inl ⟨v,rfl,HEq.rfl,rfl⟩⟩
  rw[h1,fE (aj.length t Y) (aj.one t Y)];exact Y
 | box t m H v=>
  obtain ⟨b,o,L,F1,h1,Y,h3,h4,h5,h6⟩:=h
  subst h1
  simp only[bp,Option.some.injEq] at hR
  subst hR
  refine ⟨m,v,F1,by rw[bB h3 Y];exact h6,fun x i=>by have:=h5 x i;omega,?_,.inr ⟨v,rfl,HEq.rfl,rfl⟩⟩
  intro b' o' HQ
  simp only[Option.some.injEq,Prod.mk.injEq] at HQ
  obtain ⟨rfl,rfl⟩:=HQ
  exact ⟨by rw[bB h3 Y];exact h3,h5,h4⟩
 | _=>simp[bp] at hR
theorem oV {tv:Value} {s:Slot} {G:FP} {R:Pl} (h:ba P A σ a w tv s G) (hc:∀ b i,1<=G b i->∀ u,ce w b i=some u->ce w2 b i=some u)
  (hR:bp w tv s=some R):bp w2 tv s=some R:=by
 cases s with
 | own t m H v=>exact hR
 | box t m H v=>
  obtain ⟨b,o,L,F1,h1,Y,h3,h4,h5,h6⟩:=h
  subst h1
  simp only[bp,Option.some.injEq] at hR ⊢
  have:Has w2 b o L:=fun j u hu=>hc _ _ (by
   have hj:j < t.sz:=Y ▸ (List.getElem?_eq_some_iff.1 hu).1
   have:=h5 b (o+j);simp[bq,hj] at this;omega) u (h3 j u hu)
  rw[bB this Y,<- hR,bB h3 Y]
 | _=>simp[bp] at hR
theorem nM {σ':St} {a':Act} {r:Nat} {p:Path} {G:FP} {pl:Pl} (h:ba P A σ a w (tmp a r) (σ.get r) G) (hg:σ'.get r=σ.get r) (ht:tmp a' r=tmp a r)
  (hA:∀ b i,A b i->∀ u,ce w b i=some u->ce w2 b i=some u) (hc:∀ b i,1<=G b i->∀ u,ce w b i=some u->ce w2 b i=some u)
  (hp:place σ a w r p=some pl):place σ' a' w2 r p=some pl:=by
 unfold place at hp ⊢
 rw[hg,ht]
 cases hR:bp w (tmp a r) (σ.get r) with
 | none=>rw[hR] at hp;cases hp
 | some R=>
  rw[hR] at hp
  rw[oV h hc hR]
  obtain ⟨m,v,F1,h1,Y,_⟩:=qF h hR
  exact oz hA p R.t h1 (fun b i hh=>hc b i (Nat.le_trans hh (Y b i))) hp
theorem fk {σ:St} {i:Nat} (h:¬ i < σ.n):σ.get i=.dead:=by simp[St.get,h]
theorem mV {r:Nat} {p:Path} {pl:Pl} (h:place σ a w r p=some pl):r < σ.n:=by
 rcases Nat.lt_or_ge r σ.n with h' | h'
 ·exact h'
 ·simp[place,fk (Nat.not_lt.2 h'),bp] at h
theorem Rel.put (h:Rel P C A X σ a w F) {d:Nat} (hd:d < σ.n) {s:Slot} {v:Value} {Fd X':FP} (hs:ba P A σ a w v s Fd) (ht:∀ b i,X' b i+Fd b i<=X b i+F d b i)
  (HR:∀ t m H v',s=.box t m H v'->∃ b,v=.pointer (some ⟨b,0,none⟩)/\dq w b (t.sz,false)) :
  Rel P C A X' (σ.put d s) (a.put (some d) v) w (ca F d Fd):=by
 have eH:=h.size
 have gL:pA σ a w (σ.put d s) (a.put (some d) v) w:=by
  intro r p snap hb
  rw[qY,St.ok,qY]
  by_cases hr:d=r
  ·subst hr
   simp only[if_true]
   refine ⟨hb.trans (lN _),fun az=>?_⟩
   have h0:=wI (h.fD d) hb az
   exact ⟨(wm hb (lN _) az).1,fun hl=>by omega⟩
  ·simp only[if_neg hr]
   refine ⟨hb,fun az=>⟨az,fun hl pl dZ=>⟨pl.H,pl.cs,?_,fun _=>rfl⟩⟩⟩
   exact nM (h.dx r (mV dZ)) (by rw[pB,if_neg (fun h=>hr h.1)]) (by rw[ii,if_neg (fun h=>hr h.1)]) (fun _ _ _ _ h=>h) (fun _ _ _ _ h=>h) dZ
 have i_:∀ b i,X' b i+ay σ.n (ca F d Fd) b i<=X b i+ay σ.n F b i:=fun b i=>by
  have:=lZ F hd Fd b i;have:=ht b i;omega
 refine ⟨by simp[Act.put,eH,St.put],by simpa [Act.put] using h.defers,fun i hi=>?_,?_,fun b i=>Nat.le_trans (i_ b i) (h.iP b i),fun b i hp=>h.jx b i (Nat.le_trans hp (i_ b i)),
  fun b i hp=>h.ez b i (hp.imp (fun hp=>Nat.le_trans hp (i_ b i)) id),fun i=>?_,h.ext,fun b i hp=>h.own b i (Nat.le_trans hp (i_ b i)),h.a0,h.a1,?_,?_,?_⟩
 ·have hi:i < σ.n:=hi
  rw[pB,ii,eH]
  by_cases Li:d=i
  ·subst Li
   rw[if_pos ⟨rfl,hi⟩,if_pos ⟨rfl,hi⟩]
   simp only[ca,if_true]
   exact ba.gd gL (fun _ _ h=>h) (fun _ _ _ _ h=>h) (fun _ _ h=>h) (fun _ _ _=>⟨fun _ h=>h,rfl⟩) hs
  ·rw[if_neg (fun h=>Li h.1),if_neg (fun h=>Li h.1)]
   simp only[ca,if_neg (fun h:i=d=>Li h.symm)]
   exact ba.gd gL (fun _ _ h=>h) (fun _ _ _ _ h=>h) (fun _ _ h=>h) (fun _ _ _=>⟨fun _ h=>h,rfl⟩) (h.dx i hi)
 ·intro d' r p snap hm
  obtain ⟨hm,eG⟩:=BZ hm
  rw[ii,if_neg (fun h=>eG h.1.symm)]
  exact kx.gd gL (h.gh d' r p snap hm)
 ·rw[qY]
  split
  ·rw[vh];exact h.fD d
  ·exact h.fD i
 ·intro j k hm
  obtain ⟨hm,eG⟩:=qE hm
  rw[ii,if_neg (fun h=>eG h.1.symm)]
  exact h.it j k hm
 ·intro r t m H v' hg hl
  rw[pB] at hg
  rw[ii,eH]
  by_cases uJ:d=r/\r < σ.n
  ·rw[if_pos uJ] at hg ⊢
   exact HR t m H v' hg
  ·rw[if_neg uJ] at hg ⊢
   refine h.whole r t m H v' hg fun k hm=>hl k (xQ hm fun e=>uJ ⟨e.symm,?_⟩)
   rcases Nat.lt_or_ge r σ.n with hr | hr
   ·exact hr
   ·rw[fk (Nat.not_lt.2 hr)] at hg;cases hg
 ·intro j k hm R hR
  obtain ⟨hm,eG⟩:=qE hm
  rw[ii,if_neg (fun h=>eG h.1.symm),pB,if_neg (fun h=>eG h.1.symm)] at hR
  exact h.gE j k hm R hR
theorem Rel.less (h:Rel P C A X σ a w F) {X':FP} (ht:∀ b i,X' b i<=X b i):Rel P C A X' σ a w F:=
 { h with
  iP:=fun b i=>by have:=h.iP b i;have:=ht b i;omega
  jx:=fun b i hp=>h.jx b i (by have:=ht b i;omega)
  ez:=fun b i hp=>h.ez b i (hp.imp (fun hp=>by have:=ht b i;omega) id)
  own:=fun b i hp=>h.own b i (by have:=ht b i;omega) }
theorem Ext.refl (w:World) (F:FP):Ext w w F:=⟨Nat.le_refl _,fun _ _ _ _ _ h=>h,fun _ _ h=>h,fun _ _ _=>rfl,rfl,rfl,rfl,fun _ _ _=>rfl,Nat.le_refl _⟩
theorem Ext.mono {F F':FP} (h:Ext w w2 F) (hF:∀ b i,F' b i=0->F b i=0):Ext w w2 F':={ h with cell:=fun b i hb hz=>h.cell b i hb (hF b i hz),obj:=fun b hb hz=>h.obj b hb fun i=>hF b i (hz i) }
theorem Ext.trans {w3:World} {F G:FP} (h:Ext w w2 F) (Y:Ext w2 w3 G) (hG:∀ b i,b < w.heap.size->F b i=0->G b i=0):Ext w w3 F:=
 ⟨Nat.le_trans h.size Y.size,fun b i hb hz u hu=>Y.cell b i (Nat.lt_of_lt_of_le hb h.size) (hG b i hb hz) u (h.cell b i hb hz u hu),fun b n hn=>Y.pt b n (h.pt b n hn),
  fun b i hb=>(Y.ql b i (Nat.lt_of_lt_of_le hb h.size)).trans (h.ql b i hb),Y.os.trans h.os,Y.tape.trans h.tape,Y.output.trans h.output,
  fun b hb hz=>(Y.obj b (Nat.lt_of_lt_of_le hb h.size) fun i=>hG b i hb (hz i)).trans (h.obj b hb hz),Nat.le_trans h.drawn Y.drawn⟩
theorem Rel.Sg (h:Rel P C A X σ a w F) {r:Nat} (hr:r < σ.n) {σ':St} (hn:σ'.n=σ.n) (mW:∀ i,i≠r->σ'.get i=σ.get i) (No:∀ i,i≠r->σ'.eS i=σ.eS i)
  (P5:Below (σ.eS r) (σ'.eS r)) (vl:(σ'.eS r).length=5) (tH:∀ e,e ∈ σ'.av->e ∈ σ.av) (Np:∀ j k,(j,k,false) ∈ σ.av->(j,k,false) ∈ σ'.av) (HS:∀ e,e ∈ σ'.gh->e ∈ σ.gh)
  {X2 B5:FP} {R:Pl} {H2:List Path} {bn:List Value} (hs:ba P A2 σ' a w2 (tmp a r) (σ'.get r) B5) (hR:bp w (tmp a r) (σ.get r)=some R)
  (P6:bp w2 (tmp a r) (σ'.get r)=some ⟨R.t,H2,bn,R.ad⟩)
  (bh:∀ (p:Path) (snap:List Nat),Below snap (σ.eS r)->σ'.ok r snap=true->(snap.length=min 5 (1+br p)\/snap.length=min 5 (2+br p)\/snap.length=5) ->
   ∃ D full,br p<=D/\(snap.length=min 5 (2+br p)->br p < D\/full)/\(snap.length=5->full)/\kQ D full w R.t R.H R.cs R.ad w2 H2 bn)
  (hA:∀ b i,A b i->A2 b i) (HT:∀ b i,A2 b i->A b i\/(1<=X b i+F r b i/\X2 b i+B5 b i=0))
  (hx:∀ b i,X2 b i+B5 b i<=X b i+F r b i) (hw:Ext w w2 fun b i=>X b i+F r b i) (JJ:∀ t m H v,σ'.get r=.box t m H v->∃ m0 H0 v0,σ.get r=.box t m0 H0 v0) (ry:∀ k,(r,k,true) ∈ σ'.av->bn=R.cs) :
  Rel P C A2 X2 σ' a w2 (ca F r B5):=by
 have hle:∀ b i,X b i+F r b i<=X b i+ay σ.n F b i:=fun b i=>by have:=bk F hr b i;omega
 have lL:∀ b i,A b i->∀ u,ce w b i=some u->ce w2 b i=some u:=fun b i ha u hu=>by
  refine hw.cell b i (h.ez b i (.inr ha)) ?_ u hu
  rcases Nat.eq_zero_or_pos (X b i+F r b i) with h0 | h0
  ·exact h0
  ·exact absurd ha (h.jx b i (Nat.le_trans h0 (hle b i)))
 have vm:∀ j,j < σ.n->j≠r->∀ b i,1<=F j b i->(∀ u,ce w b i=some u->ce w2 b i=some u)/\w2.frozen? ⟨b,i,none⟩=w.frozen? ⟨b,i,none⟩:=fun j hj HU b i hp=>by
  have h1:=mQ F hj hr HU b i
  have Y:=h.iP b i
  have hb:=h.ez b i (.inl (by have:=bk F hj b i;omega))
  exact ⟨fun u hu=>hw.cell b i hb (by show X b i+F r b i=0;omega) u hu,hw.ql b i hb⟩
 have gL:pA σ a w σ' a w2:=by
  intro r' p snap hb
  by_cases B6:r'=r
  ·subst B6
   refine ⟨hb.trans P5,fun az=>?_⟩
   refine ⟨(wm hb P5 az).1,fun hl pl dZ=>?_⟩
   obtain ⟨D,full,h1,Y,h3,h4⟩:=bh p snap hb az hl
   unfold place at dZ ⊢
   rw[hR] at dZ
   rw[P6]
   obtain ⟨H',aL,h5,h6⟩:=h4 p pl h1 dZ
   refine ⟨H',aL,h5,fun h7=>h6 ?_⟩
   rcases h7 with ⟨h7,h8⟩ | h7
   ·exact (Y h8).imp (fun h=>⟨h,h7⟩) id
   ·exact .inr (h3 h7)
  ·rw[St.ok,No r' B6]
   refine ⟨hb,fun az=>⟨az,fun hl pl dZ=>⟨pl.H,pl.cs,?_,fun _=>rfl⟩⟩⟩
   have ai:=mV dZ
   exact nM (h.dx r' ai) (mW r' B6) rfl lL (fun b i hp=>(vm r' ai B6 b i hp).1) dZ
 have i_:∀ b i,X2 b i+ay σ.n (ca F r B5) b i<=X b i+ay σ.n F b i:=fun b i=>by
  have:=lZ F hr B5 b i;have:=hx b i;omega
 refine ⟨by rw[hn];exact h.size,h.defers,fun i hi=>?_,fun d r' p snap hm=>kx.gd gL (h.gh d r' p snap (HS _ hm)),fun b i=>by rw[hn];exact Nat.le_trans (i_ b i) (h.iP b i),fun b i hp ha=>?_,
  fun b i hp=>?_,fun i=>?_,h.ext.trans hw fun b i hb hz=>?_,fun b i hp=>by rw[hn] at hp;exact h.own b i (Nat.le_trans hp (i_ b i)),fun b i ha=>hA b i (h.a0 b i ha),fun b i ha=>?_,
  fun j k hm=>h.it j k (tH _ hm),fun r' t m H v hg hl=>?_,fun j k hm R' dO=>?_⟩
 ·rw[hn] at hi
  by_cases xT:i=r
  ·subst xT;simp only[ca,if_true];exact hs
  ·simp only[ca,if_neg xT]
   rw[mW i xT]
   exact ba.gd gL hA lL hw.pt (vm i hi xT) (h.dx i hi)
 ·rw[hn] at hp
  rcases HT b i ha with ha | ⟨h1,Y⟩
  ·exact h.jx b i (Nat.le_trans hp (i_ b i)) ha
  ·have h3:=h.iP b i
   have h4:=lZ F hr B5 b i
   omega
 ·rw[hn] at hp
  refine Nat.lt_of_lt_of_le (h.ez b i ?_) hw.size
  rcases hp with hp | ha
  ·exact .inl (Nat.le_trans hp (i_ b i))
  ·rcases HT b i ha with ha | ⟨h1,_⟩
   ·exact .inr ha
   ·exact .inl (Nat.le_trans h1 (hle b i))
 ·by_cases xT:i=r
  ·subst xT;exact vl
  ·rw[No i xT];exact h.fD i
 ·rcases Nat.eq_zero_or_pos (X b i+F r b i) with h0 | h0
  ·exact h0
  ·have:=h.own b i (Nat.le_trans h0 (hle b i));omega
 ·rcases HT b i ha with ha | ⟨h1,_⟩
  ·exact h.a1 b i ha
  ·exact .inr (h.own b i (Nat.le_trans h1 (hle b i)))
 ·have:∃ m0 H0 v0,σ.get r'=.box t m0 H0 v0:=by
   by_cases B6:r'=r
   ·subst B6;exact JJ t m H v hg
   ·rw[mW r' B6] at hg;exact ⟨m,H,v,hg⟩
  obtain ⟨m0,H0,v0,Nq⟩:=this
  obtain ⟨b,h1,Y⟩:=h.whole r' t m0 H0 v0 Nq fun k hm=>hl k (Np _ _ hm)
  exact ⟨b,h1,hw.pt _ _ Y⟩
 ·by_cases HU:j=r
  ·subst HU
   rw[P6] at dO
   injection dO with dO
   subst dO
   show bm R.t bn=_
   rw[ry k hm]
   exact h.gE j k (tH _ hm) R hR
  ·rcases Nat.lt_or_ge j σ.n with hj | hj
   ·rw[mW j HU] at dO
    have ig:=h.dx j hj
    cases nC:bp w (tmp a j) (σ.get j) with
    | none=>exfalso;cases hg:σ.get j <;> rw[hg] at nC dO <;> simp only[bp] at nC dO <;> first | (cases dO;done) | (cases nC;done) | (split at nC <;> simp_all)
    | some R0=>
     rw[oV ig (fun b i hp=>(vm j hj HU b i hp).1) nC] at dO
     injection dO with dO
     subst dO
     exact h.gE j k (tH _ hm) _ nC
   ·rw[fk (by rw[hn];omega)] at dO;cases dO
end
end OT
set_option linter.unusedVariables false
set_option linter.unusedSimpArgs false
namespace OT
open Go
def dr (ad:Option (Nat×Nat)) (n:Nat):FP:=fun b i=>match ad with
 | some (b',o)=>bq b' o n b i
 | none=>0
section
variable {P:Program} {C:Ctx} {A:Cells} {X:FP} {σ:St} {a:Act} {w:World} {F:Nat->FP} {R:Type} {x:R}
theorem xU {r:Nat} {K:(t:Ty)->Md->List Path->t.den->Option R} (h:oP σ r K=some x) :
  r < σ.n/\∃ t m H v,(σ.get r=.own t m H v\/σ.get r=.box t m H v)/\K t m H v=some x:=by
 unfold oP at h
 rcases Nat.lt_or_ge r σ.n with hr | hr
 ·refine ⟨hr,?_⟩
  split at h
  ·rename_i t m H v hg;exact ⟨t,m,H,v,.inl hg,h⟩
  ·rename_i t m H v hg;exact ⟨t,m,H,v,.inr hg,h⟩
  ·cases h
 ·rw[fk (Nat.not_lt.2 hr)] at h;cases h
structure Nr (P:Program) (A:Cells) (σ:St) (a:Act) (w:World) (r:Nat) (G:FP) (t:Ty) (m:Md) (H:List Path) (v:t.den) (cs:List Value) (ad:Option (Nat×Nat)) (F1:FP):Prop where
 root:bp w (tmp a r) (σ.get r)=some ⟨t,H,cs,ad⟩
 rep:aj P w A t m H v cs F1
 le:∀ b i,dr ad t.sz b i+F1 b i<=G b i
 has:∀ b o,ad=some (b,o)->Has w b o cs
 ql:∀ b o,ad=some (b,o)->∀ j,j < t.sz->w.frozen? ⟨b,o+j,none⟩=false
 val:ad=none->tmp a r=bm t cs/\σ.get r=.own t m H v
 ptr:∀ b o,ad=some (b,o)->tmp a r=.pointer (some ⟨b,o,none⟩)/\σ.get r=.box t m H v
theorem ba.root {r:Nat} {G:FP} (h:ba P A σ a w (tmp a r) (σ.get r) G) {t:Ty} {m:Md} {H:List Path} {v:t.den} (hg:σ.get r=.own t m H v\/σ.get r=.box t m H v) :
  ∃ cs ad F1,Nr P A σ a w r G t m H v cs ad F1:=by
 rcases hg with hg | hg
 ·rw[hg] at h
  obtain ⟨cs,h1,Y⟩:=h
  refine ⟨cs,none,G,by rw[hg];simp only[bp,h1,fE (aj.length t Y) (aj.one t Y)],Y,fun b i=>by simp[dr],(fun b o h=>by cases h),(fun b o h=>by cases h),fun _=>⟨h1,hg⟩,(fun b o h=>by cases h)⟩
 ·rw[hg] at h
  obtain ⟨b,o,L,F1,h1,Y,h3,h4,h5,h6⟩:=h
  refine ⟨L,some (b,o),F1,by rw[hg,h1];simp only[bp,bB h3 Y],h6,fun b i=>h5 b i,?_,?_,(fun h=>by cases h),?_⟩
  ·intro b' o' e;simp only[Option.some.injEq,Prod.mk.injEq] at e;obtain ⟨rfl,rfl⟩:=e;exact h3
  ·intro b' o' e;simp only[Option.some.injEq,Prod.mk.injEq] at e;obtain ⟨rfl,rfl⟩:=e;exact h4
  ·intro b' o' e;simp only[Option.some.injEq,Prod.mk.injEq] at e;obtain ⟨rfl,rfl⟩:=e;exact ⟨h1,hg⟩
theorem fw (h:Rel P C A X σ a w F) {r:Nat} {p:Path} {K:(t:Ty)->Md->List Path->t.den->Option R} (hk:jG σ r p K=some x) :
  r < σ.n/\∃ (t':Ty) (m':Md) (H':List Path) (v':t'.den) (aL:List Value) (a_:Option (Nat×Nat)) (F':FP),K t' m' H' v'=some x/\(∀ {S:Type} (K0:(t:Ty)->Md->List Path->t.den->Option S),jG σ r p K0=K0 t' m' H' v')/\place σ a w r p=some ⟨t',H',aL,a_⟩/\aj P w A t' m' H' v' aL F' /\
   (∀ b i,F' b i<=F r b i)/\(∀ b o,a_=some (b,o)->Has w b o aL):=by
 obtain ⟨hr,t,m,H,v,hg,hk⟩:=xU hk
 obtain ⟨cs,ad,F1,RO⟩:=(h.dx r hr).root hg
 obtain ⟨t',m',H',v',aL,a_,F',h1,hn,Y,h3,h4,h5,_⟩:=Nc p t hk RO.rep (ad:=ad) RO.has
 refine ⟨hr,t',m',H',v',aL,a_,F',h1,fun K0=>?_,?_,h3,fun b i=>by have:=h4 b i;have:=RO.le b i;omega,h5⟩
 ·unfold jG oP
  rcases hg with hg | hg <;> rw[hg] <;> exact hn K0
 unfold place
 rw[RO.root];exact Y
theorem pM (r:Nat) (t:Ty) (m:Md) (H:List Path) (v:t.den) (i:Nat) (h:i≠r):(σ.d7 r t m H v).get i=σ.get i:=by
 unfold St.d7
 split <;> rw[wo,if_neg (fun e=>h e.1.symm)]
theorem oW {r:Nat} (hr:r < σ.n) {t t0:Ty} {m m0:Md} {H H0:List Path} {v0:t0.den} (v:t.den) (h:σ.get r=.own t0 m0 H0 v0):(σ.d7 r t m H v).get r=.own t m H v:=by
 unfold St.d7
 rw[h];simp only[];rw[wo,if_pos ⟨rfl,hr⟩]
theorem oX {r:Nat} (hr:r < σ.n) {t t0:Ty} {m m0:Md} {H H0:List Path} {v0:t0.den} (v:t.den) (h:σ.get r=.box t0 m0 H0 v0):(σ.d7 r t m H v).get r=.box t m H v:=by
 unfold St.d7
 rw[h];simp only[];rw[wo,if_pos ⟨rfl,hr⟩]
theorem mX (r:Nat) (t:Ty) (m:Md) (H:List Path) (v:t.den):(σ.d7 r t m H v).n=σ.n:=by unfold St.d7;split <;> rfl
theorem kd (r:Nat) (t:Ty) (m:Md) (H:List Path) (v:t.den) (i:Nat):(σ.d7 r t m H v).eS i=σ.eS i:=by unfold St.d7;split <;> rfl
theorem lO (r:Nat) (t:Ty) (m:Md) (H:List Path) (v:t.den):(σ.d7 r t m H v).av=σ.av:=by unfold St.d7;split <;> rfl
theorem tI (r:Nat) (t:Ty) (m:Md) (H:List Path) (v:t.den):(σ.d7 r t m H v).gh=σ.gh:=by unfold St.d7;split <;> rfl
def jY (σ σ':St):Prop:=∀ (w:World) (tv:Value) (i:Nat) (R:Pl),bp w tv (σ'.get i)=some R->∃ H,bp w tv (σ.get i)=some ⟨R.t,H,R.cs,R.ad⟩
theorem jY.refl (σ:St):jY σ σ:=fun w tv i R h=>⟨R.H,h⟩
theorem jY.trans {σ σ' pC:St} (h:jY σ σ') (h':jY σ' pC):jY σ pC:=by
 intro w tv i R0 hR
 obtain ⟨H,h1⟩:=h' w tv i R0 hR
 exact h w tv i ⟨R0.t,H,R0.cs,R0.ad⟩ h1
theorem qm {r:Nat} (hr:r < σ.n) {t:Ty} {m m0:Md} {H H0:List Path} {v0:t.den} (v:t.den) (h:σ.get r=.own t m0 H0 v0\/σ.get r=.box t m0 H0 v0) {σ':St} (hg:∀ i,σ'.get i=(σ.d7 r t m H v).get i):jY σ σ':=by
 intro w tv i R hR
 rw[hg] at hR
 by_cases hi:i=r
 ·subst hi
  rcases h with h | h
  ·rw[oW hr v h] at hR
   rw[h]
   simp only[bp,Option.some.injEq] at hR ⊢
   subst hR
   exact ⟨H0,rfl⟩
  ·rw[oX hr v h] at hR
   rw[h]
   simp only[bp] at hR ⊢
   split at hR
   ·injection hR with hR;subst hR;exact ⟨H0,rfl⟩
   ·cases hR
 ·rw[pM r t m H v i hi] at hR
  exact ⟨R.H,hR⟩
structure JK (σ:St) (r:Nat) (s:Slot) (Ns:Prop) (σ':St):Prop where
 n:σ'.n=σ.n
 get:∀ i,i≠r->σ'.get i=σ.get i
 root:σ'.get r=s
 eS:∀ i,i≠r->σ'.eS i=σ.eS i
 below:Below (σ.eS r) (σ'.eS r)
 fD:(σ'.eS r).length=5
 av:∀ e,e ∈ σ'.av->e ∈ σ.av
 Lk:∀ j k,(j,k,false) ∈ σ.av->(j,k,false) ∈ σ'.av
 gh:∀ e,e ∈ σ'.gh->e ∈ σ.gh
 head:∀ k,(r,k,true) ∈ σ'.av->Ns
theorem Rel.F7 (h:Rel P C A X σ a w F) {r:Nat} {p:Path} {f:(t':Ty)->Md->List Path->t'.den->(Md->List Path->t'.den->Option R)->Option R}
  {Kf:(t:Ty)->Md->List Path->t.den->Option R} (hk:oP σ r (fun t0 m0 H0 v0=>kw p t0 m0 H0 v0 f fun m' H' v'=>Kf t0 m' H' v')=some x) :
  r < σ.n/\∃ (t':Ty) (m':Md) (H':List Path) (v':t'.den) (aL:List Value) (a_:Option (Nat×Nat)) (F':FP) (kk:Md->List Path->t'.den->Option R),
   f t' m' H' v' kk=some x/\(∀ {S:Type} (K0:(t:Ty)->Md->List Path->t.den->Option S),jG σ r p K0=K0 t' m' H' v')/\place σ a w r p=some ⟨t',H',aL,a_⟩/\aj P w A t' m' H' v' aL F' /\
   (∀ b i,dr a_ t'.sz b i+F' b i<=F r b i)/\(∀ b o,a_=some (b,o)->Has w b o aL)/\(∀ b o,a_=some (b,o)->∀ j,j < t'.sz->w.frozen? ⟨b,o+j,none⟩=false) /\
   ∀ m2 H2 (v2:t'.den),kk m2 H2 v2=some x->∀ (w2:World) (A2:Cells) (bn:List Value) (F2 X2:FP),
    Ext w w2 (fun b i=>X b i+(F' b i+dr a_ t'.sz b i))->(∀ b i,A b i->A2 b i)->(∀ b i,A2 b i->A b i\/(1<=X b i+F' b i/\X2 b i+F2 b i=0)) ->
    (∀ b i,X2 b i+F2 b i<=X b i+F' b i)->(∀ b o,a_=some (b,o)->Has w2 b o bn)->(a_=none->bn=aL)->aj P w2 A2 t' m2 H2 v2 bn F2 ->
    ∃ (t0:Ty) (m3:Md) (H3:List Path) (v3:t0.den) (Fr:FP) (A3:Cells),Kf t0 m3 H3 v3=some x/\(∃ (m0:Md) (H0:List Path) (v0:t0.den),σ.get r=.own t0 m0 H0 v0\/σ.get r=.box t0 m0 H0 v0)/\(∀ b i,A2 b i->A3 b i)/\(∀ b i,Fr b i<=F r b i+X b i) /\
     ∀ σ',JK σ r ((σ.d7 r t0 m3 H3 v3).get r) (1<=br p\/bn=aL) σ' ->
      (∀ (p':Path) (snap:List Nat),Below snap (σ.eS r)->σ'.ok r snap=true->(snap.length=min 5 (1+br p')\/snap.length=min 5 (2+br p')\/snap.length=5) ->
       ∃ D full,br p'<=D+br p/\(snap.length=min 5 (2+br p')->br p' < D+br p\/full)/\(snap.length=5->full)/\kQ D full w t' H' aL a_ w2 H2 bn) ->
      Rel P C A3 X2 σ' a w2 (ca F r Fr):=by
 obtain ⟨hr,t,m,H,v,hg,hk⟩:=xU hk
 obtain ⟨cs,ad,F1,RO⟩:=(h.dx r hr).root hg
 have qx:∀ b i,X b i+F r b i<=1:=fun b i=>by have:=h.iP b i;have:=bk F hr b i;omega
 have tE:∀ b o,ad=some (b,o)->∀ j,j < t.sz->F1 b (o+j)=0:=fun b o e j hj=>by
  have h1:=RO.le b (o+j);have Y:=qx b (o+j)
  rw[e] at h1
  simp[dr,bq,hj] at h1
  omega
 obtain ⟨t',m',H',v',aL,a_,F',G,kk,loc,M⟩:=Nd p t hk RO.rep (fun b i=>by have:=qx b i;have:=RO.le b i;omega) RO.has tE
 have hlen:=aj.length t RO.rep
 have xV:∀ b i,dr a_ t'.sz b i+F' b i<=F r b i/\(1<=dr a_ t'.sz b i->1<=G b i\/1<=dr ad t.sz b i)/\dr a_ t'.sz b i<=1:=fun b i=>by
  have h1:=M.sum b i;have Y:=RO.le b i;have h3:=qx b i
  cases c8:a_ with
  | none=>simp only[dr];omega
  | some bo=>
   obtain ⟨b0,o0⟩:=bo
   simp only[dr,bq]
   split
   ·rename_i dY
    obtain ⟨rfl,Nt,Nu⟩:=dY
    cases loc with
    | none=>
     obtain ⟨b',o',e1,e2⟩:=M.out rfl
     rw[c8] at e1
     simp only[Option.some.injEq,Prod.mk.injEq] at e1
     obtain ⟨rfl,rfl⟩:=e1
     have:=(e2 (i - o0) (by omega)).1
     rw[show o0+(i - o0)=i by omega] at this
     omega
    | some off=>
     obtain ⟨e1,e2,e3⟩:=M.mt off rfl
     cases nG:ad with
     | none=>rw[c8,nG] at e3;cases e3
     | some y=>
      rw[c8,nG] at e3
      simp only[cG,Option.map_some,Option.some.injEq,Prod.mk.injEq] at e3
      obtain ⟨rfl,rfl⟩:=e3
      have mT:bq y.1 y.2 t.sz y.1 i=1:=by simp[bq];omega
      rw[nG] at Y
      simp only[dr,mT] at Y ⊢
      simp only[bq] at mT
      omega
   ·omega
 refine ⟨hr,t',m',H',v',aL,a_,F',kk,M.run,fun K0=>?_,by unfold place;rw[RO.root];exact M.place,M.rep,fun b i=>(xV b i).1,M.has,fun b o e j hj=>?_,?_⟩
 ·unfold jG oP
  rcases hg with hg | hg <;> rw[hg] <;> exact M.HM K0
 ·cases loc with
  | none=>
   obtain ⟨b',o',e1,e2⟩:=M.out rfl
   rw[e] at e1
   simp only[Option.some.injEq,Prod.mk.injEq] at e1
   obtain ⟨rfl,rfl⟩:=e1
   exact (e2 j hj).2
  | some off=>
   obtain ⟨e1,e2,e3⟩:=M.mt off rfl
   cases nG:ad with
   | none=>rw[e,nG] at e3;cases e3
   | some y=>
    rw[e,nG] at e3
    simp only[cG,Option.map_some,Option.some.injEq,Prod.mk.injEq] at e3
    obtain ⟨rfl,rfl⟩:=e3
    have:=RO.ql y.1 y.2 nG (off+j) (by omega)
    rwa [<-Nat.add_assoc] at this
 intro m2 H2 v2 Ac w2 A2 bn F2 X2 ci hA HT hX vn FZ wr
 have oA:=aj.length t' wr
 have lL:∀ b i,A b i->∀ u,ce w b i=some u->ce w2 b i=some u:=fun b i ha u hu=>by
  refine ci.cell b i (h.ez b i (.inr ha)) ?_ u hu
  have h1:=(xV b i).1
  have Y:=bk F hr b i
  have h3:=h.jx b i
  show X b i+(F' b i+dr a_ t'.sz b i)=0
  rcases Nat.eq_zero_or_pos (X b i+ay σ.n F b i) with h0 | h0
  ·omega
  ·exact absurd ha (h3 h0)
 have P7:∀ b i,1<=G b i\/1<=dr ad t.sz b i->(∀ o,a_=some (b,o)->¬ (o<=i/\i < o+t'.sz))->∀ u,ce w b i=some u->ce w2 b i=some u:=fun b i hp hn u hu=>by
  have h1:=xV b i;have Y:=qx b i;have h3:=M.sum b i;have h4:=RO.le b i
  refine ci.cell b i (h.ez b i (.inl (by have:=bk F hr b i;omega))) ?_ u hu
  show X b i+(F' b i+dr a_ t'.sz b i)=0
  have h5:dr a_ t'.sz b i=0:=by
   cases c8:a_ with
   | none=>rfl
   | some bo=>
    obtain ⟨b0,o0⟩:=bo
    simp only[dr,bq]
    split
    ·rename_i dY
     obtain ⟨rfl,Nt,Nu⟩:=dY
     exact absurd ⟨Nt,Nu⟩ (hn o0 c8)
    ·rfl
  omega
 have O_:∀ b i,F2 b i+G b i<=1:=fun b i=>by
  have:=hX b i;have:=M.sum b i;have:=RO.le b i;have:=qx b i;omega
 obtain ⟨m3,H3,v3,F3,k1,k2,k3,k4⟩:=M.back m2 H2 v2 Ac w2 A2 bn F2 ci.pt hA lL (fun b i hp hn=>P7 b i (.inl hp) hn) vn wr O_
 have HV:(fa loc cs t'.sz bn).length=t.sz:=by
  cases loc with
  | none=>exact hlen
  | some off=>have:=(M.mt off rfl).1;simp only[fa];rw[nr (by omega) oA,hlen]
 have oT:bn=aL->fa loc cs t'.sz bn=cs:=fun e=>by
  cases loc with
  | none=>rfl
  | some off=>
   obtain ⟨e1,e2,_⟩:=M.mt off rfl
   rw[e,e2];exact ru (by omega)
 have F8:∀ b o,ad=some (b,o)->Has w2 b o (fa loc cs t'.sz bn):=fun b o e=>by
  have cells:∀ j u,cs[j]?=some u->(∀ o',a_=some (b,o')->¬ (o'<=o+j/\o+j < o'+t'.sz))->ce w2 b (o+j)=some u:=fun j u hu hn=>by
   have hj:j < t.sz:=hlen ▸ (List.getElem?_eq_some_iff.1 hu).1
   exact P7 b (o+j) (.inr (by rw[e];simp[dr,bq,hj])) hn u (RO.has b o e j u hu)
  cases B7:loc with
  | none=>
   intro j u hu
   refine cells j u hu fun o' he dY=>?_
   have hj:j < t.sz:=hlen ▸ (List.getElem?_eq_some_iff.1 hu).1
   obtain ⟨b',Uq,e1,e2⟩:=M.out B7
   rw[he] at e1
   simp only[Option.some.injEq,Prod.mk.injEq] at e1
   obtain ⟨rfl,rfl⟩:=e1
   have h1:=(e2 (o+j - o') (by omega)).1
   rw[show o'+(o+j - o')=o+j by omega] at h1
   have Y:=RO.le b (o+j);have h3:=qx b (o+j);have h4:=M.sum b (o+j)
   rw[e] at Y
   simp[dr,bq,hj] at Y
   omega
  | some off=>
   obtain ⟨e1,e2,e3⟩:=M.mt off B7
   rw[e] at e3
   simp only[cG,Option.map_some] at e3
   exact EU (by omega) oA (vn b (o+off) e3) (fun j u hu hn=>cells j u hu fun o' he dY=>by
    rw[e3] at he
    simp only[Option.some.injEq,Prod.mk.injEq] at he
    omega)
 refine ⟨t,m3,H3,v3,fun b i=>dr ad t.sz b i+F3 b i,fun b i=>A2 b i\/(1<=F2 b i+G b i/\F3 b i=0),k1,⟨m,H,v,hg⟩,fun _ _ h=>.inl h,fun b i=>?_,fun σ' on bh=>?_⟩
 ·have h1:=k2 b i;have Y:=hX b i;have h3:=M.sum b i;have h4:=RO.le b i
  show dr ad t.sz b i+F3 b i<=_
  omega
 have F9:=k3 (fun b i=>A2 b i\/(1<=F2 b i+G b i/\F3 b i=0)) (fun _ _ h=>.inl h) (fun b i h1 Y=>.inr ⟨h1,Y⟩)
 have Bn:ba P (fun b i=>A2 b i\/(1<=F2 b i+G b i/\F3 b i=0)) σ' a w2 (tmp a r) (σ'.get r) (fun b i=>dr ad t.sz b i+F3 b i)/\bp w2 (tmp a r) (σ'.get r)=some ⟨t,H3,fa loc cs t'.sz bn,ad⟩:=by
  rw[on.root]
  cases nG:ad with
  | none=>
   obtain ⟨e1,e2⟩:=RO.val nG
   have e3:fa loc cs t'.sz bn=cs:=by
    cases B7:loc with
    | none=>rfl
    | some off=>
     have:=(M.mt off B7).2.2
     rw[nG] at this
     rw[<-B7];exact oT (FZ this)
   rw[oW hr v3 e2]
   rw[e3] at F9 ⊢
   exact ⟨⟨cs,e1,aj.le F9 (fun b i=>by show F3 b i<=dr none t.sz b i+F3 b i;omega)⟩,by simp only[bp,e1,fE hlen (aj.one t RO.rep)]⟩
  | some bo=>
   obtain ⟨b,o⟩:=bo
   obtain ⟨e1,e2⟩:=RO.ptr b o nG
   rw[oX hr v3 e2,e1]
   have hh:=F8 b o nG
   refine ⟨⟨b,o,_,F3,rfl,HV,hh,fun j hj=>?_,fun b' i=>?_,F9⟩,by simp only[bp,bB hh HV]⟩
   ·have hb:b < w.heap.size:=h.ez b (o+j) (.inl (by
     have h1:=RO.le b (o+j);have Y:=bk F hr b (o+j)
     rw[nG] at h1
     simp[dr,bq,hj] at h1
     omega))
    rw[ci.ql b (o+j) hb]
    exact RO.ql b o nG j hj
   ·exact Nat.le_refl _
 refine h.Sg hr on.n on.get on.eS on.below on.fD on.av on.Lk on.gh Bn.1 RO.root Bn.2 (fun p' snap h1 Y h3=>?_) (fun b i ha=>.inl (hA b i ha)) (fun b i ha=>?_) (fun b i=>?_) (ci.mono fun b i hz=>?_) (fun t5 m5 H5 v5 HW=>?_) (fun k hm=>?_)
 ·obtain ⟨D,full,q1,q2,q3,q4⟩:=bh p' snap h1 Y h3
  exact ⟨D+br p,full,q1,q2,q3,k4 D full q4⟩
 ·have h1:=hX b i;have Y:=k2 b i;have h3:=M.sum b i;have h4:=RO.le b i;have h5:=qx b i
  rcases ha with ha | ⟨Sh,Si⟩
  ·rcases HT b i ha with ha | ⟨Sh,Si⟩
   ·exact .inl ha
   ·right;omega
  ·right;omega
 ·have h1:=hX b i;have Y:=k2 b i;have h3:=M.sum b i;have h4:=RO.le b i
  show X2 b i+(dr ad t.sz b i+F3 b i)<=_
  omega
 ·have h1:=(xV b i).1
  show X b i+(F' b i+dr a_ t'.sz b i)=0
  omega
 ·rw[on.root] at HW
  rcases hg with hg | hg
  ·rw[oW hr v3 hg] at HW;cases HW
  ·rw[oX hr v3 hg] at HW
   injection HW with e1 e2 e3 e4
   subst e1
   exact ⟨_,_,_,hg⟩
 ·rcases on.head k hm with hp | he
  ·rw[M.FY hp];rfl
  ·exact oT he
end
end OT
set_option linter.unusedVariables false
set_option linter.unusedSimpArgs false
namespace OT
open Go
theorem aj.Ll {P:Program} {w:World} {A:Cells}:∀ (t:Ty) {m:Md} {v:t.den} {cs:List Value} {F:FP},aj P w A t m [] v cs F->aj P w A t m (lJ t) v cs (fun _ _=>0):=by
 intro t
 induction t with
 | pair a b ey eg=>
  intro m v cs F h
  obtain ⟨_,F1,F2,hs,h1,Y⟩:=h
  refine ⟨by rw[lJ,ly,jN,jN];rfl,fun _ _=>0,fun _ _=>0,fun _ _=>Nat.le_refl _,?_,?_⟩
  ·rw[lJ,List.filterMap_append,mq,mR,List.append_nil];exact ey h1
  ·rw[lJ,List.filterMap_append,mS,mr,List.nil_append];exact eg Y
 | U e ih=>
  intro m v cs F h
  have h1:=aj.length _ h
  have Y:=aj.one _ h
  match cs,h1 with
  | [y],_=>simp only[aj,lJ,hole,List.any_cons,List.isEmpty_nil,Bool.true_or,if_true];exact ⟨y,rfl,Y y (by simp)⟩
 | ptr e ih=>
  intro m v cs F h
  have h1:=aj.length _ h
  have Y:=aj.one _ h
  match cs,h1 with
  | [y],_=>simp only[aj,lJ,hole,List.any_cons,List.isEmpty_nil,Bool.true_or,if_true];exact ⟨y,rfl,Y y (by simp)⟩
 | arr n e ih=>intro m v cs F h;rw[lJ,h.2.1];exact h
 | map k v=>
  intro m v cs F h
  have h1:=aj.length _ h
  have Y:=aj.one _ h
  match cs,h1 with
  | [y],_=>simp only[aj,lJ,hole,List.any_cons,List.isEmpty_nil,Bool.true_or,if_true];exact ⟨y,rfl,Y y (by simp)⟩
 | _=>intro m v cs F h;exact h
section
variable {P:Program} {C:Ctx} {A:Cells} {X:FP} {σ:St} {a:Act} {w:World} {F:Nat->FP} {R:Type} {x:R}
structure At (σ:St) (r:Nat) (p:Path) (t:Ty) (m:Md) (H:List Path) (v:t.den):Prop where
 eq:∀ {S:Type} (K0:(t:Ty)->Md->List Path->t.den->Option S),jG σ r p K0=K0 t m H v
theorem At.inj {r:Nat} {p:Path} {t t':Ty} {m m':Md} {H H':List Path} {v:t.den} {v':t'.den} (h:At σ r p t m H v) (h':At σ r p t' m' H' v'):t=t'/\m=m'/\H=H'/\HEq v v':=by
 have h1:=h.eq (fun t m H v=>some (⟨t,m,H,v⟩:(t:Ty)×Md×List Path×t.den))
 rw[h'.eq] at h1
 injection h1 with h1
 injection h1 with h1 Y
 subst h1
 have Y:=eq_of_heq Y
 simp only[Prod.mk.injEq] at Y
 exact ⟨rfl,Y.1.symm,Y.2.1.symm,heq_of_eq Y.2.2.symm⟩
theorem xW (σ:St) (r d:Nat):(σ.head r d).n=σ.n:=by unfold St.head;split <;> rfl
theorem rz (σ:St) (r d i:Nat):(σ.head r d).get i=σ.get i:=by unfold St.head;split <;> rfl
theorem rA (σ:St) (r d i:Nat):(σ.head r d).eS i=σ.eS i:=by unfold St.head;split <;> rfl
theorem EW (σ:St) (r d:Nat):(σ.head r d).gh=σ.gh:=by unfold St.head;split <;> rfl
theorem B8 {r d:Nat} {f:List Nat->List Nat} (h1:Below (σ.eS r) (f (σ.eS r))) (Y:(f (σ.eS r)).length=5) {t:Ty} {m:Md} {H:List Path} {v:t.den} {q:Prop} (hq:1<=d->q) :
  JK σ r ((σ.d7 r t m H v).get r) q (((σ.d7 r t m H v).fh r f).head r d) where
 n:=by rw[xW];exact mX r t m H v
 get i hi:=by rw[rz];exact pM r t m H v i hi
 root:=by rw[rz];rfl
 eS i hi:=by rw[rA,jX,if_neg (fun e=>hi e.symm),kd]
 below:=by rw[rA,jX,if_pos rfl,kd];exact h1
 fD:=by rw[rA,jX,if_pos rfl,kd];exact Y
 av e he:=by
  unfold St.head at he
  split at he
  ·have:=(xR he).1;simp only[St.fh,lO] at this;exact this
  ·simp only[St.fh,lO] at he;exact he
 Lk j k hm:=by
  unfold St.head
  split
  ·refine F6 ?_;simp only[St.fh,lO];exact hm
  ·simp only[St.fh,lO];exact hm
 gh e he:=by rw[EW] at he;simp only[St.fh,tI] at he;exact he
 head k hm:=by
  unfold St.head at hm
  split at hm
  ·exact absurd ⟨rfl,rfl⟩ (xR hm).2
  ·rename_i hd;exact hq (Nat.pos_of_ne_zero hd)
theorem B9 (h:Rel P C A X σ a w F) {r:Nat} {p:Path} {K:St->Option R} (hk:qC σ r p K=some x) {t':Ty} {m':Md} {v':t'.den} (hn:At σ r p t' m' [] v') :
  ∃ (A':Cells) (σ':St) (F':Nat->FP) (cs:List Value) (ad:Option (Nat×Nat)) (Fv:FP),K σ'=some x/\(∀ b i,A b i->A' b i)/\Rel P C A' (fun b i=>X b i+Fv b i) σ' a w F'/\σ'.n=σ.n/\jY σ σ' /\
   place σ a w r p=some ⟨t',[],cs,ad⟩/\aj P w A t' m' [] v' cs Fv/\∀ b i,Fv b i<=F r b i:=by
 obtain ⟨hr,t1,m1,H1,v1,cs,ad,Fv,kk,h1,Y,h3,h4,h5,h6,h7,h8⟩:=h.F7 hk
 obtain ⟨e1,e2,e3,e4⟩:=hn.inj ⟨Y⟩
 subst e1;subst e2;subst e3
 have e4:=eq_of_heq e4
 subst e4
 obtain ⟨t0,m3,H3,v3,Fr,A3,k1,⟨m0,H0,v0,k0⟩,k2,k3,k4⟩:=h8 _ _ _ h1 w A cs (fun _ _=>0) (fun b i=>X b i+Fv b i) (Ext.refl _ _) (fun _ _ h=>h) (fun _ _ h=>.inl h) (fun b i=>Nat.le_refl _) h6 (fun _=>rfl) (aj.Ll _ h4)
 refine ⟨A3,_,_,cs,ad,Fv,k1,k2,k4 _ (B8 (mU _ (h.fD r)) (tG _ (h.fD r)) .inl) (fun p' snap hb az hl=>?_),?_,qm hr v3 k0 (fun i=>by rw[rz];rfl),h3,h4,fun b i=>by have:=h5 b i;omega⟩
 ·refine ⟨0,False,?_,?_,?_,kQ.zero (A:=A) ad (aj.Ll _ h4)⟩
  all_goals
   unfold St.ok at az
   rw[rA,jX,if_pos rfl,kd] at az
   have:=vk (br p) (h.fD r) hb az
  ·omega
  ·intro;left;omega
  ·omega
 ·rw[xW];exact mX _ _ _ _ _
theorem zB (h:Rel P C A X σ a w F) {r:Nat} {p:Path} {K:St->Option R} (hk:qC σ r p K=some x) {t':Ty} {m':Md} {v':t'.den} (hn:At σ r p t' m' [] v') :
  ∃ (A':Cells) (σ':St) (F':Nat->FP) (cs:List Value) (ad:Option (Nat×Nat)) (Fv:FP),K σ'=some x/\(∀ b i,A b i->A' b i)/\Rel P C A' (fun b i=>X b i+Fv b i) σ' a w F'/\σ'.n=σ.n/\jY σ σ' /\
   place σ a w r p=some ⟨t',[],cs,ad⟩/\aj P w A t' m' [] v' cs Fv:=
 have ⟨A',σ',F',cs,ad,Fv,h1,Y,h3,h4,h5,h6,h7,_⟩:=B9 h hk hn
 ⟨A',σ',F',cs,ad,Fv,h1,Y,h3,h4,h5,h6,h7⟩
theorem Ad {r:Nat} (hv:(σ.eS r).length=5) {t:Ty} {m:Md} {H:List Path} {v:t.den} {q:Prop} (hq:q):JK σ r ((σ.d7 r t m H v).get r) q (σ.d7 r t m H v):=
 ⟨mX _ _ _ _ _,fun i hi=>pM _ _ _ _ _ i hi,rfl,fun i _=>kd _ _ _ _ _ i,by rw[kd];exact Below.refl _,by rw[kd];exact hv,
  fun e he=>by rw[lO] at he;exact he,fun j k hm=>by rw[lO];exact hm,fun e he=>by rw[tI] at he;exact he,fun _ _=>hq⟩
theorem DY (h:Rel P C A X σ a w F) {r:Nat} {p:Path} {m2:Md} {K:St->Option R} (hk:ou σ r p m2 K=some x) :
  ∃ (A':Cells) (σ':St) (F':Nat->FP),K σ'=some x/\(∀ b i,A b i->A' b i)/\Rel P C A' X σ' a w F'/\σ'.n=σ.n/\jY σ σ':=by
 obtain ⟨hr,t1,m1,H1,v1,cs,ad,Fv,kk,h1,Y,h3,h4,h5,h6,h7,h8⟩:=h.F7 hk
 have qx:∀ b i,X b i+F r b i<=1:=fun b i=>by have:=h.iP b i;have:=bk F hr b i;omega
 split at h1
 ·rename_i hc
  simp only[Bool.and_eq_true,List.isEmpty_iff] at hc
  obtain ⟨rfl,hc⟩:=hc
  obtain ⟨F1,B_,cI⟩:=aj.fits _ hc h4 (fun b i=>by have:=h5 b i;have:=qx b i;omega)
  have Bo:=cI (fun b i=>A b i\/(1<=Fv b i/\F1 b i=0)) (fun _ _ h=>.inl h) (fun b i h1 Y=>.inr ⟨h1,Y⟩)
  obtain ⟨t0,m3,H3,v3,Fr,A3,k1,⟨m0,H0,v0,k0⟩,k2,k3,k4⟩:=h8 _ _ _ h1 w (fun b i=>A b i\/(1<=Fv b i/\F1 b i=0)) cs F1 X (Ext.refl _ _) (fun _ _ h=>.inl h)
   (fun b i ha=>ha.imp id fun ⟨h1,Y⟩=>⟨by omega,by have:=h5 b i;have:=qx b i;omega⟩) (fun b i=>by have:=B_ b i;omega) h6 (fun _=>rfl) Bo
  exact ⟨A3,_,_,k1,fun b i ha=>k2 b i (.inl ha),k4 _ (Ad (h.fD r) (.inr rfl)) (fun p' snap hb az hl=>⟨br p'+1,True,by omega,fun _=>.inr trivial,fun _=>trivial,
   kQ.same ad h4 (fun _ _ _ _ h=>h) (fun _ _ _ _ h=>h) _ True⟩),mX _ _ _ _ _,qm hr v3 k0 (fun i=>rfl)⟩
 ·cases h1
theorem vo (h:Rel P C A X σ a w F) {r:Nat} {p:Path} {K:St->Option R} (hk:qX σ r p K=some x) :
  ∃ (A':Cells) (σ':St) (F':Nat->FP) (t':Ty) (m':Md) (v':t'.den) (cs:List Value) (ad:Option (Nat×Nat)),K σ'=some x/\(∀ b i,A b i->A' b i)/\Rel P C A' X σ' a w F'/\σ'.n=σ.n/\jY σ σ' /\
   At σ r p t' m' [] v'/\place σ a w r p=some ⟨t',[],cs,ad⟩/\Ro P w A' t' v' cs:=by
 obtain ⟨hr,t1,m1,H1,v1,cs,ad,Fv,kk,h1,Y,h3,h4,h5,h6,h7,h8⟩:=h.F7 hk
 have qx:∀ b i,X b i+F r b i<=1:=fun b i=>by have:=h.iP b i;have:=bk F hr b i;omega
 split at h1
 ·rename_i hc
  simp only[Bool.and_eq_true,List.isEmpty_iff] at hc
  obtain ⟨rfl,hc⟩:=hc
  have lK:Ro P w (fun b i=>A b i\/1<=Fv b i) t1 v1 cs:=aj.oS (fun _ _ h=>.inl h) t1 h4 (fun b i hp=>.inr hp)
  obtain ⟨t0,m3,H3,v3,Fr,A3,k1,⟨m0,H0,v0,k0⟩,k2,k3,k4⟩:=h8 _ _ _ h1 w (fun b i=>A b i\/1<=Fv b i) cs (fun _ _=>0) X (Ext.refl _ _) (fun _ _ h=>.inl h)
   (fun b i ha=>ha.imp id fun h1=>⟨by omega,by have:=h5 b i;have:=qx b i;omega⟩) (fun b i=>by omega) h6 (fun _=>rfl) (Ro.rep _ _ (cZ _) lK)
  exact ⟨A3,_,_,t1,m1,v1,cs,ad,k1,fun b i ha=>k2 b i (.inl ha),k4 _ (Ad (h.fD r) (.inr rfl)) (fun p' snap hb az hl=>⟨br p'+1,True,by omega,fun _=>.inr trivial,fun _=>trivial,
   kQ.same ad h4 (fun _ _ _ _ h=>h) (fun _ _ _ _ h=>h) _ True⟩),mX _ _ _ _ _,qm hr v3 k0 (fun i=>rfl),⟨Y⟩,h3,Ro.mono (fun _ _ _ _ h=>h) k2 _ lK⟩
 ·cases h1
theorem bb {t t':Ty} {v:t.den} {K:t'.den->Option R} (h:d_ t t' v K=some x):∃ e:t=t',K (e ▸ v)=some x:=by
 unfold d_ at h
 split at h
 ·rename_i e;exact ⟨e,h⟩
 ·cases h
theorem s7 (h:Rel P C A X σ a w F) {r:Nat} {p:Path} {t:Ty} {m:Md} {v:t.den} {K:St->Option R} (hk:nF σ r p t m v K=some x) :
  r < σ.n/\∃ (m':Md) (H':List Path) (v':t.den) (cs:List Value) (ad:Option (Nat×Nat)) (F':FP),At σ r p t m' H' v'/\place σ a w r p=some ⟨t,H',cs,ad⟩/\aj P w A t m' H' v' cs F' /\
   (∀ b i,dr ad t.sz b i+F' b i<=F r b i)/\(∀ b o,ad=some (b,o)->Has w b o cs/\∀ j,j < t.sz->w.frozen? ⟨b,o+j,none⟩=false) /\
   ∀ (w2:World) (A2:Cells) (bn:List Value) (Fv X2:FP),Ext w w2 (fun b i=>X b i+(F' b i+dr ad t.sz b i))->(∀ b i,A b i->A2 b i)->(∀ b i,A2 b i->A b i\/(1<=X b i+F' b i/\X2 b i+Fv b i=0)) ->
    (∀ b i,X2 b i+Fv b i<=X b i+F' b i)->(∀ b o,ad=some (b,o)->Has w2 b o bn)->(ad=none->bn=cs)->aj P w2 A2 t m [] v bn Fv ->
    ∃ (A3:Cells) (σ':St) (Fr:FP),K σ'=some x/\(∀ b i,A2 b i->A3 b i)/\Rel P C A3 X2 σ' a w2 (ca F r Fr)/\σ'.n=σ.n /\
     ∀ g:List Nat->List Nat,Below (σ.eS r) (g (σ.eS r))->(g (σ.eS r)).length=5->bn=cs ->
      (∀ (p':Path) (snap:List Nat),Below snap (σ.eS r)->preB snap (g (σ.eS r))=true->(snap.length=min 5 (1+br p')\/snap.length=min 5 (2+br p')\/snap.length=5) ->
       ∃ D full,br p'<=D+br p/\(snap.length=min 5 (2+br p')->br p' < D+br p\/full)/\(snap.length=5->full)/\kQ D full w t H' cs ad w2 [] bn) ->
      Rel P C A3 X2 { σ' with vr:=(σ.fh r g).vr,av:=σ.av } a w2 (ca F r Fr):=by
 obtain ⟨hr,t1,m1,H1,v1,cs,ad,Fv,kk,h1,Y,h3,h4,h5,h6,h7,h8⟩:=h.F7 hk
 obtain ⟨e,h1⟩:=bb h1
 subst e
 refine ⟨hr,m1,H1,v1,cs,ad,Fv,⟨Y⟩,h3,h4,h5,fun b o e=>⟨h6 b o e,h7 b o e⟩,fun w2 A2 bn Sj X2 g1 g2 g3 g4 g5 g6 g7=>?_⟩
 obtain ⟨t0,m3,H3,v3,Fr,A3,k1,⟨m0,H0,v0,k0⟩,k2,k3,k4⟩:=h8 m [] v h1 w2 A2 bn Sj X2 g1 g2 g3 g4 g5 g6 g7
 refine ⟨A3,_,Fr,k1,k2,k4 _ (B8 ?_ ?_ .inl) (fun p' snap hb az hl=>?_),?_,fun g Sk Sl lS bh=>?_⟩
 ·split
  ·exact pL (h.fD r)
  ·exact mU _ (h.fD r)
 ·split
  ·exact vj (h.fD r)
  ·exact tG _ (h.fD r)
 ·unfold St.ok at az
  rw[rA,jX,if_pos rfl,kd] at az
  by_cases hf:t.flat=true
  ·rw[if_pos hf] at az
   have:=xd (h.fD r) hb az
   exact ⟨br p'+1,False,by omega,fun _=>.inl (by omega),fun _=>by omega,kQ.flat (A:=A) ad g7 hf _⟩
  ·rw[if_neg hf] at az
   have:=vk (br p) (h.fD r) hb az
   exact ⟨0,False,by omega,fun _=>.inl (by omega),fun _=>by omega,kQ.zero (A:=A) ad g7⟩
 ·rw[xW];exact mX _ _ _ _ _
 ·refine k4 _ ⟨by rw[xW];exact mX _ _ _ _ _,fun i hi=>?_,?_,fun i hi=>?_,?_,?_,fun e he=>he,fun j k hm=>hm,fun e he=>?_,fun _ _=>.inr lS⟩ (fun p' snap hb az hl=>bh p' snap hb ?_ hl)
  ·show (((σ.d7 r t0 m3 H3 v3).fh r _).head r _).get i=_
   rw[rz];exact pM r t0 m3 H3 v3 i hi
  ·show (((σ.d7 r t0 m3 H3 v3).fh r _).head r _).get r=_
   rw[rz];rfl
  ·show (σ.fh r g).eS i=σ.eS i
   rw[jX,if_neg (fun e=>hi e.symm)]
  ·show Below _ ((σ.fh r g).eS r)
   rw[jX,if_pos rfl];exact Sk
  ·show ((σ.fh r g).eS r).length=5
   rw[jX,if_pos rfl];exact Sl
  ·have he:e ∈ (((σ.d7 r t0 m3 H3 v3).fh r _).head r _).gh:=he
   rw[EW] at he;simp only[St.fh,tI] at he;exact he
  ·have az:preB snap ((σ.fh r g).eS r)=true:=az
   rw[jX,if_pos rfl] at az;exact az
end
end OT
set_option linter.unusedVariables false
set_option linter.unusedSimpArgs false
namespace OT
open Go
section
variable {P:Program} {C:Ctx} {A:Cells} {X:FP} {σ:St} {a:Act} {w:World} {F:Nat->FP} {R:Type} {x:R}
theorem Rel.grow (h:Rel P C A X σ a w F) {w1:World} (hw:Ext w w1 (fun _ _=>0)) {A1:Cells} {X1:FP} (hA:∀ b i,A b i->A1 b i)
  (vp:∀ b i,A1 b i->A b i\/(w.heap.size<=b/\b < w1.heap.size/\X1 b i=0)) (hX:∀ b i,X1 b i<=X b i\/(w.heap.size<=b/\b < w1.heap.size/\X1 b i<=1)):Rel P C A1 X1 σ a w1 F:=by
 have lL:∀ b i,A b i->∀ u,ce w b i=some u->ce w1 b i=some u:=fun b i ha u hu=>hw.cell b i (h.ez b i (.inr ha)) rfl u hu
 have Ca:∀ b i,w.heap.size<=b->ay σ.n F b i=0:=fun b i hb=>by
  rcases Nat.eq_zero_or_pos (ay σ.n F b i) with h0 | h0
  ·exact h0
  ·have:=h.ez b i (.inl (by omega));omega
 have vm:∀ j,j < σ.n->∀ b i,1<=F j b i->(∀ u,ce w b i=some u->ce w1 b i=some u)/\w1.frozen? ⟨b,i,none⟩=w.frozen? ⟨b,i,none⟩:=fun j hj b i hp=>by
  have hb:=h.ez b i (.inl (by have:=bk F hj b i;omega))
  exact ⟨fun u hu=>hw.cell b i hb rfl u hu,hw.ql b i hb⟩
 have gL:pA σ a w σ a w1:=fun r p snap hb=>⟨hb,fun az=>⟨az,fun hl pl dZ=>⟨pl.H,pl.cs,by
  have ai:=mV dZ
  exact nM (h.dx r ai) rfl rfl lL (fun b i hp=>(vm r ai b i hp).1) dZ,fun _=>rfl⟩⟩⟩
 refine ⟨h.size,h.defers,fun i hi=>ba.gd gL hA lL hw.pt (vm i hi) (h.dx i hi),fun d r p snap hm=>kx.gd gL (h.gh d r p snap hm),fun b i=>?_,fun b i hp ha=>?_,fun b i hp=>?_,
  h.fD,h.ext.trans hw (fun _ _ _ _=>rfl),fun b i hp=>?_,fun b i ha=>hA b i (h.a0 b i ha),fun b i ha=>?_,h.it,fun r t m H v hg hl=>?_,fun j k hm R' dO=>?_⟩
 ·have h1:=h.iP b i
  rcases hX b i with Y | ⟨Y,h3,h4⟩
  ·omega
  ·have:=Ca b i Y;omega
 ·rcases vp b i ha with ha | ⟨h1,Y,h3⟩
  ·have ai:=h.ez b i (.inr ha)
   rcases hX b i with Y | ⟨Y,_⟩
   ·exact h.jx b i (by omega) ha
   ·omega
  ·have:=Ca b i h1;omega
 ·rcases hp with hp | ha
  ·rcases hX b i with Y | ⟨Y,h3,_⟩
   ·exact Nat.lt_of_lt_of_le (h.ez b i (.inl (by omega))) hw.size
   ·exact h3
  ·rcases vp b i ha with ha | ⟨h1,Y,h3⟩
   ·exact Nat.lt_of_lt_of_le (h.ez b i (.inr ha)) hw.size
   ·exact Y
 ·rcases hX b i with Y | ⟨Y,_⟩
  ·exact h.own b i (by omega)
  ·exact .inr (Nat.le_trans h.ext.size Y)
 ·rcases vp b i ha with ha | ⟨h1,_⟩
  ·exact h.a1 b i ha
  ·exact .inr (.inr (Nat.le_trans h.ext.size h1))
 ·obtain ⟨b,h1,Y⟩:=h.whole r t m H v hg hl
  exact ⟨b,h1,hw.pt _ _ Y⟩
 ·rcases Nat.lt_or_ge j σ.n with hj | hj
  ·have ig:=h.dx j hj
   cases nC:bp w (tmp a j) (σ.get j) with
   | none=>exfalso;cases hg:σ.get j <;> rw[hg] at nC dO <;> simp only[bp] at nC dO <;> first | (cases dO;done) | (cases nC;done) | (split at nC <;> simp_all)
   | some R0=>
    rw[oV ig (fun b i hp=>(vm j hj b i hp).1) nC] at dO
    injection dO with dO
    subst dO
    exact h.gE j k hm _ nC
  ·rw[fk (Nat.not_lt.2 hj)] at dO;cases dO
def bu (P:Program):Operand->Bool
 | .func f=>(P.funcs[f]?).any (·.nfree == 0)
 | _=>true
theorem cd (h:Rel P C A X σ a w F) {o:Operand} (ho:bu P o=true):ba P A σ a w (a.eval o) (bA σ o) (fun _ _=>0)\/∃ xs,bA σ o=.kO xs:=by
 cases o with
 | tmp i=>
  show ba P A σ a w (tmp a i) _ _\/_
  rcases Nat.lt_or_ge i σ.n with hi | hi
  ·have hs:=h.dx i hi
   simp only[bA]
   cases hg:σ.get i with
   | own t m H v=>
    rw[hg] at hs
    obtain ⟨cs,h1,Y⟩:=hs
    left
    have dZ:place σ a w i []=some ⟨t,H,cs,none⟩:=by
     unfold place;rw[hg];simp only[bp,h1,fE (aj.length t Y) (aj.one t Y),Option.bind_some,aH]
    have h5:=h.fD i
    refine ⟨?_,fun _=>⟨_,dZ,h1,?_⟩⟩
    ·unfold ox
     split
     ·intro j y hj;rw[List.getElem?_take] at hj;split at hj;exact ⟨y,hj,Nat.le_refl _⟩;cases hj
     ·intro j y hj;rw[List.getElem?_take] at hj;split at hj;exact ⟨y,hj,Nat.le_refl _⟩;cases hj
     ·exact Below.refl _
    ·unfold ox
     split
     ·left;simp[nV,br,h5]
     ·left;simp[nV,br,h5]
     ·right;exact h5
   | box t m H v=>
    rw[hg] at hs
    obtain ⟨b,o,L,F1,h1,Y,h3,h4,h5,h6⟩:=hs
    left
    have Sm:=h.fD i
    refine ⟨?_,fun _=>⟨⟨t,H,L,some (b,o)⟩,b,o,?_,rfl,h1,by simp[ov,br,Sm]⟩⟩
    ·unfold ov
     intro j y hj;rw[List.getElem?_take] at hj;split at hj;exact ⟨y,hj,Nat.le_refl _⟩;cases hj
    ·unfold place;rw[hg,h1];simp only[bp,bB h3 Y,Option.bind_some,aH]
   | kO xs=>exact .inr ⟨xs,rfl⟩
   | dead=>exact .inl trivial
   | oN=>rw[hg] at hs;exact .inl hs
   | val t v=>rw[hg] at hs;exact .inl hs
   | cp t v=>rw[hg] at hs;exact .inl hs
   | ref r p snap=>rw[hg] at hs;exact .inl hs
   | ptr r p snap=>rw[hg] at hs;exact .inl hs
   | sub r p snap lo hi=>rw[hg] at hs;exact .inl hs
  ·simp only[bA,fk (Nat.not_lt.2 hi)];exact .inl trivial
 | const v=>
  left
  show ba P A σ a w v (pX v) _
  unfold pX
  split
  ·split
   ·rename_i hn;exact ⟨[_],rfl,by simp only[Ro,jp];rw[hn]⟩
   ·trivial
  ·exact ⟨[_],rfl,rfl⟩
  ·exact ⟨[_],rfl,rfl⟩
  ·exact ⟨[_],rfl,rfl⟩
  ·exact ⟨[_],rfl,rfl⟩
  ·exact ⟨[_],rfl,rfl⟩
  ·exact ⟨[_],rfl,by simp[Ro]⟩
  ·rfl
  ·trivial
 | func f=>
  left
  simp only[bu,Option.any_eq_true,beq_iff_eq] at ho
  obtain ⟨fn,h1,Y⟩:=ho
  exact ⟨[_],rfl,#[],rfl,fn,h1,.inl ⟨Y,rfl⟩⟩
 | global g=>exact .inl trivial
def AO (A:Cells) (σ:St) (F:Nat->FP):Cells:=fun b i=>A b i\/1<=ay σ.n F b i
theorem bz (t:Ty) (y:Value) (h:isAgg t=false):bm t [y]=y:=by simp[bm,h]
theorem Ro.piece {e:Ty} {v:List e.den} {xa:Option Addr} {n cap lo hi cap':Nat} {nD:Option Addr} (h:Ro P w A (.U e) v [.slice xa n cap]) (h1:lo<=hi) (Y:hi<=n) (h3:cap'+lo=cap) (h4:xa=none->nD=none)
  (h5:∀ ad,xa=some ad->∃ a_,nD=some a_/\a_.spot=ad.spot/\a_.block=ad.block/\(lo < hi->a_.off=ad.off+lo*e.sz)) :
  Ro P w A (.U e) ((v.take hi).drop lo) [.slice nD (hi - lo) cap']:=by
 obtain ⟨a0,Rb,g1,g2,g3,g4⟩:=h
 simp only[List.cons.injEq,Value.slice.injEq,and_true] at g1
 obtain ⟨rfl,rfl,rfl⟩:=g1
 have hlen:List.length ((v.take hi).drop lo)=hi - lo:=by simp;omega
 refine ⟨nD,cap',by rw[hlen],by rw[hlen];omega,fun hn=>?_,fun a_ w8=>?_⟩
 ·rw[hlen]
  cases rB:xa with
  | none=>have:=g3 rB;omega
  | some ad=>obtain ⟨a_,e1,_⟩:=h5 ad rB;rw[hn] at e1;cases e1
 ·cases rB:xa with
  | none=>rw[h4 rB] at w8;cases w8
  | some ad=>
   obtain ⟨sf,e1,e2,e3,e4⟩:=h5 ad rB
   rw[w8] at e1
   injection e1 with e1
   subst e1
   obtain ⟨f1,f2⟩:=g4 ad rB
   refine ⟨fun hp=>e2.trans (f1 (by omega)),fun i y hy=>?_⟩
   have fj:i < hi - lo:=by have:=(List.getElem?_eq_some_iff.1 hy).1;omega
   rw[List.getElem?_drop,List.getElem?_take] at hy
   split at hy
   ·obtain ⟨L,l1,l2,l3⟩:=f2 _ _ hy
    refine ⟨L,l1,fun j u hu=>?_,l3⟩
    rw[e3,e4 (by omega)]
    have:=l2 j u hu
    rw[Nat.add_mul,<- Nat.add_assoc ad.off] at this
    exact this
   ·cases hy
def AR (A:Cells) (F:Nat->FP) (rs:List Nat):Cells:=fun b i=>A b i\/∃ r ∈ rs,1<=F r b i
theorem Ae (h:Rel P C A X σ a w F) {s:Slot} {tv:Value} {G:FP} (hs:ba P A σ a w tv s G) {t:Ty} {K:t.den->Option R} (hk:kK σ s t K=some x) :
  ∃ (v:t.den) (cs:List Value),K v=some x/\tv=bm t cs/\Ro P w (AR A F (gk s)) t v cs:=by
 have EX:∀ b i,A b i->AR A F (gk s) b i:=fun b i ha=>.inl ha
 have oT:∀ b i,A b i->∀ u,ce w b i=some u->ce w b i=some u:=fun _ _ _ _ h=>h
 cases s with
 | val t' v=>
  obtain ⟨e,hk⟩:=bb hk;subst e
  obtain ⟨cs,h1,Y⟩:=hs
  exact ⟨v,cs,hk,h1,Ro.mono oT EX _ Y⟩
 | cp t' v=>
  obtain ⟨e,hk⟩:=bb hk;subst e
  exact ⟨v,[tv],hk,(bz _ _ rfl).symm,Ro.mono oT EX _ hs⟩
 | oN=>
  simp only[kK] at hk
  split at hk
  ·rename_i t e
   have hs:tv=.slice none 0 0:=hs
   subst hs
   exact ⟨[],_,hk,(bz _ _ rfl).symm,none,0,rfl,Nat.le_refl _,fun _=>rfl,fun ad c8=>by cases c8⟩
  ·cases hk
 | ref r p snap=>
  simp only[kK] at hk
  split at hk
  ·rename_i az
   obtain ⟨hr,t',m',H',v',aL,a_,F',h1,Y,h3,h4,h5,h6⟩:=fw h hk
   obtain ⟨pl,g1,g2,g3⟩:=hs.2 az
   rw[h3] at g1
   injection g1 with g1
   subst g1
   split at h1
   ·rename_i hH
    have hH:=List.isEmpty_iff.1 hH;subst hH
    obtain ⟨e,h1⟩:=bb h1;subst e
    exact ⟨v',aL,h1,g2,aj.oS EX _ h4 (fun b i hp=>.inr ⟨r,List.mem_singleton.2 rfl,by have:=h5 b i;omega⟩)⟩
   ·cases h1
  ·cases hk
 | sub r p snap lo hi=>
  simp only[kK] at hk
  split at hk
  ·rename_i az
   obtain ⟨hr,t',m',H',v',aL,a_,F',h1,Y,h3,h4,h5,h6⟩:=fw h hk
   obtain ⟨pl,e,xa,n,cap,nD,cap',g1,g2,g3,g4,g5,g6,g7,Cb,g8,g9,g10⟩:=hs.2 az
   rw[h3] at g1
   injection g1 with g1
   subst g1
   simp only at g2 g3
   subst g2;subst g3
   split at h1
   ·rename_i hH
    have hH:=List.isEmpty_iff.1 hH;subst hH
    obtain ⟨e',h1⟩:=bb h1;subst e'
    exact ⟨_,_,h1,by rw[bz _ _ rfl];exact g6,Ro.piece (aj.oS EX _ h4 (fun b i hp=>.inr ⟨r,List.mem_singleton.2 rfl,by have:=h5 b i;omega⟩)) g4 g5 g7 g8 g9⟩
   ·cases h1
  ·cases hk
 | ptr r p snap=>
  simp only[kK] at hk
  split at hk
  ·rename_i az
   obtain ⟨hr,t',m',H',v',aL,a_,F',h1,Y,h3,h4,h5,h6⟩:=fw h hk
   obtain ⟨pl,b,o,g1,g2,g3,g4⟩:=hs.2 az
   rw[h3] at g1
   injection g1 with g1
   subst g1
   split at h1
   ·rename_i hH
    have hH:=List.isEmpty_iff.1 hH;subst hH
    obtain ⟨e',h1⟩:=bb h1;subst e'
    simp only at g2
    subst g2
    refine ⟨v',[tv],h1,(bz _ _ rfl).symm,⟨b,o,none⟩,by rw[g3],rfl,aL,aj.length _ h4,fun j u hu=>⟨h6 b o rfl j u hu,?_⟩,
     aj.oS EX _ h4 (fun b i hp=>.inr ⟨r,List.mem_singleton.2 rfl,by have:=h5 b i;omega⟩)⟩
    have hj:j < t'.sz:=aj.length _ h4 ▸ (List.getElem?_eq_some_iff.1 hu).1
    unfold place at h3
    cases hR:bp w (tmp a r) (σ.get r) with
    | none=>rw[hR] at h3;cases h3
    | some R0=>
     rw[hR] at h3
     obtain ⟨m0,v0,F1,q1,q2,q3,_⟩:=qF (h.dx r hr) hR
     exact HL EX p R0.t q1 (fun b i hp=>.inr ⟨r,List.mem_singleton.2 rfl,by have:=q2 b i;omega⟩) (fun b' o' e' j hj=>.inr ⟨r,List.mem_singleton.2 rfl,by
      have:=(q3 b' o' e').2.1 b' (o'+j)
      simp[bq,hj] at *;omega⟩) h3 b o rfl j hj
   ·cases h1
  ·cases hk
 | _=>simp[kK] at hk
theorem vq (h:Rel P C A X σ a w F) {s:Slot} {t:Ty} {K:t.den->Option R} (hk:kK σ s t K=some x):∀ r ∈ gk s,r < σ.n:=by
 intro r hr
 cases s <;> simp only[gk,List.mem_singleton,List.not_mem_nil] at hr
 all_goals
  subst hr
  simp only[kK] at hk
  split at hk
  ·exact (fw h hk).1
  ·cases hk
theorem EY (h:Rel P C A X σ a w F) {s:Slot} {tv:Value} {G:FP} (hs:ba P A σ a w tv s G) {t:Ty} {K:t.den->Option R} (hk:kK σ s t K=some x) :
  ∃ (v:t.den) (cs:List Value),K v=some x/\tv=bm t cs/\Ro P w (AO A σ F) t v cs:=by
 obtain ⟨v,cs,h1,Y,h3⟩:=Ae h hs hk
 refine ⟨v,cs,h1,Y,Ro.mono (fun _ _ _ _ h=>h) (fun b i ha=>?_) t h3⟩
 rcases ha with ha | ⟨r,hr,hp⟩
 ·exact .inl ha
 ·have:=bk F (vq h hk r hr) b i
  exact .inr (by omega)
end
end OT
