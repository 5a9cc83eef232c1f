/- The proof's parts, merged: The pure interpreter of the model s code over owned trees  definitions alone, nothing is claimed here.. No conditions but those that each states. -/
import GoSem.Core.Code
import GoSem.Core.View
import Derived.Laws.IdiomCopy
import Derived.Laws.Cells
import Derived.Laws.AppendOwn
import Derived.Calls
import Derived.Lib.LaidTab
import Derived.Lib.ItoaNum
import Derived.Laws.Entries
import Derived.Laws.NewFold
import Derived.Laws.Sem
namespace OT
open Go
theorem Bys {p:Prop} (h:p:=by omega):p:=h
set_option linter.defProp false
def aA:=@Option.bind_some
def aB:=@List.getElem?_eq_getElem
def aC:=@Bool.and_eq_true
def aD:=@Int.toNat_natCast
def aE:=@cond_false
def aF:=@Bool.false_eq_true
def aG:=@Nat.le_refl
def aH:=@if_pos
def aI:=@decide_false
def aJ:=@List.getElem_mem
def aK:=@decide_eq_false
def aL:=@if_true
def aM:=@cond_true
def aN:=@if_neg
def aO:=@List.getElem?_eq_some_iff
def aP:=@decide_true
def aQ:=@Option.some.injEq
def aR:=@Int.natCast_nonneg
def aS:=@decide_eq_true
def aU:=@if_false
def aV:=@Eq.trans
def aW:=@Bool.not_true
def aX:=@Nat.zero_le
def aY:=@Int.lt_irrefl
def aZ:=@List.mem_cons
def bA:=@List.mem_cons_of_mem
def bB:=@Nat.le_trans
def bC:=@List.mem_singleton
def bD:=@Nat.mul_le_mul_right
def bE:=@decide_eq_true_eq
def bF:=@List.mem_cons_self
def bG:=@List.mem_append
def bH:=@List.isEmpty_iff
def bI:=@List.length_cons
def bJ:=@List.all_eq_true
def bK:=@Nat.eq_zero_or_pos
def bL:=@List.getElem_of_mem
def bM:=@List.pairwise_iff_getElem
def bN:=@Prod.mk.injEq
def bO:=@Bool.not_false
def bP:=@List.getElem?_drop
def bQ:=@List.length_append
def bR:=@Option.map_some
def bS:=@Nat.zero_add
def bT:=@List.mem_of_getElem?
def bU:=@List.any_nil
def bV:=@List.append_assoc
def bW:=@List.length_set
def bX:=@List.eq_nil_of_length_eq_zero
def bZ:=@List.mem_of_mem_drop
def cA:=@List.take_append_drop
def cB:=@Bool.not_eq_true'
def cC:=@List.length_drop
def cD:=@List.mem_range
def cE:=@List.length_nil
def cG:=@List.getElem?_take
def cH:=@Array.getElem?_eq_some_iff
def cI:=@List.drop_eq_getElem_cons
def cJ:=@List.nil_append
def cK:=@List.mem_append_right
def cL:=@List.length_replicate
def cM:=@List.mem_flatMap
def cN:=@Bool.or_eq_true
def cO:=@List.nodup_cons
def cP:=@and_self
def cQ:=@List.isEmpty_nil
def cR:=@Nat.lt_or_ge
def cS:=@List.filterMap_append
def cT:=@List.getElem?_append_left
def cU:=@List.mem_of_find?_eq_some
def cV:=@congrArg
def cW:=@Nat.add_assoc
def cX:=@List.mem_of_mem_take
def cY:=@List.cons_append
def cZ:=@List.append_nil
def dA:=@Nat.lt_of_lt_of_le
def dB:=@Nat.eq_of_beq_eq_true
def dC:=@Nat.add_mul
def dD:=@List.mem_iff_getElem
def dE:=@List.nodup_append
def dF:=@List.drop_drop
def dG:=@List.length_take
def dH:=@Int.le_refl
def dI:=@Nat.le_of_eq
def dJ:=@Int.eq_ofNat_of_zero_le
def dK:=@Nat.ble_eq
def dL:=@List.count_pos_iff
def dM:=@List.pairwise_cons
def dN:=@List.getD_eq_getElem?_getD
def dP:=@List.cons.injEq
def dQ:=@Bool.false_or
def dR:=@List.not_mem_nil
def dT:=@List.mem_map
def dU:=@List.flatMap_cons
def dV:=@Array.getElem?_toList
def dW:=@List.map_cons
def dX:=@Nat.le_of_lt
def dY:=@decide_eq_false_iff_not
def dZ:=@List.getElem?_cons_zero
def eA:=@List.mem_append_left
def eB:=@Bool.true_and
def eC:=@List.ext_getElem?
def eD:=@List.drop_zero
def eE:=@Array.getElem?_eq_none
def eF:=@List.length_range
def eG:=@List.flatMap_append
def eH:=@List.mem_or_eq_of_mem_set
def eI:=@List.set_getElem_self
def eJ:=@List.take_length
def eK:=@List.filterMap_nil
def eL:=@List.any_eq_true
def eM:=@Nat.add_zero
def eN:=@Option.isSome_iff_exists
def eO:=@List.all_cons
def eP:=@Nat.succ_mul
def eQ:=@true_and
def eR:=@not_false_eq_true
def eS:=@List.foldl_cons
def eU:=@and_true
def eV:=@List.findIdx?_eq_some_iff_findIdx_eq
def eW:=@Nat.beq_eq
def eX:=@List.getElem?_append_right
def eY:=@List.find?_eq_none
def eZ:=@Nat.div_lt_iff_lt_mul
def fA:=@List.mem_iff_getElem?
def fB:=@List.getElem?_map
def fC:=@List.getElem?_set
def fD:=@of_decide_eq_true
def fE:=@List.drop_take
def fF:=@List.take_take
def fG:=@List.nodup_nil
def fH:=@Option.map_eq_some_iff
def fI:=@List.drop_of_length_le
def fJ:=@List.getElem_cons_drop
def fK:=@List.map_append
def fL:=@Bool.eq_false_iff
def fM:=@not_true_eq_false
def fN:=@UInt8.toNat_lt
def fO:=@List.range_eq_range'
def fP:=@Array.getElem?_append_left
def fQ:=@List.filter_cons
def fR:=@Bool.eq_iff_iff
def fS:=@UInt8.toNat_inj
def fT:=@Nat.not_lt
def fU:=@Nat.lt_or_gt_of_ne
def fV:=@Classical.axiomOfChoice
def fW:=@List.pairwise_singleton
def fX:=@List.getElem?_replicate
def fY:=@List.drop_eq_nil_of_le
def fZ:=@List.pairwise_map
def gA:=@List.take_succ_eq_append_getElem
def gB:=@or_false
def gC:=@List.take_of_length_le
def gD:=@List.replicate_append_replicate
def gE:=@List.getElem?_eq_none
def gF:=@Array.getElem?_modify
def gG:=@List.singleton_append
def gH:=@List.getElem_set_self
def gI:=@eq_of_heq
def gJ:=@Nat.le_add_right
def gK:=@List.perm_middle
def gL:=@List.any_cons
def gM:=@List.take_append_of_le_length
def gN:=@List.drop_append_of_le_length
def gO:=@List.pairwise_append
def gP:=@List.range_succ
def gQ:=@List.find?_some
def gR:=@List.getElem?_range
def gS:=@List.mem_map_of_mem
def gT:=@List.reverse_append
def gU:=@List.take_set_of_le
def gV:=@List.drop_set_of_lt
def gW:=@Bool.or_self
def gX:=@Array.getElem_setIfInBounds
def gY:=@Nat.beq_refl
def gZ:=@BitVec.toNat_ofInt
def hB:=@List.mem_filterMap
def hJ:=@Bool.and_false
def iA:=@Int.tdiv_eq_ediv_of_nonneg
def iB:=@List.nodup_iff_pairwise_ne
def iC:=@Bool.false_and
def iD:=@Array.getElem?_eq_getElem
def iE:=@List.mem_take_iff_getElem
def iG:=@List.size_toArray
def iH:=@Iff.rfl
def iI:=@List.getElem_drop
def iJ:=@List.foldl_append
def iK:=@List.getElem_take
def iL:=@Bool.and_self
def iM:=@Int.ediv_le_self
def iP:=@List.range'_succ
def iQ:=@List.flatMap_nil
def iR:=@Option.getD_some
def iS:=@Bool.true_or
def iT:=@Int.le_trans
def iU:=@List.map_nil
def iV:=@List.take_left'
def iW:=@List.drop_left'
def iX:=@Option.map_none
def iY:=@Int.ediv_nonneg
def iZ:=@Nat.min_le_left
def jA:=@List.find?_cons
def jB:=@Nat.min_eq_left
def jC:=@List.length_map
def jD:=@Nat.mul_one
def jE:=@List.take_zero
def jF:=@List.Perm.refl
def jG:=@beq_iff_eq
def jH:=@Nat.mod_lt
def jI:=@not_or
inductive Ty where
 | int (k:IntKind)
 | bool
 | str
 | unit
 | pair (a b:Ty)
 | arr (n:Nat) (e:Ty)
 | aa (e:Ty)
 | ptr (e:Ty)
 | fn
 | map (k v:Ty)
 deriving DecidableEq
@[reducible] def E5:IntKind->Type
 | .u8=>UInt8
 | _=>Int
@[reducible] def Ty.den:Ty->Type
 | .int k=>E5 k
 | .bool=>Bool
 | .str=>List UInt8
 | .unit=>Unit
 | .pair a b=>a.den×b.den
 | .arr _ e=>List e.den
 | .aa e=>List e.den
 | .ptr e=>e.den
 | .fn=>Nat×Int
 | .map k v=>List (k.den×v.den)
def Ty.sz:Ty->Nat
 | .unit=>0
 | .pair a b=>a.sz+b.sz
 | .arr n e=>n*e.sz
 | _=>1
def Ty.flat:Ty->Bool
 | .pair a b=>a.flat&&b.flat
 | .arr _ e=>e.flat
 | .aa _ | .ptr _ | .map _ _=>false
 | _=>true
def qR:(k:IntKind)->E5 k->Int
 | .u8,n=>(n.toNat:Int)
 | .i8,n=>n
 | .i16,n=>n
 | .i32,n=>n
 | .i64,n=>n
 | .u16,n=>n
 | .u32,n=>n
 | .u64,n=>n
def Hu:(k:IntKind)->Int->E5 k
 | .u8,n=>UInt8.ofInt n
 | .i8,n=>IntKind.wrap .i8 n
 | .i16,n=>IntKind.wrap .i16 n
 | .i32,n=>IntKind.wrap .i32 n
 | .i64,n=>IntKind.wrap .i64 n
 | .u16,n=>IntKind.wrap .u16 n
 | .u32,n=>IntKind.wrap .u32 n
 | .u64,n=>IntKind.wrap .u64 n
def inI:(k:IntKind)->Int->E5 k
 | .u8,n=>UInt8.ofInt n
 | .i8,n=>n
 | .i16,n=>n
 | .i32,n=>n
 | .i64,n=>n
 | .u16,n=>n
 | .u32,n=>n
 | .u64,n=>n
def Ty.zero:(t:Ty)->t.den
 | .int k=>inI k 0
 | .bool=>false
 | .str=>[]
 | .unit=>()
 | .pair a b=>(a.zero,b.zero)
 | .arr n e=>List.replicate n e.zero
 | .aa _=>[]
 | .ptr e=>e.zero
 | .fn=>(0,0)
 | .map _ _=>[]
def Ty.yf:Ty->Bool
 | .pair a b=>a.yf&&b.yf
 | .arr _ e=>e.yf
 | .ptr _ | .fn | .map _ _=>false
 | _=>true
def Ty.eq:(t:Ty)->t.den->t.den->Bool
 | .int .u8,a,b=>a == b
 | .int .i8,a,b=>decide (a=b)
 | .int .i16,a,b=>decide (a=b)
 | .int .i32,a,b=>decide (a=b)
 | .int .i64,a,b=>decide (a=b)
 | .int .u16,a,b=>decide (a=b)
 | .int .u32,a,b=>decide (a=b)
 | .int .u64,a,b=>decide (a=b)
 | .bool,a,b=>a == b
 | .str,a,b=>decide (a=b)
 | .pair x y,a,b=>x.eq a.1 b.1&&y.eq a.2 b.2
 | .arr _ e,a,b=>(a.zip b).all λp=>e.eq p.1 p.2
 | _,_,_=>true
def Ty.qc:Ty->Bool
 | .int _ | .bool | .str | .unit=>true
 | .pair a b=>a.qc&&b.qc
 | .arr _ e=>e.qc
 | _=>false
def Ty.sn:Ty->Bool
 | .pair a b=>a.sn&&b.sn
 | .arr _ e | .aa e | .ptr e=>e.sn
 | .map k v=>k.sn&&v.sn
 | .fn=>false
 | _=>true
inductive Md where
 | leaf
 | pair (a b:Md)
 | arr (e:Md)
 | aa (own:Bool) (e:Md)
 | ptr (own:Bool) (e:Md)
 deriving DecidableEq
def wU (own:Bool):Ty->Md
 | .pair a b=>.pair (wU own a) (wU own b)
 | .arr _ e=>.arr (wU own e)
 | .aa e=>.aa own (wU own e)
 | .ptr e=>.ptr own (wU own e)
 | .map _ _=>.aa own .leaf
 | _=>.leaf
abbrev ah:=wU false
abbrev ai:=wU true
def Md.l:Md->Md
 | .pair a _=>a
 | _=>.leaf
def Md.r:Md->Md
 | .pair _ b=>b
 | _=>.leaf
def Md.e:Md->Md
 | .arr e | .aa _ e | .ptr _ e=>e
 | _=>.leaf
def Md.own:Md->Bool
 | .aa o _ | .ptr o _=>o
 | _=>false
def Md.l8:Md->Bool
 | .leaf=>true
 | .pair a b=>a.l8&&b.l8
 | .arr e=>e.l8
 | .aa o e=>!o&&e.l8
 | .ptr o e=>!o&&e.l8
def fits:Md->Md->Bool
 | .leaf,.leaf=>true
 | .pair a b,.pair c d=>fits a c&&fits b d
 | .arr a,.arr b=>fits a b
 | .aa o a,.aa o' b=>(o||!o')&&(o'||b.l8)&&fits a b
 | .ptr o a,.ptr o' b=>(o||!o')&&(o'||b.l8)&&fits a b
 | _,_=>false
inductive Step where
 | fst
 | snd
 | idx (i:Nat)
 | sX (i:Nat)
abbrev Path:=List Step
def en:Path->Nat
 | []=>0
 | .idx _::p=>en p+1
 | _::p=>en p
structure LV where
 t:Ty
 m:Md
 v:t.den
inductive Slot where
 | dead
 | zn
 | val (t:Ty) (v:t.den)
 | cp (t:Ty) (v:t.den)
 | own (t:Ty) (m:Md) (H:List Path) (v:t.den)
 | box (t:Ty) (m:Md) (H:List Path) (v:t.den)
 | ref (r:Nat) (p:Path) (snap:List Nat)
 | sub (r:Nat) (p:Path) (snap:List Nat) (lo hi:Nat)
 | ptr (r:Nat) (p:Path) (snap:List Nat)
 | ug (xs:List LV)
structure St where
 n:Nat
 sl:List (Nat×Slot)
 vr:List (Nat×List Nat)
 az:List (Nat×Nat×Bool)
 gh:List (Nat×Nat×Path×List Nat):=[]
def pG {α:Type}:List (Nat×α)->Nat->Option α
 | [],_=>none
 | (k,x)::l,i=>if Nat.beq k i then some x else pG l i
def St.get (σ:St) (i:Nat):Slot:=if Nat.blt i σ.n then (match pG σ.sl i with | some s=>s | none=>.dead) else .dead
def St.mF (σ:St) (i:Nat):List Nat:=match pG σ.vr i with | some v=>v | none=>[0,0,0,0,0]
def uO:List Nat->List Nat:=λv=>v.map (·+1)
def wC (d:Nat):List Nat->List Nat
 | [b,x,y,z,w]=>match d with
  | 0=>[b,x+1,y,z,w+1]
  | 1=>[b,x,y+1,z,w+1]
  | 2=>[b,x,y,z+1,w+1]
  | _=>[b+1,x,y,z,w+1]
 | v=>uO v
def zo:List Nat->List Nat
 | [b,x,y,z,w]=>[b,x,y,z,w+1]
 | v=>uO v
def St.oG (σ:St) (i:Nat) (f:List Nat->List Nat):St:={ σ with vr:=(i,f (σ.mF i))::σ.vr }
def CO:List (Nat×Nat×Bool)->Nat->List (Nat×Nat×Bool)
 | [],_=>[]
 | (k,b)::l,i=>if Nat.beq k i then CO l i else (k,b)::CO l i
def QI:List (Nat×Nat×Path×List Nat)->Nat->List (Nat×Nat×Path×List Nat)
 | [],_=>[]
 | (d,x)::l,i=>if Nat.beq d i then QI l i else (d,x)::QI l i
def CP:List (Nat×Nat×Bool)->Nat->List (Nat×Nat×Bool)
 | [],_=>[]
 | (k,n,b)::l,i=>if Nat.beq k i&&b then CP l i else (k,n,b)::CP l i
def E6:List (Nat×Nat×Bool)->Nat->Nat->Bool->Bool
 | [],_,_,_=>false
 | (k,n,b)::l,i,j,c=>(Nat.beq k i&&Nat.beq n j&&(b == c))||E6 l i j c
def FN:List (Nat×Nat×Bool)->Nat->Bool
 | [],_=>false
 | (k,_,b)::l,i=>(Nat.beq k i&&!b)||FN l i
def LW:List (Nat×Nat×Bool)->Nat->Option Nat
 | [],_=>none
 | (k,n,b)::l,i=>if Nat.beq k i&&b then some n else LW l i
def St.put (σ:St) (i:Nat) (s:Slot):St:={ n:=σ.n,sl:=(i,s)::σ.sl,vr:=(i,uO (σ.mF i))::σ.vr,az:=CO σ.az i,gh:=QI σ.gh i }
def St.head (σ:St) (r d:Nat):St:=match d with
 | 0=>{ σ with az:=CP σ.az r }
 | _=>σ
def St.nx (σ:St) (i:Nat) (s:Slot):St:={ σ with sl:=(i,s)::σ.sl }
def St.cq (σ:St) (d:Option Tmp) (s:Slot):St:=match d with
 | some i=>σ.put i s
 | none=>σ
def preB:List Nat->List Nat->Bool
 | [],_=>true
 | a::x,b::y=>Nat.beq a b&&preB x y
 | _::_,[]=>false
section
variable {R:Type}
def kT (t t':Ty) (v:t.den) (K:t'.den->Option R):Option R:=
 if h:t=t' then K (h ▸ v) else none
def yq:Path->Option Path
 | .fst::p=>some p
 | _=>none
def yr:Path->Option Path
 | .snd::p=>some p
 | _=>none
def Aw (H:List Path) (i:Nat) (K:List Path->Option R):Option R:=
 match H with
 | []=>K []
 | [.idx j::q]=>if i=j then K [q] else none
 | _=>none
def qd:(p:Path)->(t:Ty)->Md->List Path->t.den->((t':Ty)->Md->List Path->t'.den->Option R)->Option R
 | [],t,m,H,v,K=>K t m H v
 | .fst::p,.pair a _,m,H,v,K=>if H.any (·.isEmpty) then none else qd p a m.l (H.filterMap yq) v.1 K
 | .snd::p,.pair _ b,m,H,v,K=>if H.any (·.isEmpty) then none else qd p b m.r (H.filterMap yr) v.2 K
 | .idx i::p,.aa e,m,H,v,K=>Aw H i λH'=>(v[i]?).bind λx=>qd p e m.e H' x K
 | .sX i::p,.arr _ e,m,H,v,K=>if H.isEmpty then (v[i]?).bind λx=>qd p e m.e [] x K else none
 | _,_,_,_,_,_=>none
def tI:(p:Path)->(t:Ty)->Md->List Path->t.den ->
    ((t':Ty)->Md->List Path->t'.den->(Md->List Path->t'.den->Option R)->Option R)->(Md->List Path->t.den->Option R)->Option R
 | [],t,m,H,v,f,K=>f t m H v K
 | .fst::p,.pair a _,m,H,v,f,K=>
  if H.any (·.isEmpty) then none else
  tI p a m.l (H.filterMap yq) v.1 f λm' H' x=>K (.pair m' m.r) (H'.map (.fst::·)++(H.filterMap yr).map (.snd::·)) (x,v.2)
 | .snd::p,.pair _ b,m,H,v,f,K=>
  if H.any (·.isEmpty) then none else
  tI p b m.r (H.filterMap yr) v.2 f λm' H' x=>K (.pair m.l m') ((H.filterMap yq).map (.fst::·)++H'.map (.snd::·)) (v.1,x)
 | .idx i::p,.aa e,m,H,v,f,K=>
  if m.own then
   Aw H i λH0=>(v[i]?).bind λx=>
    tI p e m.e H0 x f λm' H' y=>
     if m'=m.e then K (.aa true m.e) (H'.map (.idx i::·)) (v.set i y)
     else if H'.isEmpty then K (.aa true (ah e)) [] (v.set i y) else none
  else none
 | .sX i::p,.arr _ e,m,H,v,f,K=>
  if H.isEmpty then (v[i]?).bind λx=>
   tI p e m.e [] x f λ_ H' y=>if H'.isEmpty then K m [] (v.set i y) else none
  else none
 | _,_,_,_,_,_,_=>none
def EG:Path->Ty->Option Ty
 | [],t=>some t
 | .fst::p,.pair a _=>EG p a
 | .snd::p,.pair _ b=>EG p b
 | .idx _::p,.aa e=>EG p e
 | .sX _::p,.arr _ e=>EG p e
 | _,_=>none
def zp (σ:St) (r:Nat) (K:(t:Ty)->Md->List Path->t.den->Option R):Option R:=
 match σ.get r with
 | .own t m H v | .box t m H v=>K t m H v
 | _=>none
def St.lV (σ:St) (r:Nat) (t:Ty) (m:Md) (H:List Path) (v:t.den):St:=
 match σ.get r with
 | .box ..=>σ.nx r (.box t m H v)
 | _=>σ.nx r (.own t m H v)
def St.ok (σ:St) (r:Nat) (snap:List Nat):Bool:=preB snap (σ.mF r)
def rS (σ:St) (r:Nat) (p:Path) (K:(t:Ty)->Md->List Path->t.den->Option R):Option R:=
 zp σ r λt m H v=>qd p t m H v K
def ym (σ:St) (r:Nat) (p:Path) (t:Ty) (m:Md) (v:t.den) (K:St->Option R):Option R:=
 zp σ r λt0 m0 H0 v0=>
  tI p t0 m0 H0 v0 (λt' _ _ _ k=>kT t t' v λx=>k m [] x) λm' H' v'=>
   K (((σ.lV r t0 m' H' v').oG r (if t.flat then zo else wC (en p))).head r (en p))
def wM:Ty->List Path
 | .pair a b=>(wM a).map (.fst::·)++(wM b).map (.snd::·)
 | .aa _ | .ptr _ | .map _ _=>[[]]
 | .arr _ e=>if e.flat then [] else [[]]
 | _=>[]
def Ci (σ:St) (r:Nat) (p:Path) (K:St->Option R):Option R:=
 zp σ r λt0 m0 H0 v0=>
  tI p t0 m0 H0 v0 (λt' m' _ x k=>k m' (wM t') x) λm' H' v'=>
   K (((σ.lV r t0 m' H' v').oG r (wC (en p))).head r (en p))
def Ax (σ:St) (r:Nat) (p:Path) (K:St->Option R):Option R:=
 zp σ r λt0 m0 H0 v0=>
  tI p t0 m0 H0 v0 (λt' m H x k=>if H.isEmpty&&fits m (ah t') then k (ah t') [] x else none) λm' H' v'=>
   K (σ.lV r t0 m' H' v')
def yY (σ:St) (r:Nat) (p:Path) (m1:Md) (K:St->Option R):Option R:=
 zp σ r λt0 m0 H0 v0=>
  tI p t0 m0 H0 v0 (λ_ m H x k=>if H.isEmpty&&fits m m1 then k m1 [] x else none) λm' H' v'=>
   K (σ.lV r t0 m' H' v')
def yZ (σ:St) (r:Nat) (p:Path):List Nat:=(σ.mF r).take (1+en p)
def xL (σ:St) (r:Nat) (p:Path) (t:Ty):List Nat:=match t with
 | .aa _ | .map _ _=>(σ.mF r).take (2+en p)
 | _=>σ.mF r
def vO:Value->Slot
 | .int .u8 n=>if ((UInt8.ofInt n).toNat:Int)=n then .val (.int .u8) (UInt8.ofInt n) else .dead
 | .int .i64 n=>.val (.int .i64) n
 | .int .u64 n=>.val (.int .u64) n
 | .int .u32 n=>.val (.int .u32) n
 | .int .i32 n=>.val (.int .i32) n
 | .bool b=>.val .bool b
 | .string s=>.val .str s.data.toList
 | .slice none 0 0=>.zn
 | _=>.dead
def eg (σ:St):Operand->Slot
 | .tmp i=>match σ.get i with
  | .own t _ _ _=>.ref i [] (xL σ i [] t)
  | .box _ _ _ _=>.ptr i [] (yZ σ i [])
  | s=>s
 | .const v=>vO v
 | .func f=>.val .fn (f,0)
 | .global _=>.dead
def nZ (σ:St) (s:Slot) (mv:Bool) (t:Ty) (K:Md->t.den->St->Option R):Option R:=
 match s with
 | .val t' v=>kT t' t v λv=>K (ah t) v σ
 | .cp t' v=>kT (.ptr t') t v λv=>K (ah t) v σ
 | .zn=>match t with
  | .aa e=>K (ai (.aa e)) [] σ
  | _=>none
 | .ref r p snap=>
  if σ.ok r snap then
   rS σ r p λt' m H v=>
    if H.isEmpty then kT t' t v λv=>
     if m=ah t then K m v σ
     else if mv then Ci σ r p λσ=>K m v σ
     else Ax σ r p λσ=>K (ah t) v σ
    else none
  else none
 | .sub r p snap lo hi=>
  if σ.ok r snap then
   rS σ r p λt' m H v=>
    if H.isEmpty then kT t' t v λv=>match t,v with
     | .aa e,v=>
      if m=ah (.aa e) then K m ((v.take hi).drop lo) σ
      else if mv then (if lo=0 then Ci σ r p λσ=>K m ((v.take hi).drop lo) σ else none)
      else Ax σ r p λσ=>K (ah (.aa e)) ((v.take hi).drop lo) σ
     | _,_=>none
    else none
  else none
 | .ptr r [] snap=>
  if σ.ok r snap then
   match σ.get r with
   | .box t' m H v=>if H.isEmpty&&!FN σ.az r then kT (.ptr t') t v λv=>K (.ptr true m) v (σ.put r .dead) else none
   | _=>none
  else none
 | _=>none
def vj (σ:St) (s:Slot) (t:Ty) (K:t.den->Option R):Option R:=
 match s with
 | .val t' v=>kT t' t v K
 | .cp t' v=>kT (.ptr t') t v K
 | .zn=>match t with
  | .aa _=>K []
  | _=>none
 | .ref r p snap=>
  if σ.ok r snap then rS σ r p λt' _ H v=>if H.isEmpty then kT t' t v K else none
  else none
 | .sub r p snap lo hi=>
  if σ.ok r snap then
   rS σ r p λt' _ H v=>if H.isEmpty then kT t' t v λv=>match t,v with
    | .aa _,v=>K ((v.take hi).drop lo)
    | _,_=>none
   else none
  else none
 | .ptr r p snap=>
  if σ.ok r snap then rS σ r p λt' _ H v=>if H.isEmpty then kT (.ptr t') t v K else none
  else none
 | _=>none
def yK (s:Slot) (K:Int->Option R):Option R:=
 match s with
 | .val (.int k) n=>K (qR k n)
 | _=>none
def LX (s:Slot) (K:Bool->Option R):Option R:=
 match s with
 | .val .bool b=>K b
 | _=>none
def laid (t:Ty) (m:Md) (v:t.den):Slot:=
 if m=ah t then .val t v else
 match t,m,v with
 | .ptr e,.ptr true m',v=>.box e m' [] v
 | t,m,v=>.own t m [] v
end
noncomputable section
inductive PM where
 | ro
 | ii (m m':Md)
 | oS (m:Md)
 | tq (m:Md)
 | pN (m:Md)
 | fix (f:Nat)
 deriving DecidableEq
def bq:List Ty->Ty
 | []=>.unit
 | t::ts=>.pair t (bq ts)
def mR:List (PM×Ty)->List Ty
 | []=>[]
 | (.ii _ _,t)::ps=>t::mR ps
 | (.oS _,t)::ps=>t::mR ps
 | _::ps=>mR ps
structure wY where
 cap:Bool:=false
 ps:List (PM×Ty)
 rs:List (Ty×Md)
 F:(bq (ps.map (·.2))).den->Option (bq (rs.map (·.1)++mR ps)).den
 Hv:(bq (ps.map (·.2))).den->List Path->Bool:=λ_ H=>H.isEmpty
structure Env where
 TI:Nat->Option Ty
 G:Nat->Option wY
 fz:List (Nat×Nat×Nat):=[]
 lv:List (Nat×List Nat):=[]
 lx:List (Nat×List Nat):=[]
 lf:List (Nat×List (Nat×Md)):=[]
 od:List (Nat×List Nat):=[]
 ar:List (Nat×List Nat):=[]
 bx:List (Nat×List Nat):=[]
 pd:List (Nat×List Nat):=[]
 er:List (Nat×List (Nat×Nat)):=[]
def aaC:List (Nat×Nat×Nat)->Nat->Nat->Nat->Bool
 | [],_,_,_=>false
 | (a,b,c)::l,i,j,k=>(Nat.beq a i&&Nat.beq b j&&Nat.beq c k)||aaC l i j k
def be:Nat:=274877906944
section
variable {R:Type}
def so (E:Env) (t:Nat) (K:Ty->Option R):Option R:=
 match E.TI t with
 | some t=>K t
 | none=>none
def qe:Nat->Path
 | 0=>[.fst]
 | n+1=>.snd::qe n
def wZ:Nat->Ty->Option Ty
 | 0,.pair a _=>some a
 | n+1,.pair _ b=>wZ n b
 | _,_=>none
def V_:Nat->(t:Ty)->t.den->((t':Ty)->t'.den->Option R)->Option R
 | 0,.pair a _,v,K=>K a v.1
 | n+1,.pair _ b,v,K=>V_ n b v.2 K
 | _,_,_,_=>none
def QJ (σ:St) (r:Nat):Option Ty:=
 match σ.get r with
 | .own t _ _ _ | .box t _ _ _=>some t
 | _=>none
def KN (σ:St) (r:Nat) (p:Path):Option Ty:=
 match QJ σ r with
 | some t=>EG p t
 | none=>none
def FO (E:Env) (σ:St) (T:Nat) (a:Slot) (mv:Bool) (d:Option Tmp) (K:St->Option R):Option R:=
 so E T λT=>
 match a with
 | .cp t v=>if t=T then K (σ.cq d (.val t v)) else none
 | .ptr r p snap=>
  if σ.ok r snap then
   rS σ r p λt m H v=>
    if t=T then
     if t.flat then (if H.isEmpty then K (σ.cq d (.val t v)) else none)
     else if m=ah t then (if H.isEmpty then (match mv with
      | true=>K (σ.cq d (.ref r p (xL σ r p t)))
      | false=>K (σ.cq d (.val t v))) else none)
     else match mv with
      | false=>K (σ.cq d (.ref r p (xL σ r p t)))
      | true=>if H.isEmpty then Ci σ r p λσ=>K (σ.cq d (laid t m v)) else none
    else none
  else none
 | _=>none
def LY (E:Env) (σ:St) (T:Nat) (a:Operand) (mv fr:Bool) (d:Option Tmp) (K:St->Option R):Option R:=
 match fr with
 | false=>FO E σ T (eg σ a) mv d K
 | true=>match eg σ a with
  | .ptr r p snap=>if σ.ok r snap then Ax σ r p λσ=>FO E σ T (eg σ a) mv d K else none
  | _=>none
def QL (E:Env) (σ:St) (T:Nat) (a x:Slot) (mv:Bool) (K:St->Option R):Option R:=
 so E T λT=>
 match a with
 | .ptr r p snap=>
  if σ.ok r snap then
   if KN σ r p=some T then nZ σ x mv T λm v σ=>ym σ r p T m v K else none
  else none
 | _=>none
def FQ (E:Env) (σ:St) (S:Nat) (x:Slot) (j:Nat) (d:Option Tmp) (K:St->Option R):Option R:=
 so E S λS=>
 match x with
 | .cp t v=>if t=S then V_ j t v λt' v'=>K (σ.cq d (.cp t' v')) else none
 | .ptr r p snap=>if σ.ok r snap then (if KN σ r p=some S then (if (wZ j S).isSome then K (σ.cq d (.ptr r (p++qe j) snap)) else none) else none) else none
 | _=>none
def NK (E:Env) (σ:St) (S:Nat) (x:Slot) (j:Nat) (d:Option Tmp) (K:St->Option R):Option R:=
 so E S λS=>
 match x with
 | .val t v=>if t=S then V_ j t v λt' v'=>K (σ.cq d (.val t' v')) else none
 | .ref r p snap=>
  if σ.ok r snap then
   if KN σ r p=some S then
    rS σ r (p++qe j) λt m H v=>
     if t.flat||(m=ah t) then (if H.isEmpty then K (σ.cq d (.val t v)) else none)
     else K (σ.cq d (.ref r (p++qe j) (xL σ r (p++qe j) t)))
   else none
  else none
 | _=>none
def Yo (n:Int) (len:Nat) (K:Nat->Option R):Option R:=
 if 0<=n/\n < (len:Int) then K n.toNat else none
def FR (E:Env) (σ:St) (T:Nat) (x ix:Slot) (d:Option Tmp) (K:St->Option R):Option R:=
 so E T λT=>yK ix λn=>
 match x with
 | .val (.aa e) v=>if T=.aa e then (if 0<=n then (v[n.toNat]?).bind λy=>K (σ.cq d (.cp e y)) else none) else none
 | .cp (.arr m e) v=>if T=.arr m e then (if 0<=n then (v[n.toNat]?).bind λy=>K (σ.cq d (.cp e y)) else none) else none
 | .ref r p snap=>
  if σ.ok r snap then
   rS σ r p λt m H v=>
    if H.any (·.isEmpty) then none else
    if t=T then
     match t,v with
     | .aa e,v=>
      if m.own then Yo n v.length λi=>K (σ.cq d (.ptr r (p++[.idx i]) (yZ σ r (p++[.idx i]))))
      else if 0<=n then (v[n.toNat]?).bind λy=>K (σ.cq d (.cp e y)) else none
     | _,_=>none
    else none
  else none
 | .sub r p snap lo hi=>
  if σ.ok r snap then
   rS σ r p λt _ H _=>if H.any (·.isEmpty) then none else if t=T then Yo n (hi - lo) λi=>K (σ.cq d (.ptr r (p++[.idx (lo+i)]) (yZ σ r (p++[.idx (lo+i)])))) else none
  else none
 | .ptr r p snap=>
  if σ.ok r snap then
   rS σ r p λt _ _ v=>
    if t=T then
     match t,v with
     | .arr _ _,v=>Yo n v.length λi=>K (σ.cq d (.ptr r (p++[.sX i]) snap))
     | _,_=>none
    else none
  else none
 | _=>none
def QM (E:Env) (σ:St) (T:Nat) (x ix:Slot) (d:Option Tmp) (K:St->Option R):Option R:=
 so E T λT=>yK ix λn=>
 match x with
 | .val .str s=>if T=.str then (if 0<=n then (s[n.toNat]?).bind λc=>K (σ.cq d (.val (.int .u8) c)) else none) else none
 | .val (.arr m e) v=>if T=.arr m e then (if 0<=n then (v[n.toNat]?).bind λy=>K (σ.cq d (.val e y)) else none) else none
 | _=>none
def wN (len:Nat) (lo hi:Option Slot) (K:Nat->Nat->Option R):Option R:=
 match lo,hi with
 | none,none=>K 0 len
 | some l,none=>yK l λl=>if 0<=l/\l<=(len:Int) then K l.toNat len else none
 | none,some h=>yK h λh=>if 0<=h/\h<=(len:Int) then K 0 h.toNat else none
 | some l,some h=>yK l λl=>yK h λh=>if 0<=l/\l<=h/\h<=(len:Int) then K l.toNat h.toNat else none
def QN (E:Env) (σ:St) (T:Nat) (x:Slot) (lo hi:Option Slot) (d:Option Tmp) (K:St->Option R):Option R:=
 so E T λT=>
 match x with
 | .val .str s=>if T=.str then wN s.length lo hi λl h=>K (σ.cq d (.val .str ((s.take h).drop l))) else none
 | .val (.aa e) v=>if T=.aa e then wN v.length lo hi λl h=>K (σ.cq d (.val (.aa e) ((v.take h).drop l))) else none
 | .ref r p snap=>
  if σ.ok r snap then
   rS σ r p λt m H v=>
    if H.any (·.isEmpty) then none else
    if t=T then
     match t,v with
     | .aa e,v=>
      if m.own then wN v.length lo hi λl h=>K (σ.cq d (.sub r p snap l h))
      else wN v.length lo hi λl h=>K (σ.cq d (.val (.aa e) ((v.take h).drop l)))
     | _,_=>none
    else none
  else none
 | .sub r p snap l0 h0=>
  if σ.ok r snap then
   rS σ r p λt _ H _=>if H.any (·.isEmpty) then none else if t=T then wN (h0 - l0) lo hi λl h=>K (σ.cq d (.sub r p snap (l0+l) (l0+h))) else none
  else none
 | _=>none
def aaD (E:Env) (σ:St) (t:Nat) (x:Slot) (K:Nat->Option R):Option R:=
 so E t λT=>
 match T with
 | .str=>match x with
  | .val .str s=>K s.length
  | _=>none
 | .aa _=>match x with
  | .val (.aa _) v=>K v.length
  | .zn=>K 0
  | .ref r p snap=>
   if σ.ok r snap then
    rS σ r p λt _ H v=>if H.any (·.isEmpty) then none else match t,v with
     | .aa _,v=>K v.length
     | _,_=>none
   else none
  | .sub r _ snap lo hi=>if σ.ok r snap then K (hi - lo) else none
  | _=>none
 | _=>none
def DY (σ:St) (x:Slot) (e:Ty) (mv:Bool) (K:Md->List e.den->St->Option R):Option R:=
 match x with
 | .val .str s=>kT (.aa (.int .u8)) (.aa e) s λs=>K .leaf s σ
 | x=>nZ σ x mv (.aa e) λm v σ=>K m.e v σ
def NL (E:Env) (σ:St) (T:Nat) (b:Slot) (x:Operand) (mv tf:Bool) (d:Option Tmp) (K:St->Option R):Option R:=
 so E T λT=>
 match T with
 | .aa e=>
  match tf&&(e.flat&&e.sn) with
  | true=>DY σ (eg σ x) e false λ_ y _=>nZ σ b true (.aa e) λm v σ=>
   if m.own then
    if v.length+y.length<=be then K (σ.cq d (.own (.aa e) (.aa true (ah e)) [] (v++y))) else none
   else none
  | false=>
  nZ σ b true (.aa e) λm v σ=>
   if m.own then
    DY σ (eg σ x) e mv λme y σ=>
     if v.length+y.length<=be then
      K (σ.cq d (.own (.aa e) (.aa true (if me=m.e then me else ah e)) [] (v++y)))
     else none
   else none
 | _=>none
def pO {α:Type} (v:List α) (lo n:Nat) (y:List α):List α:=v.take lo++y.take n++v.drop (lo+n)
def Wa (E:Env) (σ:St) (T:Nat) (b:Operand) (x:Slot) (d:Option Tmp) (K:St->Option R):Option R:=
 so E T λT=>
 match T with
 | .aa e=>
  if e.flat then
   DY σ x e true λ_ y σ=>
    match eg σ b with
    | .sub r p snap lo hi=>
     if σ.ok r snap then
      rS σ r p λt m H v=>
       if m.own&&H.isEmpty then kT t (.aa e) v λv=>
        ym σ r p (.aa e) m (pO v lo (min y.length (hi - lo)) y) λσ'=>
         K (({ σ' with vr:=(σ.oG r zo).vr,az:=σ.az }).cq d (.val (.int .i64) ((min y.length (hi - lo):Nat):Int)))
       else none
     else none
    | .ref r p snap=>
     if σ.ok r snap then
      rS σ r p λt m H v=>
       if m.own&&H.isEmpty then kT t (.aa e) v λv=>
        ym σ r p (.aa e) m (pO v 0 (min y.length v.length) y) λσ'=>
         K (({ σ' with vr:=(σ.oG r zo).vr,az:=σ.az }).cq d (.val (.int .i64) ((min y.length v.length:Nat):Int)))
       else none
     else none
    | _=>none
  else none
 | _=>none
def HP:Nat->(t:Ty)->Md->t.den->(t':Ty)->Md->t'.den->(Md->t.den->Option R)->Option R
 | 0,.pair a _,m,v,t',m',x,K=>kT t' a x λx=>K (.pair m' m.r) (x,v.2)
 | n+1,.pair _ b,m,v,t',m',x,K=>HP n b m.r v.2 t' m' x λm'' y=>K (.pair m.l m'') (v.1,y)
 | _,_,_,_,_,_,_,_=>none
def HQ (E:Env) (σ:St) (t:Ty) (fz:Nat->Bool):List (Nat×Operand)->Nat->Md->t.den->(Md->t.den->St->Option R)->Option R
 | [],_,m,v,K=>K m v σ
 | (j,x)::ps,n,m,v,K=>
  match wZ j t with
  | some t'=>nZ σ (eg σ x) (!fz n) t' λm' y σ'=>HP j t m v t' m' y λm v=>HQ E σ' t fz ps (n+1) m v K
  | none=>none
def HR (σ:St) (e:Ty) (fz:Nat->Bool):List (Nat×Operand)->Nat->Md->List e.den->(Md->List e.den->St->Option R)->Option R
 | [],_,m,v,K=>K m v σ
 | (j,x)::ps,n,m,v,K=>
  if Nat.beq j n then
   nZ σ (eg σ x) (!fz n) e λm' y σ'=>HR σ' e fz ps (n+1) (if m'=m then m else ah e) (v++[y]) K
  else none
def QO (σ:St) (e:Ty) (fz:Nat->Bool):List (Nat×Operand)->Nat->List e.den->(List e.den->St->Option R)->Option R
 | [],_,v,K=>K v σ
 | (j,x)::ps,n,v,K=>
  nZ σ (eg σ x) (!fz n) e λ_ y σ'=>if j < v.length then QO σ' e fz ps (n+1) (v.set j y) K else none
def QP (op:BinOp) (k:IntKind) (a b:Int) (K:(t:Ty)->t.den->Option R):Option R:=
 match op with
 | .add=>K (.int k) (Hu k (a+b))
 | .sub=>K (.int k) (Hu k (a - b))
 | .mul=>K (.int k) (Hu k (a*b))
 | .quo=>if b=0 then none else K (.int k) (Hu k (a.tdiv b))
 | .rem=>if b=0 then none else K (.int k) (inI k (a.tmod b))
 | .and=>K (.int k) (Hu k ((BitVec.ofInt k.bits a &&& BitVec.ofInt k.bits b).toNat:Int))
 | .or=>K (.int k) (Hu k ((BitVec.ofInt k.bits a ||| BitVec.ofInt k.bits b).toNat:Int))
 | .xor=>K (.int k) (Hu k ((BitVec.ofInt k.bits a ^^^ BitVec.ofInt k.bits b).toNat:Int))
 | .shl=>if b < 0 then none else K (.int k) (Hu k (a*2 ^ (min b.toNat k.bits)))
 | .shr=>if b < 0 then none else K (.int k) (inI k (a.fdiv (2 ^ (min b.toNat k.bits))))
 | .eql=>K .bool (decide (a=b))
 | .neq=>K .bool (!decide (a=b))
 | .lss=>K .bool (decide (a < b))
 | .leq=>K .bool (decide (a<=b))
 | .gtr=>K .bool (decide (b < a))
 | .geq=>K .bool (decide (b<=a))
 | _=>none
def aaE (op:BinOp) (a b:List UInt8) (K:(t:Ty)->t.den->Option R):Option R:=
 match op with
 | .add=>if a.length+b.length<=be then K .str (a++b) else none
 | .eql=>K .bool (decide (a=b))
 | .neq=>K .bool (!decide (a=b))
 | _=>none
def both (a b:Option R):Option R:=open Classical in if a=b then a else none
def CQ {α:Type} (v:List α) (a b:Option R):Option R:=match v with
 | []=>both a b
 | _::_=>b
def aeb {α:Type} (op:BinOp) (v:List α) (K:(t:Ty)->t.den->Option R):Option R:=match op with
 | .eql=>CQ v (K .bool true) (K .bool false)
 | .neq=>CQ v (K .bool false) (K .bool true)
 | _=>none
def QQ (E:Env) (tid:Nat) (op:BinOp) (x y:Slot) (K:(t:Ty)->t.den->Option R):Option R:=
 match x,y with
 | .val (.int k) a,.val (.int k') b=>
  match op with
  | .shl | .shr=>QP op k (qR k a) (qR k' b) K
  | _=>if k=k' then QP op k (qR k a) (qR k' b) K else none
 | .val .str a,.val .str b=>aaE op a b K
 | .val t a,.val t' b=>
  match op with
  | .eql=>if t.qc then so E tid λT=>if T=t then kT t' t b λb=>K .bool (t.eq a b) else none else none
  | .neq=>if t.qc then so E tid λT=>if T=t then kT t' t b λb=>K .bool (!t.eq a b) else none else none
  | _=>none
 | .val (.aa e) v,.zn=>so E tid λT=>if T=.aa e then aeb op v K else none
 | _,_=>none
def FS (E:Env) (σ:St) (S T:Nat) (x:Slot) (d:Option Tmp) (K:St->Option R):Option R:=
 so E S λS=>so E T λT=>
 match T with
 | .int k=>match x with
  | .val (.int k') n=>if S=.int k' then K (σ.cq d (.val (.int k) (Hu k (qR k' n)))) else none
  | _=>none
 | .str=>match S with
  | .str=>match x with
   | .val .str s=>K (σ.cq d (.val .str s))
   | _=>none
  | .aa (.int .u8)=>vj σ x (.aa (.int .u8)) λv=>K (σ.cq d (.val .str v))
  | _=>none
 | .aa (.int .u8)=>match x with
  | .val .str s=>if S=.str then (if s.length<=be then K (σ.cq d (.own (.aa (.int .u8)) (ai (.aa (.int .u8))) [] s)) else none) else none
  | _=>none
 | _=>none
def QR (σ:St) (s:Slot) (t:Ty) (K:t.den->Option R):Option R:=
 match s with
 | .val t' v=>kT t' t v K
 | .cp t' v=>kT (.ptr t') t v K
 | .zn=>match t with
  | .aa _=>K []
  | _=>none
 | .ref r p snap=>
  if σ.ok r snap then rS σ r p λt' m H v=>if H.isEmpty&&(t'.flat||decide (m=ah t')) then kT t' t v K else none
  else none
 | .sub r p snap lo hi=>
  if σ.ok r snap then
   rS σ r p λt' m H v=>if H.isEmpty&&decide (m=ah t') then kT t' t v λv=>match t,v with
    | .aa _,v=>K ((v.take hi).drop lo)
    | _,_=>none
   else none
  else none
 | _=>none
def CR (σ:St) (ow:Bool) (pm:PM) (t:Ty) (s:Slot) (K:t.den->Option (Nat×Path)->Option R):Option R:=
 match pm with
 | .ro=>match ow with
  | true=>vj σ s t λv=>K v none
  | false=>QR σ s t λv=>K v none
 | .fix f=>match s with
  | .val .fn v=>if Nat.beq v.1 f then kT .fn t v λv=>K v none else none
  | _=>none
 | .ii m _=>match s with
  | .ptr r p snap=>
   if σ.ok r snap then rS σ r p λt' m' H v=>if H.isEmpty&&decide (m'=m) then kT t' t v λv=>K v (some (r,p)) else none
   else none
  | _=>none
 | .tq m=>match s with
  | .ptr r p snap=>
   if σ.ok r snap then rS σ r p λt' m' H v=>if H.isEmpty&&decide (m'=m) then kT t' t v λv=>K v (some (r,p)) else none
   else none
  | _=>none
 | .oS m=>match s with
  | .ref r p snap=>
   if σ.ok r snap then rS σ r p λt' m' H v=>if H.isEmpty&&decide (m'=m) then kT t' t v λv=>K v (some (r,p)) else none
   else none
  | _=>none
 | .pN m=>match s with
  | .ref r p snap=>
   if σ.ok r snap then rS σ r p λt' m' _ v=>if m'=m then kT t' t v λv=>K v (some (r,p)) else none
   else none
  | _=>none
def oT:Slot->List Nat
 | .ref r _ _ | .sub r _ _ _ _ | .ptr r _ _=>[r]
 | _=>[]
def Qj (σ:St) (ow:Bool):(ps:List (PM×Ty))->List Slot->((bq (ps.map (·.2))).den->List (Nat×Path)->Option R)->Option R
 | [],[],K=>K () []
 | (pm,t)::ps,s::ss,K=>CR σ ow pm t s λv w=>Qj σ ow ps ss λvs ws=>K (v,vs) (match w with | some x=>x::ws | none=>ws)
 | _,_,_=>none
def uo (σ:St):List (PM×Ty)->List Operand->(St->Option R)->Option R
 | (.ii m _,_)::ps,x::xs,K=>match eg σ x with
  | .ptr r p snap=>if σ.ok r snap then rS σ r p λ_ m' _ _=>if m'=m then uo σ ps xs K else yY σ r p m λσ=>uo σ ps xs K else none
  | _=>none
 | (.tq m,_)::ps,x::xs,K=>match eg σ x with
  | .ptr r p snap=>if σ.ok r snap then rS σ r p λ_ m' _ _=>if m'=m then uo σ ps xs K else yY σ r p m λσ=>uo σ ps xs K else none
  | _=>none
 | (.oS m,_)::ps,x::xs,K=>match eg σ x with
  | .ref r p snap=>if σ.ok r snap then rS σ r p λ_ m' _ _=>if m'=m then uo σ ps xs K else yY σ r p m λσ=>uo σ ps xs K else none
  | _=>none
 | (.pN m,_)::ps,x::xs,K=>match eg σ x with
  | .ref r p snap=>if σ.ok r snap then rS σ r p λ_ m' _ _=>if m'=m then uo σ ps xs K else yY σ r p m λσ=>uo σ ps xs K else none
  | _=>none
 | _::ps,_::xs,K=>uo σ ps xs K
 | _,_,K=>K σ
def aec (x:Operand) (r:Nat) (t:Ty) (v:t.den) (σ:St):St:=match x with
 | .tmp i=>match Nat.beq i r||!Nat.blt i σ.n with
  | true=>σ
  | false=>(σ.put i .dead).put i (.cp t v)
 | _=>σ
def CS (σ:St):List (PM×Ty)->List Operand->(St->Option R)->Option R
 | (.ro,t)::ps,x::xs,K=>
  if t.flat then CS σ ps xs K else
  match eg σ x with
  | .ref r p snap=>if σ.ok r snap then Ax σ r p λσ=>CS σ ps xs K else none
  | .sub r p snap _ _=>if σ.ok r snap then Ax σ r p λσ=>CS σ ps xs K else none
  | .ptr r p snap=>if σ.ok r snap then
    match p,σ.get r with
    | [],.box t m H v=>if H.isEmpty&&fits m (ah t) then CS (aec x r t v ((σ.put r .dead).put r (.cp t v))) ps xs K else none
    | _,_=>none
   else none
  | _=>CS σ ps xs K
 | _::ps,_::xs,K=>CS σ ps xs K
 | _,_,K=>K σ
def apart:List Nat->List (Nat×Path)->Bool
 | _,[]=>true
 | all,(r,_)::ws=>Nat.ble (all.count r) 1&&apart all ws
def uq (σ:St):(ps:List (PM×Ty))->List (Nat×Path)->(bq (mR ps)).den->(St->Option R)->Option R
 | [],[],_,K=>K σ
 | (.ro,_)::ps,ws,v,K=>uq σ ps ws v K
 | (.fix _,_)::ps,ws,v,K=>uq σ ps ws v K
 | (.ii _ m,t)::ps,(r,p)::ws,v,K=>ym σ r p t m v.1 λσ=>uq σ ps ws v.2 K
 | (.tq m,t)::ps,(r,p)::ws,v,K=>match ym σ r p t m t.zero (λ_=>some ()) with
  | some _=>uq (σ.put r .dead) ps ws v K
  | none=>none
 | (.pN _,_)::ps,(r,p)::ws,v,K=>Ci σ r p λσ=>uq σ ps ws v K
 | (.oS m,t)::ps,(r,p)::ws,v,K=>ym σ r p t m v.1 λσ'=>uq { σ' with vr:=(σ.oG r (wC (en p+1))).vr,az:=σ.az } ps ws v.2 K
 | _,_,_,_=>none
def mS:(rs:List (Ty×Md))->{ts:List Ty}->(bq (rs.map (·.1)++ts)).den->List LV×(bq ts).den
 | [],_,v=>([],v)
 | (t,m)::rs,_,v=>(⟨t,m,v.1⟩::(mS rs v.2).1,(mS rs v.2).2)
def xM:List LV->Slot
 | []=>.dead
 | [x]=>laid x.t x.m x.v
 | xs=>.ug xs
def zq:List (Ty×Md)->Bool
 | []=>true
 | (t,m)::rs=>(t.flat||decide (m=ai t))&&t.sn&&zq rs
def oN:List (PM×Ty)->Bool
 | []=>true
 | (.ii m m',t)::ps=>(t.flat||decide (m=ai t))&&t.sn&&((t.flat||decide (m'=ai t))&&oN ps)
 | (.oS m,t)::ps=>(t.flat||decide (m=ai t))&&t.sn&&oN ps
 | (.tq m,t)::ps=>(t.flat||decide (m=ai t))&&t.sn&&oN ps
 | (.pN m,t)::ps=>(t.flat||decide (m=ai t))&&t.sn&&oN ps
 | _::ps=>oN ps
def Hw:Ty->Bool
 | .int .u8 | .map _ _ | .fn=>false
 | .pair a b=>Hw a&&Hw b
 | .arr _ e | .aa e | .ptr e=>Hw e
 | _=>true
def J4:Ty->Bool
 | .pair a b=>J4 a&&J4 b
 | .aa (.int .u8)=>true
 | t=>t.flat&&t.sn
def va:List (PM×Ty)->Bool
 | []=>true
 | (.ro,t)::ps=>(t.flat&&t.sn||Hw t)&&va ps
 | (.fix _,_)::ps=>va ps
 | (.ii _ _,t)::ps=>J4 t&&va ps
 | _=>false
def LZ:List (PM×Ty)->Bool
 | []=>true
 | (.tq _,_)::_ | (.pN _,_)::_=>false
 | _::ps=>LZ ps
def Wb:List (PM×Ty)->Bool
 | []=>false
 | (.pN _,_)::_=>true
 | _::ps=>Wb ps
def aaF (σ:St) (hv:Bool) (ho:List Path->Bool) (ws:List (Nat×Path)) (K:Option R):Option R:=
 match hv,ws with
 | true,(r,p)::_=>rS σ r p λ_ _ H _=>match ho H with
  | true=>K
  | false=>none
 | _,_=>K
def L4 (g:wY) (ow:Bool) (σ:St) (xs:List Operand) (ex:List Slot) (d:Option Tmp) (K:St->Option R):Option R:=
 uo σ g.ps xs λσ=>
  Qj σ ow g.ps (xs.map (eg σ)++ex) λv ws=>
   if Nat.ble ws.length 1&&apart ((xs.map (eg σ)++ex).flatMap oT) ws then
    aaF σ (Wb g.ps) (g.Hv v) ws ((g.F v).bind λout=>
     uq σ g.ps ws (mS g.rs out).2 λσ=>K (σ.cq d (xM (mS g.rs out).1)))
   else none
def FT (g:wY) (σ:St) (xs:List Operand) (ex:List Slot) (d:Option Tmp) (K:St->Option R):Option R:=
 match zq g.rs&&(oN g.ps||va g.ps) with
 | true=>L4 g true σ xs ex d K
 | false=>CS σ g.ps xs λσ=>L4 g false σ xs ex d K
def NM (E:Env) (σ:St) (T:Nat) (x:Operand) (mv:Bool) (d:Option Tmp) (K:St->Option R):Option R:=
 match eg σ x with
 | .dead=>K (σ.cq d .dead)
 | .zn=>so E T λT=>match T with
  | .aa e=>K (σ.cq d (.own (.aa e) (ai (.aa e)) [] []))
  | _=>none
 | .ug []=>K (σ.cq d (.ug []))
 | .ug _=>none
 | .ref r p snap=>
  if σ.ok r snap then
   match KN σ r p with
   | some t=>nZ σ (.ref r p snap) mv t λm v σ=>K (σ.cq d (laid t m v))
   | none=>none
  else none
 | .sub r p snap lo hi=>
  if σ.ok r snap then
   match KN σ r p with
   | some t=>nZ σ (.sub r p snap lo hi) mv t λm v σ=>K (σ.cq d (laid t m v))
   | none=>none
  else none
 | .ptr r p snap=>
  match p,σ.get r with
  | [],.box t m H v=>if σ.ok r snap&&mv&&!FN σ.az r then (match d with | some i=>K ((σ.put r .dead).put i (.box t m H v)) | none=>none) else K (σ.cq d (.ptr r [] snap))
  | p,_=>K (σ.cq d (.ptr r p snap))
 | s=>K (σ.cq d s)
def Wc (σ:St) (x:Operand) (d:Option Tmp) (K:St->Option R):Option R:=
 match eg σ x,x with
 | .ug xs,.tmp i=>K ((σ.put i .dead).cq d (.ug xs))
 | .ug _,_=>none
 | s,_=>K (σ.cq d s)
def QS (σ:St) (x:Operand) (d:Option Tmp) (σ':St):St:=
 match x,d with
 | .tmp i,some d=>match σ.get i with
  | .own _ _ _ _=>match LW σ.az i with
   | some n=>{ σ' with az:=(d,n,true)::σ'.az }
   | none=>σ'
  | _=>σ'
 | _,_=>σ'
def QT:Slot->Option (Nat×Int)
 | .val .fn f=>some f
 | _=>none
def lm {α:Type} (k:Ty) (m:List (k.den×α)) (x:k.den):Option α:=(m.find? λe=>k.eq x e.1).map (·.2)
def oU {α:Type} (k:Ty) (m:List (k.den×α)) (x:k.den) (y:α):List (k.den×α):=match m.findIdx? (λe=>k.eq x e.1) with
 | some i=>m.set i (x,y)
 | none=>m++[(x,y)]
def DZ {α:Type} (o:Option α) (z:α):α:=match o with
 | some x=>x
 | none=>z
def NN (E:Env) (σ:St) (T:Nat) (x ix:Slot) (ok:Bool) (d:Option Tmp) (K:St->Option R):Option R:=
 so E T λT=>
 match T with
 | .map k v=>
  if v.yf then
   match x with
   | .ref r p snap=>
    if σ.ok r snap then
     rS σ r p λt _ H y=>
      if H.isEmpty then kT t (.map k v) y λy=>
       match ix with
       | .val t2 i=>kT t2 k i λi=>
        match ok with
        | true=>K (σ.cq d (.ug [⟨v,ah v,DZ (lm k y i) v.zero⟩,⟨.bool,.leaf,(lm k y i).isSome⟩]))
        | false=>K (σ.cq d (.val v (DZ (lm k y i) v.zero)))
       | _=>none
      else none
    else none
   | _=>none
  else none
 | _=>none
def NO (E:Env) (σ:St) (T:Nat) (x ix y:Slot) (K:St->Option R):Option R:=
 so E T λT=>
 match T with
 | .map k v=>
  match x with
  | .ref r p snap=>
   if σ.ok r snap then
    rS σ r p λt m H z=>
     if m.own&&H.isEmpty then kT t (.map k v) z λz=>
      match ix,y with
      | .val t2 i,.val t3 w=>kT t2 k i λi=>kT t3 v w λw=>
       ym σ r p (.map k v) m (oU k z i w) λσ'=>K { σ' with vr:=(σ.oG r zo).vr,az:=σ.az }
      | _,_=>none
     else none
   else none
  | _=>none
 | _=>none
def Yp:Option Ty->Bool
 | some (.map _ _)=>true
 | _=>false
def NP (E:Env) (σ:St) (T:Nat) (x:Slot) (K:Nat->Option R):Option R:=
 so E T λT=>
 match T with
 | .map k v=>
  match x with
  | .ref r p snap=>
   if σ.ok r snap then
    rS σ r p λt _ H y=>if H.isEmpty then kT t (.map k v) y λy=>K (List.length y) else none
   else none
  | _=>none
 | _=>none
def t_ (E:Env) (jm i:Nat) (o:Oper) (σ:St) (K:St->Option R):Option R:=
 let fz:=aaC E.fz jm i
 let d:=o.dst
 match o.op with
 | .move x=>Wc σ x d K
 | .assign x=>NM E σ o.type x (!fz 0) d K
 | .pick c a b=>LX (eg σ c) λc=>match eg σ (bif c then a else b) with
  | .val .bool x=>K (σ.cq d (.val .bool x))
  | _=>none
 | .alloc t=>so E t λt=>if t.yf then K (σ.cq d (.box t (ai t) [] t.zero)) else none
 | .box t x=>so E t λt=>nZ σ (eg σ x) (!fz 0) t λm v σ'=>K (QS σ x d (σ'.cq d (.box t m [] v)))
 | .build t ps=>so E t λt=>match t with
  | .arr n e=>if e.yf then QO σ e fz ps.toList 0 (Ty.arr n e).zero λv σ=>K (σ.cq d (laid (.arr n e) (ai (.arr n e)) v)) else none
  | .pair t1 t2=>if (Ty.pair t1 t2).yf then HQ E σ (.pair t1 t2) fz ps.toList 0 (ai (.pair t1 t2)) (Ty.pair t1 t2).zero λm v σ=>K (σ.cq d (laid (.pair t1 t2) m v)) else none
  | _=>none
 | .buildSlice t n ps=>so E t λt=>match t with
  | .aa e=>if Nat.beq n ps.size&&e.yf&&Nat.ble (n*e.sz) 16777216 then HR σ e fz ps.toList 0 (ai e) [] λm v σ=>K (σ.cq d (.own (.aa e) (.aa true m) [] v)) else none
  | _=>none
 | .load t a=>LY E σ t a (fz 7) (fz 8) d K
 | .store t a x=>match d with
  | none=>QL E σ t (eg σ a) (eg σ x) (!fz 1) K
  | some _=>none
 | .nilCheck x=>match eg σ x with
  | .ptr r p snap=>if σ.ok r snap then K (σ.cq d (.ptr r p snap)) else none
  | .cp t v=>K (σ.cq d (.cp t v))
  | .val .fn f=>K (σ.cq d (.val .fn f))
  | _=>none
 | .binOp op t x y _=>QQ E t op (eg σ x) (eg σ y) λt v=>K (σ.cq d (.val t v))
 | .unOp op _ x=>match op,eg σ x with
  | .not,.val .bool b=>K (σ.cq d (.val .bool (!b)))
  | .neg,.val (.int k) n=>K (σ.cq d (.val (.int k) (Hu k (0 - qR k n))))
  | _,_=>none
 | .convert s t x=>FS E σ s t (eg σ x) d K
 | .fieldAddr t x j=>FQ E σ t (eg σ x) j d K
 | .field t x j=>NK E σ t (eg σ x) j d K
 | .indexAddr t x ix=>FR E σ t (eg σ x) (eg σ ix) d K
 | .index t x ix=>QM E σ t (eg σ x) (eg σ ix) d K
 | .slice t x lo hi none=>QN E σ t (eg σ x) (lo.map (eg σ)) (hi.map (eg σ)) d K
 | .makeSlice t n c=>so E t λt=>match t with
  | .aa e=>yK (eg σ n) λn=>yK (eg σ c) λc=>
   if e.yf then (if 0<=n/\n<=c/\c<=(be:Int) then K (σ.cq d (.own (.aa e) (ai (.aa e)) [] (List.replicate n.toNat e.zero))) else none) else none
  | _=>none
 | .extract x j=>match x with
  | .tmp i=>match σ.get i with
   | .ug xs=>match xs[j]? with
    | some x=>if x.t=.unit then none else K ((σ.put i (.ug (xs.set j ⟨.unit,.leaf,()⟩))).cq d (laid x.t x.m x.v))
    | none=>none
   | _=>none
  | _=>none
 | .makeFunc (.func f) first cs=>
  if first.size=0 then
   match cs.toList with
   | []=>K (σ.cq d (.val .fn (f,0)))
   | [.tmp i]=>match σ.get i with
    | .box (.int .i64) _ _ n=>K (((σ.put i .dead).put i (.cp (.int .i64) n)).cq d (.val .fn (f,n)))
    | _=>none
   | _=>none
  else none
 | .makeMap t none=>so E t λt=>match t with
  | .map k v=>if k.flat&&v.flat then K (σ.cq d (.own (.map k v) (ai (.map k v)) [] [])) else none
  | _=>none
 | .lookup t x ix ok=>NN E σ t (eg σ x) (eg σ ix) ok d K
 | .mapUpdate t x ix y=>match d with
  | none=>NO E σ t (eg σ x) (eg σ ix) (eg σ y) K
  | some _=>none
 | .call c=>match c.callee with
  | .builtin .len=>match c.args.toList,c.argTypes.toList with
   | [x],[t]=>match Yp (E.TI t) with
    | false=>aaD E σ t (eg σ x) λn=>K (σ.cq d (.val (.int .i64) (n:Int)))
    | true=>NP E σ t (eg σ x) λn=>K (σ.cq d (.val (.int .i64) (n:Int)))
   | _,_=>none
  | .builtin .append=>match c.args.toList,c.argTypes.toList with
   | [b,x],t::_=>NL E σ t (eg σ b) x (!fz 1) (fz 2) d K
   | _,_=>none
  | .builtin .copy=>match c.args.toList,c.argTypes.toList with
   | [b,x],t::_=>Wa E σ t b (eg σ x) d K
   | _,_=>none
  | .value (.func f)=>match E.G f with
   | some g=>match g.cap with
    | false=>FT g σ c.args.toList [] d K
    | true=>none
   | none=>none
  | .value (.tmp i)=>match QT (σ.get i) with
   | some (f,n)=>match E.G f with
    | some g=>match g.cap with
     | true=>FT g σ c.args.toList [.cp (.int .i64) n] d K
     | false=>FT g σ c.args.toList [] d K
    | none=>none
   | none=>none
  | _=>none
 | _=>none
def qj (l:List (Nat×List Nat)) (i:Nat):List Nat:=match pG l i with | some x=>x | none=>[]
def HS (ops:List Oper) (σ:St) (g:Option (Nat×Bool)) (K:Bool->St->Option R):Option R:=
 match g with
 | none=>K true σ
 | some (j,want)=>match (ops[j]?).bind (·.dst) with
  | none=>none
  | some t=>match σ.get t with
   | .val .bool b=>match b with
    | true=>K (want == true) (σ.nx t (.val .bool true))
    | false=>K (want == false) (σ.nx t (.val .bool false))
   | .ug []=>K false σ
   | _=>none
def NQ (E:Env) (jm:Nat) (ops:List Oper):List Oper->Nat->St->(St->Option R)->Option R
 | [],_,σ,K=>K σ
 | o::rest,i,σ,K=>HS ops σ o.guard λb σ=>
  match b with
  | true=>t_ E jm i o σ λσ=>NQ E jm ops rest (i+1) σ K
  | false=>NQ E jm ops rest (i+1) (σ.cq o.dst (.ug [])) K
def QU (σ:St) (o:Oper):Bool:=match o.op with
 | .load _ x=>match eg σ x with
  | .cp _ _=>true
  | _=>false
 | .convert _ _ x=>match eg σ x with
  | .val (.int _) _=>true
  | .val .str _=>true
  | .val (.aa (.int .u8)) _=>true
  | _=>false
 | _=>false
def QV (E:Env) (jm i:Nat):Bool:=(qj E.ar jm).any (Nat.beq i)
def JD:Op->Bool
 | .store .. | .mapUpdate .. | .call ..=>true
 | _=>false
def zr:Path->Path->Bool
 | [],[]=>true
 | .fst::p,.fst::q=>zr p q
 | .snd::p,.snd::q=>zr p q
 | .idx i::p,.idx j::q=>Nat.beq i j&&zr p q
 | .sX i::p,.sX j::q=>Nat.beq i j&&zr p q
 | _,_=>false
def acv (σ:St) (r:Nat) (p:Path) (v:Int):Bool:=
 match rS σ r p λt _ _ x=>kT t (.int .i64) x λy=>some (decide ((y:Int)=v)) with
 | some b=>b
 | none=>false
def aaG (σ:St) (o:Oper):Bool:=match o.op,o.dst with
 | .load _ (.tmp i),some d=>match σ.get i with
  | .ptr r p s=>match σ.get d with
   | .ref r' p' s'=>Nat.beq r r'&&(σ.ok r s&&σ.ok r s')&&zr p p'
   | .val (.int .i64) v=>σ.ok r s&&acv σ r p v
   | _=>false
  | .box ..=>match σ.get d with
   | .ref r' p' s'=>Nat.beq i r'&&σ.ok i s'&&zr [] p'
   | _=>false
  | _=>false
 | _,_=>false
def L5 (l:List (Nat×List (Nat×Nat))) (i:Nat):List (Nat×Nat):=match pG l i with | some x=>x | none=>[]
def Wd (E:Env) (jm i:Nat):Bool:=(L5 E.er jm).any λe=>Nat.beq i e.1
def We (E:Env) (jm:Nat) (ops:List Oper) (is:List Nat) (σ:St):Bool:=(L5 E.er jm).all λe=>is.any (Nat.beq e.1)||!(is.any (Nat.beq e.2)||Nat.ble ops.length e.2)||(match ops[e.1]? with
 | some o=>aaG σ o
 | none=>false)
def L6 (E:Env) (jm:Nat) (ops:List Oper) (i:Nat) (o:Oper) (is:List Nat) (σ:St):Bool:=!(JD o.op||Wd E jm i)||We E jm ops is σ
def UO (σ:St):List Nat->(St->Option R)->Option R
 | [],K=>K σ
 | i::is,K=>match σ.get i with
  | .box t m H v=>if H.isEmpty&&fits m (ah t) then UO ((σ.put i .dead).put i (.cp t v)) is K else none
  | _=>none
def NR (σ:St) (d:Nat):Bool:=Nat.blt d σ.n&&(match σ.get d with
 | .dead=>true
 | _=>false)&&!FN σ.az d&&!σ.gh.any λe=>Nat.beq e.1 d
def Wf (E:Env) (jm:Nat) (ops:List Oper) (is:List Nat) (σ:St):Bool:=(qj E.pd jm).all λj=>!is.any (Nat.beq j)||(match (ops[j]?).bind (·.dst) with
 | some d=>NR σ d
 | none=>false)
def Yq (ops:List Oper) (σ:St):List Nat->(St->Option R)->Option R
 | [],K=>K σ
 | j::js,K=>match (ops[j]?).bind (·.dst) with
  | some d=>Yq ops (σ.put d .dead) js K
  | none=>none
def HT (E:Env) (jm:Nat) (ops:List Oper):List Nat->St->(St->Option R)->Option R
 | [],σ,K=>K σ
 | i::is,σ,K=>
  match Wf E jm ops (i::is) σ with
  | false=>none
  | true=>
  match ops[i]? with
  | none=>none
  | some o=>HS ops σ o.guard λb σ=>
   match b with
   | true=>match QV E jm i&&!QU σ o with
    | true=>none
    | false=>t_ E jm i o σ λσ=>match L6 E jm ops i o is σ with
     | true=>HT E jm ops is σ K
     | false=>none
   | false=>HT E jm ops is (σ.cq o.dst (.ug [])) K
def uP:Code->Nat
 | .region id _ _=>id
 | .seq a _=>uP a
 | .block _ b=>uP b
 | .loop b=>uP b
 | .scope b=>uP b
 | _=>0
def HU (live:List Nat) (fr:List (Nat×Md)) (r:Nat):Bool:=live.any (Nat.beq r)&&(match pG fr r with
 | none=>true
 | some _=>false)
def mG (live:List Nat) (fr:List (Nat×Md)) (σ:St) (i:Nat):Slot:=
 match σ.get i with
 | .ptr r p snap=>if σ.ok r snap&&HU live fr r then .ptr r p (snap.map λ_=>0) else .dead
 | .ref r p snap=>if σ.ok r snap&&HU live fr r then .ref r p (snap.map λ_=>0) else .dead
 | .sub r p snap lo hi=>if σ.ok r snap&&HU live fr r then .sub r p (snap.map λ_=>0) lo hi else .dead
 | s=>s
def BS (live:List Nat) (σ:St):St:={ n:=σ.n,sl:=live.map λi=>(i,mG live [] σ i),vr:=[],az:=σ.az }
def D0 (fr:List (Nat×Md)) (i:Nat) (s:Slot):Slot:=
 match pG fr i with
 | none=>s
 | some m1=>
  match s with
  | .own t m H v=>if H.isEmpty&&fits m m1 then (if m1=ah t then .val t v else .own t m1 [] v) else .dead
  | .box t m H v=>if H.isEmpty&&fits m m1 then .box t m1 [] v else .dead
  | s=>s
def iv (live:List Nat) (fr:List (Nat×Md)) (σ:St):St:={ n:=σ.n,sl:=live.map λi=>(i,D0 fr i (mG live fr σ i)),vr:=[],az:=σ.az }
def Wg (l:List (Nat×List (Nat×Md))) (i:Nat):List (Nat×Md):=match pG l i with | some x=>x | none=>[]
inductive Ex where
 | normal
 | exit (id:Nat)
def kU (rec:St->Option R) (kp:St->St) (K:Ex->St->Option R):Ex->St->Option R
 | .normal,σ=>rec (kp σ)
 | .exit j,σ=>K (.exit j) σ
def ax (B:St->(Ex->St->Option R)->Option R) (K:Ex->St->Option R):Ex->St->Option R
 | .normal,σ=>B σ K
 | .exit j,σ=>K (.exit j) σ
def ak (id:Nat) (K:Ex->St->Option R):Ex->St->Option R
 | .normal,σ=>K .normal σ
 | .exit j,σ=>if Nat.beq j id then K .normal σ else K (.exit j) σ
def JE (F:St->(Ex->St->Option R)->Option R) (kp:St->St) (K:Ex->St->Option R):Nat->St->Option R
 | 0,_=>none
 | k+1,σ=>F σ (kU (JE F kp K k) kp K)
def w9 (E:Env) (k:Nat) (fin:St->Option R):Code->St->(Ex->St->Option R)->Option R
 | .skip,σ,K=>K .normal σ
 | .region id ops d,σ,K=>match d with
  | false=>NQ E id ops.toList ops.toList 0 σ λσ=>UO σ (qj E.bx id) λσ=>K .normal σ
  | true=>UO σ (qj E.bx id) λσ=>Yq ops.toList σ (qj E.pd id) λσ=>HT E id ops.toList (qj E.od id) σ λσ=>K .normal σ
 | .seq a b,σ,K=>w9 E k fin a σ (ax (w9 E k fin b) K)
 | .cond c a b,σ,K=>LX (eg σ c) λc=>match c with
  | true=>w9 E k fin a σ K
  | false=>w9 E k fin b σ K
 | .block id b,σ,K=>w9 E k fin b σ (ak id K)
 | .loop b,σ,K=>JE (w9 E k fin b) (iv (qj E.lv (uP b)) (Wg E.lf (uP b))) K k (iv (qj E.lv (uP b)) (Wg E.lf (uP b)) σ)
 | .scope b,σ,K=>w9 E k fin b σ K
 | .exit id,σ,K=>K (.exit id) (BS (qj E.lx id) σ)
 | .ret,σ,_=>fin σ
 | _,_,_=>none
end
def sub:List Nat->Code->Code
 | [],c=>c
 | i::p,.seq a b=>match i with
  | 0=>sub p a
  | _=>sub p b
 | i::p,.cond _ a b=>match i with
  | 0=>sub p a
  | _=>sub p b
 | _::p,.block _ b=>sub p b
 | _::p,.loop b=>sub p b
 | _::p,.scope b=>sub p b
 | _,c=>c
def ao {V R:Type} (B:(V->Option R)->V->Option R):Nat->V->Option R
 | 0,_=>none
 | k+1,v=>B (ao B k) v
theorem aq {V R:Type} (F:St->(Ex->St->Option R)->Option R) (kp:St->St) (K:Ex->St->Option R) (σ:V->St) (B:(V->Option R)->V->Option R)
  (h:∀ (rec:St->Option R) (v:V),F (σ v) (kU rec kp K)=B (λv'=>rec (σ v')) v):∀ (n:Nat) (v:V),JE F kp K n (σ v)=ao B n v:=by
 intro n
 induction n <;> simp_all [JE,ao]
end
noncomputable section
def jU:(ps:List (PM×Ty))->(bq (ps.map (·.2))).den->List Slot
 | [],_=>[]
 | (.ro,.ptr e)::ps,v=>.cp e v.1::jU ps v.2
 | (.fix f,.fn)::ps,v=>.val .fn (f,v.1.2)::jU ps v.2
 | (.fix _,_)::ps,v=>.dead::jU ps v.2
 | (.ro,t)::ps,v=>.val t v.1::jU ps v.2
 | (.ii m _,t)::ps,v=>.box t m [] v.1::jU ps v.2
 | (.oS m,t)::ps,v=>.own t m [] v.1::jU ps v.2
 | (.pN m,t)::ps,v=>.own t m [] v.1::jU ps v.2
 | (.tq m,t)::ps,v=>.box t m [] v.1::jU ps v.2
def CT:Nat->List Slot->List (Nat×Slot)
 | _,[]=>[]
 | i,s::ss=>(i,s)::CT (i+1) ss
def xh:Nat->List (PM×Ty)->List (Nat×Nat×Bool)
 | _,[]=>[]
 | i,(.ii _ _,_)::ps=>(i,i,false)::xh (i+1) ps
 | i,(.oS _,_)::ps=>(i,i,true)::xh (i+1) ps
 | i,(.tq _,_)::ps=>(i,i,false)::xh (i+1) ps
 | i,_::ps=>xh (i+1) ps
def E7 (ps:List (PM×Ty)) (v:(bq (ps.map (·.2))).den) (n:Nat):St:={ n:=n,sl:=CT 0 (jU ps v),vr:=[],az:=xh 0 ps }
section
variable {R:Type}
def zs (σ:St):Nat->(ps:List (PM×Ty))->List Nat->((bq (mR ps)).den->Option R)->Option R
 | _,[],_,K=>K ()
 | j,(.ro,_)::ps,es,K=>zs σ (j+1) ps es K
 | j,(.fix _,_)::ps,es,K=>zs σ (j+1) ps es K
 | j,(.tq _,_)::ps,es,K=>zs σ (j+1) ps es K
 | j,(.pN _,_)::ps,es,K=>zs σ (j+1) ps es K
 | j,(.ii _ m,t)::ps,i::es,K=>match σ.get i with
  | .box t' m' H v=>if H.isEmpty&&(decide (m'=m)||fits m' m)&&E6 σ.az i j false then kT t' t v λv=>zs σ (j+1) ps es λvs=>K (v,vs) else none
  | _=>none
 | j,(.oS m,t)::ps,i::es,K=>match σ.get i with
  | .own t' m' H v | .box t' m' H v=>if H.isEmpty&&(decide (m'=m)||fits m' m)&&E6 σ.az i j true then kT t' t v λv=>zs σ (j+1) ps es λvs=>K (v,vs) else none
  | _=>none
 | _,_,_,_=>none
def L7 (σ:St):ResultVar->Slot
 | .tmp i=>eg σ (.tmp i)
 | .cell a _=>match σ.get a with
  | .box _ _ _ _=>.ref a [] (σ.mF a)
  | _=>.dead
def Wh (σ:St) (ts:List Ty) (mv:Nat->Bool) (fin:St->((bq ts).den->Option R)->Option R) :
    (rs:List (Ty×Md))->List ResultVar->Nat->((bq (rs.map (·.1)++ts)).den->Option R)->Option R
 | [],[],_,K=>fin σ K
 | (t,m)::rs,x::xs,j,K=>nZ σ (L7 σ x) (mv j) t λm' v σ'=>
  if m'=m\/fits m' m=true then Wh σ' ts mv fin rs xs (j+1) λvs=>K (v,vs) else none
 | _,_,_,_=>none
end
def QW (ps:List (PM×Ty)) (rs:List (Ty×Md)) (es:List Nat) (E8:List ResultVar) (mv:Nat->Bool) (σ:St):Option (bq (rs.map (·.1)++mR ps)).den:=
 Wh σ (mR ps) mv (λσ K=>zs σ 0 ps es K) rs E8 0 some
def mvs (fr:List Nat) (j:Nat):Bool:=!(fr.any (Nat.beq j))
def aed {R:Type} (fin:St->Option R):Ex->St->Option R
 | .normal,σ=>fin σ
 | .exit _,_=>none
def HV (fn:Func):Code:=match fn.body with
 | some c=>c
 | none=>.refuse ""
abbrev PQ:Type:=List (PM×Ty)
abbrev RQ:Type:=List (Ty×Md)
abbrev TL:Type:=List (Nat×Ty)
abbrev GL:Type:=List (Nat×wY)
abbrev KT (R:Type):Type:=Ex->St->Option R
abbrev RT (R:Type):Type:=St->Option R
def Qk (E:Env) (k:Nat) (fn:Func) (ps:List (PM×Ty)) (rs:List (Ty×Md)) (es fr:List Nat) (v:(bq (ps.map (·.2))).den):Option (bq (rs.map (·.1)++mR ps)).den:=
 w9 E k (QW ps rs es fn.results.toList (mvs fr)) (HV fn) (E7 ps v fn.ntmps) (aed (QW ps rs es fn.results.toList (mvs fr)))
def lift {R:Type} (f:Nat->Option R):Option R:=open Classical in if h:∃ out,∃ k,∀ k',k<=k'->f k'=some out then some h.choose else none
theorem ag {R:Type} {f:Nat->Option R} {out:R} {k:Nat} (h:∀ k',k<=k'->f k'=some out):lift f=some out:=by
 have hex:∃ out,∃ k,∀ k',k<=k'->f k'=some out:=⟨out,k,h⟩
 unfold lift;rw[dif_pos hex];obtain ⟨k2,h2⟩:=hex.choose_spec;have e1:=h (max k k2) (Nat.le_max_left _ _);grind
theorem Yr {R:Type} {f:Nat->Option R} {out:R} (h:lift f=some out):∃ k,f k=some out:=by
 unfold lift at h;split at h
 ·rename_i hex;obtain ⟨k,hk⟩:=hex.choose_spec;injection h with h;exact ⟨k,by grind⟩
 ·cases h
abbrev i64:Ty:=.int .i64
abbrev u8:Ty:=.int .u8
def ae (n:Int):Int:=IntKind.wrap .i64 n
end
end OT
set_option linter.unusedVariables false
set_option linter.unusedSimpArgs false
namespace OT
open Go
abbrev FP:=Nat->Nat->Nat
abbrev Cells:=Nat->Nat->Prop
def isAgg:Ty->Bool
 | .unit | .pair _ _ | .arr _ _=>true
 | _=>false
def dj (t:Ty) (cs:List Value):Value:=if isAgg t then .agg cs.toArray else cs.headD undef
def FU (wD:List (Value×Value)):Value:=.tuple (wD.map λkv=>Value.tuple #[kv.1,kv.2]).toArray
def entriesOf (es:Array MapEntry):List (Value×Value):=es.toList.map λe=>(e.key,e.val)
def Wi (u:Value):Option Value:=if u.oneCell' then some u else none
def ce (w:World) (b i:Nat):Option Value:=match w.heap[b]? with
 | some (.map es _)=>if i=0 then some (FU (entriesOf es)) else none
 | _=>(w.cell? ⟨b,i,none⟩).bind Wi
theorem CU {w w2:World} {b:Nat} (h:w2.heap[b]?=w.heap[b]?) (i:Nat):ce w2 b i=ce w b i:=by grind [ce,World.cell?]
theorem HW {u v:Value} (h:Wi u=some v):v=u/\u.oneCell'=true:=by
 grind [Wi]
theorem wO {w:World} {b i:Nat} {u:Value} (h:ce w b i=some u) (hu:u.oneCell'=true):w.cell? ⟨b,i,none⟩=some u:=by
 unfold ce at h;split at h
 ·split at h
  ·injection h with h;subst h;cases hu
  ·cases h
 ·cases hc:w.cell? ⟨b,i,none⟩ with
  | none=>grind
  | some v=>
   rw[hc] at h;have:=HW h;rw[this.1]
theorem JF {w:World} {b i:Nat} {u:Value} (h:w.cell? ⟨b,i,none⟩=some u) (hu:u.oneCell'=true):ce w b i=some u:=by
 grind [World.cell?,ce,Wi]
theorem aaH:∀ {a b:List (Value×Value)},FU a=FU b->a=b:=by
 have main:∀ (a b:List (Value×Value)),(a.map λkv=>Value.tuple #[kv.1,kv.2])=(b.map λkv=>Value.tuple #[kv.1,kv.2])->a=b:=by
  intro a
  induction a with
  | nil=>simp_all
  | cons x a ih=>
   intro b h;cases b <;> grind
 grind [FU]
theorem Ys {w:World} {r:Nat} {wD:List (Value×Value)} (h:ce w r 0=some (FU wD)):∃ es clock,w.heap[r]?=some (.map es clock)/\entriesOf es=wD:=by
 unfold ce at h;split at h
 ·grind [aaH]
 ·cases hc:w.cell? ⟨r,0,none⟩ with
  | none=>grind
  | some v=>
   rw[hc] at h;have:=HW h;have h2:=this.2;rw[<-this.1] at h2;cases h2
theorem Yt {w:World} {r:Nat} {es:Array MapEntry} {clock:Nat} (h:w.heap[r]?=some (.map es clock)):ce w r 0=some (FU (entriesOf es)):=by
 grind [ce]
def Has (w:World) (b o:Nat) (L:List Value):Prop:=∀ j u,L[j]?=some u->ce w b (o+j)=some u
def KO:Ty->Bool
 | .int .u8=>true
 | _=>false
def jR (w:World) (b:Nat) (n:Nat×Bool):Prop:=∃ c e fr,w.heap[b]?=some (.cells c e fr)/\c.size=n.1/\(∀ i,i < n.1->¬ (fr.1<=i/\i < fr.2))/\(n.2=false->¬ (fr.1<=n.1/\n.1 < fr.2))
def d8 (b o n:Nat):FP:=λb' i=>if b'=b/\o<=i/\i < o+n then 1 else 0
def bh:Nat->(Nat->FP)->FP
 | 0,_=>λ_ _=>0
 | n+1,f=>λb i=>bh n f b i+f n b i
def il (f:Nat->FP) (j:Nat) (g:FP):Nat->FP:=λi=>if i=j then g else f i
theorem zt {n:Nat} {f g:Nat->FP} (h:∀ j,j < n->f j=g j):bh n f=bh n g:=by
 induction n with
 | zero=>rfl
 | succ n ih=>
  funext b i;simp only[bh];rw[ih (λj hj=>h j Bys),h n Bys]
theorem vS {n:Nat} (f:Nat->FP) {j:Nat} (hj:j < n) (g:FP) (b i:Nat):bh n (il f j g) b i+f j b i=bh n f b i+g b i:=by
 induction n with
 | zero=>omega
 | succ n ih=>
  simp only[bh];by_cases h:j=n
  ·subst h;have:bh j (il f j g)=bh j f:=zt λk hk=>by grind [il]
   rw[this];simp[il];omega
  ·have:=ih Bys;have e:il f j g n=f n:=by grind [il]
   rw[e];omega
theorem QX {n:Nat} (f:Nat->FP) {j:Nat} (hj:n<=j) (g:FP):bh n (il f j g)=bh n f:=
 zt λk hk=>by grind [il]
theorem dw {n:Nat} (f:Nat->FP) {j:Nat} (hj:j < n) (b i:Nat):f j b i<=bh n f b i:=by
 induction n <;> grind [bh]
theorem vT {n:Nat} (f:Nat->FP) {j k:Nat} (hj:j < n) (hk:k < n) (i7:j≠k) (b i:Nat):f j b i+f k b i<=bh n f b i:=by
 have h1:=vS f hj (λ_ _=>0) b i;have h2:=dw (il f j λ_ _=>0) hk b i;have e:il f j (λ_ _=>0) k=f k:=by grind [il]
 rw[e] at h2;grind
theorem oB (n:Nat) (b i:Nat):bh n (λ_ _ _=>0) b i=0:=by
 induction n <;> grind [bh]
theorem xi (n m:Nat) (f:Nat->FP) (b i:Nat):bh (n+m) f b i=bh n f b i+bh m (λj=>f (n+j)) b i:=by
 induction m <;> grind [bh]
theorem NS {n:Nat} {f g:Nat->FP} (b i:Nat) (h:∀ j,j < n->f j b i<=g j b i):bh n f b i<=bh n g b i:=by
 induction n <;> grind [bh]
theorem OM (n:Nat) (f:Nat->FP) (k m:Nat) (h:k+m<=n) (b i:Nat):bh m (λj=>f (k+j)) b i<=bh n f b i:=by
 have e:n=k+(m+(n - k - m)):=by omega
 grind [xi]
theorem QY {n:Nat} {f:Nat->FP} {b i:Nat} (h:1<=bh n f b i):∃ j,j < n/\1<=f j b i:=by
 induction n <;> grind [bh]
section
variable (P:Program) (w:World) (A:Cells)
def Ro:(t:Ty)->t.den->List Value->Prop
 | .int k,v,cs=>cs=[.int k (qR k v)]
 | .bool,v,cs=>cs=[.bool v]
 | .str,v,cs=>cs=[.string ⟨List.toArray v⟩]
 | .unit,_,cs=>cs=[]
 | .pair a b,v,cs=>Ro a v.1 (cs.take a.sz)/\Ro b v.2 (cs.drop a.sz)
 | .arr n e,v,cs=>e.flat=true/\List.length v=n/\cs.length=n*e.sz/\∀ (i:Nat) (x:e.den),v[i]?=some x->Ro e x ((cs.drop (i*e.sz)).take e.sz)
 | .aa e,v,cs=>∃ a cap,cs=[.slice a (List.length v) cap]/\List.length v<=cap/\(a=none->List.length v=0)/\∀ ad,a=some ad->(0 < cap->ad.spot=none) /\
   ∀ (i:Nat) (x:e.den),v[i]?=some x->∃ L:List Value,L.length=e.sz/\(∀ j u,L[j]?=some u->ce w ad.block (ad.off+i*e.sz+j)=some u/\A ad.block (ad.off+i*e.sz+j))/\Ro e x L
 | .ptr e,v,cs=>∃ ad,cs=[.pointer (some ad)]/\ad.spot=none /\
   ∃ L:List Value,L.length=e.sz/\(∀ j u,L[j]?=some u->ce w ad.block (ad.off+j)=some u/\A ad.block (ad.off+j))/\Ro e v L
 | .fn,v,cs=>∃ BT,cs=[.func (.func v.1) #[] BT]/\∃ fn,P.funcs[v.1]?=some fn /\
   ((fn.nfree=0/\BT=#[])\/(fn.nfree=1/\∃ ad:Addr,BT=#[.pointer (some ad)]/\ad.spot=none/\ce w ad.block ad.off=some (.int .i64 v.2)/\A ad.block ad.off))
 | .map k v,x,cs=>k.flat=true/\v.flat=true/\∃ (r:Nat) (wD:List (Value×Value)),cs=[.map (some r)]/\ce w r 0=some (FU wD)/\A r 0/\wD.length=List.length x /\
   ∀ (i:Nat) (y:k.den×v.den),x[i]?=some y->∃ (kc vc:List Value),wD[i]?=some (dj k kc,dj v vc)/\Ro k y.1 kc/\Ro v y.2 vc
def hole (H:List Path):Bool:=H.any (·.isEmpty)
def mp (i:Nat):Path->Option Path
 | .idx j::p=>if i=j then some p else none
 | _=>none
def am:(t:Ty)->Md->List Path->t.den->List Value->FP->Prop
 | .pair a b,m,H,v,cs,F=>hole H=false/\∃ F1 F2:FP,(∀ x i,F1 x i+F2 x i<=F x i) /\
   am a m.l (H.filterMap yq) v.1 (cs.take a.sz) F1/\am b m.r (H.filterMap yr) v.2 (cs.drop a.sz) F2
 | .aa e,m,H,v,cs,F=>
   if hole H then ∃ x:Value,cs=[x]/\x.oneCell'=true
   else if m.own then ∃ a cap,cs=[.slice a (List.length v) cap]/\List.length v<=cap/\cap<=maxLen/\(a=none->cap=0)/\∀ ad,a=some ad->ad.off=0/\ad.spot=none /\
    jR w ad.block (cap*e.sz,KO e)/\∃ Fi:Nat->FP,(∀ x i,d8 ad.block 0 (cap*e.sz) x i+bh (List.length v) Fi x i<=F x i) /\
    ∀ (i:Nat) (x:e.den),v[i]?=some x->∃ L:List Value,L.length=e.sz/\Has w ad.block (i*e.sz) L/\am e m.e (H.filterMap (mp i)) x L (Fi i)
   else H=[]/\m.e.l8=true/\Ro P w A (.aa e) v cs
 | .ptr e,m,H,v,cs,F=>
   if hole H then ∃ x:Value,cs=[x]/\x.oneCell'=true
   else if m.own then ∃ b,cs=[.pointer (some ⟨b,0,none⟩)]/\jR w b (e.sz,false)/\∃ (L:List Value) (F1:FP),L.length=e.sz/\Has w b 0 L /\
    (∀ x i,d8 b 0 e.sz x i+F1 x i<=F x i)/\am e m.e [] v L F1
   else H=[]/\m.e.l8=true/\Ro P w A (.ptr e) v cs
 | .int k,_,_,v,cs,_=>Ro P w A (.int k) v cs
 | .bool,_,_,v,cs,_=>Ro P w A .bool v cs
 | .str,_,_,v,cs,_=>Ro P w A .str v cs
 | .unit,_,_,v,cs,_=>Ro P w A .unit v cs
 | .arr n e,_,H,v,cs,_=>H=[]/\Ro P w A (.arr n e) v cs
 | .fn,_,_,v,cs,_=>Ro P w A .fn v cs
 | .map k v,m,H,x,cs,F=>
   if hole H then ∃ x:Value,cs=[x]/\x.oneCell'=true
   else if m.own then k.flat=true/\v.flat=true/\∃ (r:Nat) (wD:List (Value×Value)),cs=[.map (some r)]/\ce w r 0=some (FU wD)/\1<=F r 0/\wD.length=List.length x /\
    ∀ (i:Nat) (y:k.den×v.den),x[i]?=some y->∃ (kc vc:List Value),wD[i]?=some (dj k kc,dj v vc)/\Ro P w A k y.1 kc/\Ro P w A v y.2 vc
   else H=[]/\m.e.l8=true/\Ro P w A (.map k v) x cs
end
theorem Ro.length {P:Program} {w:World} {A:Cells}:∀ (t:Ty) {v:t.den} {cs:List Value},Ro P w A t v cs->cs.length=t.sz:=by
 intro t
 induction t <;> grind [Ty.sz,Ro]
theorem am.length {P:Program} {w:World} {A:Cells}:∀ (t:Ty) {m:Md} {H:List Path} {v:t.den} {cs:List Value} {F:FP},am P w A t m H v cs F->cs.length=t.sz:=by
 intro t
 induction t <;> grind [Ty.sz,am,Ro.length]
structure Agr (w w':World) (S:Nat->Nat->Prop):Prop where
 cell:∀ b i,S b i->∀ u,ce w b i=some u->ce w' b i=some u
 y0:∀ b n,jR w b n->jR w' b n
theorem Ro.mono {P:Program} {w w':World} {A A':Cells} (hc:∀ b i,A b i->∀ u,ce w b i=some u->ce w' b i=some u) (hA:∀ b i,A b i->A' b i) :
  ∀ (t:Ty) {v:t.den} {cs:List Value},Ro P w A t v cs->Ro P w' A' t v cs:=by
 intro t
 induction t with
 | pair a b nY nH=>intro v cs h;exact ⟨nY h.1,nH h.2⟩
 | arr n e ih=>intro v cs h;exact ⟨h.1,h.2.1,h.2.2.1,λi x hx=>ih (h.2.2.2 i x hx)⟩
 | aa e ih=>
  rintro v cs ⟨a,cap,h1,h2,h3,h4⟩;refine ⟨a,cap,h1,h2,h3,λad lI=>⟨(h4 ad lI).1,λi x hx=>?_⟩⟩
  grind
 | ptr e ih=>
  rintro v cs ⟨ad,h1,h2,L,hl,hL,hr⟩;exact ⟨ad,h1,h2,L,hl,λj u hu=>⟨hc _ _ (hL j u hu).2 u (hL j u hu).1,hA _ _ (hL j u hu).2⟩,ih hr⟩
 | fn=>
  rintro v cs ⟨BT,h1,fn,h2,h3⟩;refine ⟨BT,h1,fn,h2,?_⟩
  grind
 | map k v ihk ihv=>
  rintro x cs ⟨h1,h2,r,wD,h3,h4,h5,h6,h7⟩;refine ⟨h1,h2,r,wD,h3,hc _ _ h5 _ h4,hA _ _ h5,h6,λi y hy=>?_⟩
  grind
 | _=>intro v cs h;exact h
theorem am.mono {P:Program} {w w':World} {A A':Cells} (hA:∀ b i,A b i->A' b i) (hc:∀ b i,A b i->∀ u,ce w b i=some u->ce w' b i=some u) (hb:∀ b n,jR w b n->jR w' b n) :
  ∀ (t:Ty) {m:Md} {H:List Path} {v:t.den} {cs:List Value} {F F':FP},am P w A t m H v cs F->(∀ b i,F b i<=F' b i)->(∀ b i,1<=F b i->∀ u,ce w b i=some u->ce w' b i=some u)->am P w' A' t m H v cs F':=by
 intro t
 induction t with
 | pair a b nY nH=>
  intro m H v cs F F' h hF CV;obtain ⟨h0,F1,F2,hs,h1,h2⟩:=h
  exact ⟨h0,F1,F2,λx i=>bB (hs x i) (hF x i),nY h1 (λ_ _=>aG _) (λb i hp=>CV b i (by grind)),
   nH h2 (λ_ _=>aG _) (λb i hp=>CV b i (by grind))⟩
 | aa e ih=>
  intro m H v cs F F' h hF CV;simp only[am] at h ⊢;split at h
  ·grind
  ·rename_i hh;rw[aN hh];split at h
   ·rename_i hm;rw[aH hm];obtain ⟨a,cap,h1,h2,h3,h4,h5⟩:=h;refine ⟨a,cap,h1,h2,h3,h4,λad lI=>?_⟩
    obtain ⟨g1,g2,g3,Fi,g4,g5⟩:=h5 ad lI;refine ⟨g1,g2,hb _ _ g3,Fi,λx i=>bB (g4 x i) (hF x i),λi x hx=>?_⟩
    obtain ⟨L,hl,hL,hr⟩:=g5 i x hx;have hi:i < List.length v:=(aO.1 hx).1;refine ⟨L,hl,λj u hu=>CV _ _ ?_ u (hL j u hu),ih hr (λ_ _=>aG _) (λb k hp=>CV b k ?_)⟩
    ·have:=g4 ad.block (i*e.sz+j);have hj:j < e.sz:=hl ▸ (aO.1 hu).1
     have:i*e.sz+j < cap*e.sz:=by
      have h1:(i+1)*e.sz<=cap*e.sz:=bD _ Bys;grind
     grind [d8]
    grind [dw]
   grind [Ro.mono]
 | ptr e ih=>
  intro m H v cs F F' h hF CV;simp only[am] at h ⊢;split at h
  ·grind
  ·rename_i hh;rw[aN hh];split at h
   ·rename_i hm;rw[aH hm];obtain ⟨b,h1,h2,L,F1,h3,h4,h5,h6⟩:=h;refine ⟨b,h1,hb _ _ h2,L,F1,h3,λj u hu=>CV _ _ ?_ u (h4 j u hu),λx i=>bB (h5 x i) (hF x i),ih h6 (λ_ _=>aG _) (λb' k hp=>CV b' k ?_)⟩
    all_goals grind [d8]
   grind [Ro.mono]
 | arr n e ih=>intro m H v cs F F' h hF CV;exact ⟨h.1,Ro.mono hc hA _ h.2⟩
 | map k v ihk ihv=>
  grind [am,Ro.mono]
 | _=>intro m H v cs F F' h hF CV;exact Ro.mono hc hA _ h
theorem am.le {P:Program} {w:World} {A:Cells} {t:Ty} {m:Md} {H:List Path} {v:t.den} {cs:List Value} {F F':FP} (h:am P w A t m H v cs F) (hF:∀ b i,F b i<=F' b i):am P w A t m H v cs F':=
 am.mono (λ_ _ h=>h) (λ_ _ _ _ h=>h) (λ_ _ h=>h) t h hF (λ_ _ _ _ h=>h)
theorem am.zu {P:Program} {w:World} {A A':Cells} (hA:∀ b i,A b i->A' b i) :
  ∀ (t:Ty) {m:Md} {v:t.den} {cs:List Value} {F:FP},am P w A t m [] v cs F->(∀ b i,1<=F b i->A' b i)->Ro P w A' t v cs:=by
 intro t
 induction t with
 | pair a b nY nH=>
  intro m v cs F h hF;obtain ⟨h0,F1,F2,hs,h1,h2⟩:=h;exact ⟨nY h1 (λb i hp=>hF b i (by grind)),nH h2 (λb i hp=>hF b i (by grind))⟩
 | aa e ih=>
  intro m v cs F h hF;simp only[am,hole,bU,aF,aU] at h;split at h
  ·obtain ⟨a,cap,h1,h2,h3,h4,h5⟩:=h;refine ⟨a,cap,h1,h2,λhn=>by grind,λad lI=>?_⟩
   obtain ⟨g1,g2,g3,Fi,g4,g5⟩:=h5 ad lI;refine ⟨λ_=>g2,λi x hx=>?_⟩
   obtain ⟨L,hl,hL,hr⟩:=g5 i x hx;have hi:i < List.length v:=(aO.1 hx).1;refine ⟨L,hl,λj u hu=>?_,ih hr λb k hp=>hF b k ?_⟩
   ·rw[g1,bS];refine ⟨hL j u hu,hF _ _ ?_⟩
    have:=g4 ad.block (i*e.sz+j);have hj:j < e.sz:=hl ▸ (aO.1 hu).1
    have:i*e.sz+j < cap*e.sz:=by
     have h1:(i+1)*e.sz<=cap*e.sz:=bD _ Bys;grind
    grind [d8]
   grind [dw]
  grind [Ro.mono]
 | ptr e ih=>
  intro m v cs F h hF;simp only[am,hole,bU,aF,aU] at h;split at h
  ·obtain ⟨b,h1,h2,L,F1,h3,h4,h5,h6⟩:=h;refine ⟨_,h1,rfl,L,h3,λj u hu=>⟨h4 j u hu,hF _ _ ?_⟩,ih h6 λb' k hp=>hF _ _ ?_⟩
   all_goals grind [d8]
  grind [Ro.mono]
 | arr n e ih=>intro m v cs F h hF;exact Ro.mono (λ_ _ _ _ h=>h) hA _ h.2
 | map k v ihk ihv=>
  intro m x cs F h hF;simp only[am,hole,bU,aF,aU] at h;split at h
  ·obtain ⟨h1,h2,r,wD,h3,h4,h5,h6,h7⟩:=h;refine ⟨h1,h2,r,wD,h3,h4,hF _ _ h5,h6,λi y hy=>?_⟩
   grind [Ro.mono]
  grind [Ro.mono]
 | _=>intro m v cs F h hF;exact Ro.mono (λ_ _ _ _ h=>h) hA _ h
end OT
set_option linter.unusedVariables false
set_option linter.unusedSimpArgs false
namespace OT
open Go
theorem UP {m:Md} (h:m.l8=true):m.l.l8=true:=by cases m <;> simp_all [Md.l8,Md.l]
theorem UQ {m:Md} (h:m.l8=true):m.r.l8=true:=by cases m <;> simp_all [Md.l8,Md.r]
theorem NT {m:Md} (h:m.l8=true):m.e.l8=true:=by cases m <;> simp_all [Md.l8,Md.e]
theorem y9 {m:Md} (h:m.l8=true):m.own=false:=by cases m <;> simp_all [Md.l8,Md.own]
theorem jh (t:Ty):(ah t).l8=true:=by
 induction t <;> simp_all [ah,wU,Md.l8]
theorem aee {m m1:Md} (h:fits m m1=true):fits m.l m1.l=true:=by cases m <;> cases m1 <;> simp_all [fits,Md.l]
theorem aef {m m1:Md} (h:fits m m1=true):fits m.r m1.r=true:=by cases m <;> cases m1 <;> simp_all [fits,Md.r]
theorem Yu {m m1:Md} (h:fits m m1=true):fits m.e m1.e=true:=by cases m <;> cases m1 <;> simp_all [fits,Md.e]
theorem KP {m m1:Md} (h:fits m m1=true):m1.own=true->m.own=true:=by
 intro h1;cases m <;> cases m1 <;> simp_all [fits,Md.own]
theorem NU {m m1:Md} (h:fits m m1=true) (h1:m1.own=false):m1.e.l8=true\/∃ e,m1=.arr e:=by
 cases m <;> cases m1 <;> simp_all [fits,Md.own,Md.e,Md.l8]
theorem FV:∀ {m m1:Md},fits m m1=true->m.l8=true->m1.l8=true:=by
 intro m
 induction m with
 | leaf=>grind [fits]
 | pair a b nY nH=>
  intro m1 h hn;cases m1 <;> grind [fits,Md.l8]
 | arr e ih=>
  intro m1 h hn;cases m1 <;> grind [fits,Md.l8]
 | aa o e ih=>
  intro m1 h hn;cases m1 <;> grind [fits,Md.l8]
 | ptr o e ih=>
  intro m1 h hn;cases m1 <;> grind [fits,Md.l8]
section
variable {P:Program} {w:World} {A:Cells}
theorem Ro.rep:∀ (t:Ty) {m:Md} {v:t.den} {cs:List Value} (F:FP),m.l8=true->Ro P w A t v cs->am P w A t m [] v cs F:=by
 intro t
 induction t with
 | pair a b nY nH=>
  intro m v cs F hm h;exact ⟨rfl,λ_ _=>0,λ_ _=>0,λ_ _=>aX _,nY _ (UP hm) h.1,nH _ (UQ hm) h.2⟩
 | aa e ih=>grind [am,hole,y9,NT]
 | ptr e ih=>grind [am,hole,y9,NT]
 | arr n e ih=>intro m v cs F hm h;exact ⟨rfl,h⟩
 | map k v=>grind [am,hole,y9,NT]
 | _=>intro m v cs F hm h;exact h
theorem am.ro:∀ (t:Ty) {m:Md} {v:t.den} {cs:List Value} {F:FP},m.l8=true->am P w A t m [] v cs F->Ro P w A t v cs:=by
 intro t
 induction t with
 | pair a b nY nH=>
  intro m v cs F hm h;obtain ⟨_,F1,F2,_,h1,h2⟩:=h;exact ⟨nY (UP hm) h1,nH (UQ hm) h2⟩
 | aa e ih=>grind [am,hole,y9]
 | ptr e ih=>grind [am,hole,y9]
 | arr n e ih=>intro m v cs F hm h;exact h.2
 | map k v=>grind [am,hole,y9]
 | _=>intro m v cs F hm h;exact h
theorem Ro.flat:∀ (t:Ty) {m:Md} {v:t.den} {cs:List Value} (F:FP),t.flat=true->Ro P w A t v cs->am P w A t m [] v cs F:=by
 intro t
 induction t with
 | pair a b nY nH=>
  intro m v cs F hm h;simp only[Ty.flat,aC] at hm;exact ⟨rfl,λ_ _=>0,λ_ _=>0,λ_ _=>aX _,nY _ hm.1 h.1,nH _ hm.2 h.2⟩
 | aa e ih=>grind [Ty.flat]
 | ptr e ih=>grind [Ty.flat]
 | arr n e ih=>intro m v cs F hm h;exact ⟨rfl,h⟩
 | map k v=>grind [Ty.flat]
 | _=>intro m v cs F hm h;exact h
theorem am.flat:∀ (t:Ty) {m:Md} {H:List Path} {v:t.den} {cs:List Value} {F:FP},t.flat=true->am P w A t m H v cs F->Ro P w A t v cs:=by
 intro t
 induction t with
 | pair a b nY nH=>
  intro m H v cs F hm h;simp only[Ty.flat,aC] at hm;obtain ⟨_,F1,F2,_,h1,h2⟩:=h;exact ⟨nY hm.1 h1,nH hm.2 h2⟩
 | aa e ih=>grind [Ty.flat]
 | ptr e ih=>grind [Ty.flat]
 | arr n e ih=>intro m H v cs F hm h;exact h.2
 | map k v=>grind [Ty.flat]
 | _=>intro m H v cs F hm h;exact h
theorem am.fits:∀ (t:Ty) {m m1:Md} {v:t.den} {cs:List Value} {F:FP},fits m m1=true->am P w A t m [] v cs F->(∀ b i,F b i<=1) ->
  ∃ F1:FP,(∀ b i,F1 b i<=F b i)/\∀ A':Cells,(∀ b i,A b i->A' b i)->(∀ b i,1<=F b i->F1 b i=0->A' b i)->am P w A' t m1 [] v cs F1:=by
 intro t
 induction t with
 | pair a b nY nH=>
  intro m m1 v cs F hf h hF;obtain ⟨_,Fa,Fb,hs,h1,h2⟩:=h;obtain ⟨G1,hG1,k1⟩:=nY (aee hf) h1 (λb i=>by grind);obtain ⟨G2,hG2,k2⟩:=nH (aef hf) h2 (λb i=>by grind);refine ⟨λb i=>G1 b i+G2 b i,λb i=>by grind,λA' hA pk=>⟨rfl,G1,G2,λ_ _=>aG _,k1 A' hA λb i hp hz=>?_,k2 A' hA λb i hp hz=>?_⟩⟩
  ·have:=hs b i;have:=hF b i;have:=hG2 b i
   exact pk b i Bys (by grind)
  ·have:=hs b i;have:=hF b i;have:=hG1 b i
   exact pk b i Bys (by grind)
 | aa e ih=>
  intro m m1 v cs F hf h hF;by_cases Hx:m1.own=true
  ·have hm:=KP hf Hx;simp only[am,hole,bU,aF,aU,hm,aL] at h;obtain ⟨a,cap,h1,h2,h3,h4,h5⟩:=h
   cases a with
   | none=>
    refine ⟨λ_ _=>0,λ_ _=>aX _,λA' hA pk=>?_⟩
    grind [am,hole]
   | some ad=>
    obtain ⟨g1,g2,g3,Fi,g4,g5⟩:=h5 ad rfl
    have each:∀ i,∃ Gi:FP,(∀ b k,Gi b k<=Fi i b k)/\∀ A':Cells,(∀ b i,A b i->A' b i)->(∀ b k,1<=Fi i b k->Gi b k=0->A' b k) ->
      ∀ x,v[i]?=some x->∃ L:List Value,L.length=e.sz/\Has w ad.block (i*e.sz) L/\am P w A' e m1.e (([]:List Path).filterMap (mp i)) x L Gi:=by
     intro i
     cases hx:(v:List e.den)[i]? with
     | none=>exact ⟨λ_ _=>0,λ_ _=>aX _,λA' _ _ x Yv=>by cases Yv⟩
     | some x=>
      obtain ⟨L,hl,hL,hr⟩:=g5 i x hx;have hi:i < List.length v:=(aO.1 hx).1;obtain ⟨G,hG,k⟩:=ih (Yu hf) hr (λb k=>by have:=dw Fi hi b k;grind);exact ⟨G,hG,λA' hA pk x' Yv=>by injection Yv with Yv;subst Yv;exact ⟨L,hl,hL,k A' hA pk⟩⟩
    have ⟨Gi,hGi⟩:=fV each;refine ⟨λb k=>d8 ad.block 0 (cap*e.sz) b k+bh (List.length v) Gi b k,λb k=>?_,λA' hA pk=>?_⟩
    ·have:=g4 b k;have:=NS b k (f:=Gi) (g:=Fi) (n:=List.length v) λj _=>(hGi j).1 b k
     grind
    ·simp only[am,hole,bU,aF,aU,Hx,aL];refine ⟨some ad,cap,h1,h2,h3,h4,λdp Wj=>?_⟩
     injection Wj with Wj;subst Wj;refine ⟨g1,g2,g3,Gi,λ_ _=>aG _,λi x hx=>(hGi i).2 A' hA (λb k hp hz=>?_) x hx⟩
     have hi:i < List.length v:=(aO.1 hx).1;have h1:=g4 b k;have h2:=hF b k;have h3:=dw Fi hi b k
     refine pk b k Bys ?_;show d8 ad.block 0 (cap*e.sz) b k+bh (List.length v) Gi b k=0
     have:bh (List.length v) Gi b k=0:=by
      rcases bK (bh (List.length v) Gi b k) with h0 | h0
      ·exact h0
      ·obtain ⟨j,hj,hp'⟩:=QY h0;have:=(hGi j).1 b k;by_cases qk:j=i
       all_goals grind [vT]
     omega
  ·have QZ:m1.own=false:=by simpa using Hx
   have sa:m1.e.l8=true:=by
    rcases NU hf QZ with h | ⟨e',rfl⟩
    ·exact h
    ·cases m <;> simp[OT.fits] at hf;simp only[am,hole,bU,aF,aU,Md.own] at h;exact FV hf h.2.1
   refine ⟨λ_ _=>0,λ_ _=>aX _,λA' hA pk=>?_⟩
   grind [am.zu,am]
 | ptr e ih=>
  intro m m1 v cs F hf h hF;by_cases Hx:m1.own=true
  ·have hm:=KP hf Hx;simp only[am,hole,bU,aF,aU,hm,aL] at h;obtain ⟨b,h1,h2,L,F1,h3,h4,h5,h6⟩:=h;obtain ⟨G,hG,k⟩:=ih (Yu hf) h6 (λb' i=>by grind);refine ⟨λb' k=>d8 b 0 e.sz b' k+G b' k,λb' k=>by grind,λA' hA pk=>?_⟩
   simp only[am,hole,bU,aF,aU,Hx,aL];refine ⟨b,h1,h2,L,G,h3,h4,λ_ _=>aG _,k A' hA λb' i hp hz=>pk b' i ?_ ?_⟩
   all_goals grind
  ·have QZ:m1.own=false:=by simpa using Hx
   have sa:m1.e.l8=true:=by
    rcases NU hf QZ with h | ⟨e',rfl⟩
    ·exact h
    ·cases m <;> simp[OT.fits] at hf;simp only[am,hole,bU,aF,aU,Md.own] at h;exact FV hf h.2.1
   refine ⟨λ_ _=>0,λ_ _=>aX _,λA' hA pk=>?_⟩
   grind [am.zu,am]
 | arr n e ih=>intro m m1 v cs F hf h hF;exact ⟨λ_ _=>0,λ_ _=>aX _,λA' hA pk=>⟨rfl,Ro.mono (λ_ _ _ _ h=>h) hA _ h.2⟩⟩
 | map k v ihk ihv=>
  intro m m1 x cs F hf h hF;by_cases Hx:m1.own=true
  ·have hm:=KP hf Hx;simp only[am,hole,bU,aF,aU,hm,aL] at h;obtain ⟨h1,h2,r,wD,h3,h4,h5,h6,h7⟩:=h;refine ⟨F,λ_ _=>aG _,λA' hA pk=>?_⟩
   grind [am,hole,Ro.mono]
  ·have QZ:m1.own=false:=by simpa using Hx
   have sa:m1.e.l8=true:=by
    rcases NU hf QZ with h | ⟨e',rfl⟩
    ·exact h
    ·cases m <;> simp[OT.fits] at hf;simp only[am,hole,bU,aF,aU,Md.own] at h;exact FV hf h.2.1
   refine ⟨λ_ _=>0,λ_ _=>aX _,λA' hA pk=>?_⟩
   grind [am.zu,am]
 | _=>intro m m1 v cs F hf h hF;exact ⟨λ_ _=>0,λ_ _=>aX _,λA' hA pk=>Ro.mono (λ_ _ _ _ h=>h) hA _ h⟩
end
end OT
set_option linter.unusedVariables false
set_option linter.unusedSimpArgs false
namespace OT
open Go
def rd (w:World) (b o n:Nat):List Value:=(List.range n).map λj=>(ce w b (o+j)).getD undef
theorem Bo (w:World) (b o n:Nat):(rd w b o n).length=n:=by simp[rd]
theorem f_ {w:World} {b o:Nat} {L:List Value} {n:Nat} (h:Has w b o L) (hn:L.length=n):rd w b o n=L:=by
 subst hn;apply eC;intro j;unfold rd;rw[fB];by_cases hj:j < L.length
 ·rw[gR hj];have:=h j L[j] (aB hj);grind
 grind
structure Pl where
 t:Ty
 H:List Path
 cs:List Value
 ad:Option (Nat×Nat)
def jo (ad:Option (Nat×Nat)) (k:Nat):Option (Nat×Nat):=ad.map λx=>(x.1,x.2+k)
def cd (w:World):Path->Ty->List Path->List Value->Option (Nat×Nat)->Option Pl
 | [],t,H,cs,ad=>some ⟨t,H,cs,ad⟩
 | .fst::p,.pair a _,H,cs,ad=>if hole H then none else cd w p a (H.filterMap yq) (cs.take a.sz) ad
 | .snd::p,.pair a b,H,cs,ad=>if hole H then none else cd w p b (H.filterMap yr) (cs.drop a.sz) (jo ad a.sz)
 | .idx i::p,.aa e,H,cs,_=>if hole H then none else match cs with
  | [.slice (some a) n _]=>if i < n then cd w p e (H.filterMap (mp i)) (rd w a.block (a.off+i*e.sz) e.sz) (some (a.block,a.off+i*e.sz)) else none
  | _=>none
 | .sX i::p,.arr n e,H,cs,ad=>if H.isEmpty then (if i < n then cd w p e [] ((cs.drop (i*e.sz)).take e.sz) (jo ad (i*e.sz)) else none) else none
 | _,_,_,_,_=>none
def zw:Ty->Bool
 | .aa _ | .map _ _=>true
 | _=>false
def uk (d:Nat) (full:Prop) (w:World) (t:Ty) (H:List Path) (cs:List Value) (ad:Option (Nat×Nat)) (w2:World) (H2:List Path) (dO:List Value):Prop:=
 ∀ q pl,en q<=d->cd w q t H cs ad=some pl->∃ H' cn,cd w2 q t H2 dO ad=some ⟨pl.t,H',cn,pl.ad⟩/\((en q < d/\zw pl.t=true)\/full->cn=pl.cs)
theorem HX {R:Type} {H:List Path} {i:Nat} {K:List Path->Option R} {r:R} (h:Aw H i K=some r) :
  K (H.filterMap (mp i))=some r/\(∀ j,j≠i->H.filterMap (mp j)=[])/\hole H=false:=by
 unfold Aw at h;split at h
 ·exact ⟨h,λ_ _=>rfl,rfl⟩
 ·rename_i j q;split at h
  ·rename_i sb;subst sb;refine ⟨by simpa [mp] using h,λj hj=>by simp[mp,hj],rfl⟩
  ·cases h
 ·cases h
theorem FW {R S:Type} {H:List Path} {i:Nat} {K:List Path->Option R} {r:R} (h:Aw H i K=some r) (K2:List Path->Option S) :
  Aw H i K2=K2 (H.filterMap (mp i)):=by
 unfold Aw at h ⊢;grind [mp]
theorem wE (H:List Path):(H.map (.fst::·)).filterMap yq=H:=by
 induction H <;> simp_all [yq]
theorem wF (H:List Path):(H.map (.snd::·)).filterMap yr=H:=by
 induction H <;> simp_all [yr]
theorem xj (H:List Path):(H.map (.snd::·)).filterMap yq=[]:=by
 simp_all [yq]
theorem xk (H:List Path):(H.map (.fst::·)).filterMap yr=[]:=by
 simp_all [yr]
theorem Hy (i:Nat) (H:List Path):(H.map (.idx i::·)).filterMap (mp i)=H:=by
 induction H <;> simp_all [mp]
theorem CW {i j:Nat} (h:j≠i) (H:List Path):(H.map (.idx i::·)).filterMap (mp j)=[]:=by
 simp_all [mp]
theorem tJ (s:Step) (H:List Path):hole (H.map (s::·))=false:=by
 grind [hole]
theorem uQ (H1 H2:List Path):hole (H1++H2)=(hole H1||hole H2):=by simp[hole]
theorem afO {w:World}:∀ (q:Path) (t:Ty) {H H2:List Path} {cs:List Value} {ad:Option (Nat×Nat)} {pl ON:Pl},cd w q t H cs ad=some pl->cd w q t H2 cs ad=some ON->ON.t=pl.t/\ON.cs=pl.cs/\ON.ad=pl.ad:=by
 intro q
 induction q with
 | nil=>grind [cd]
 | cons s q ih=>
  intro t H H2 cs ad pl ON h h2
  cases t with
  | pair a b=>
   cases s <;> grind [cd]
  | aa e=>
   cases s with
   | idx i=>
    simp only[cd] at h h2;grind
   | _=>simp[cd] at h
  | arr n e=>
   cases s <;> grind [cd]
  | _=>grind [cd]
section
variable {P:Program}
theorem y_ {w w2:World} {A:Cells} (hA:∀ b i,A b i->∀ u,ce w b i=some u->ce w2 b i=some u) :
  ∀ (q:Path) (t:Ty) {m:Md} {H:List Path} {v:t.den} {cs:List Value} {F:FP} {ad:Option (Nat×Nat)} {pl:Pl},am P w A t m H v cs F->(∀ b i,1<=F b i->∀ u,ce w b i=some u->ce w2 b i=some u) ->
  cd w q t H cs ad=some pl->cd w2 q t H cs ad=some pl:=by
 intro q
 induction q with
 | nil=>intro t m H v cs F ad pl _ _ h;exact h
 | cons s q ih=>
  intro t m H v cs F ad pl hr hF h
  cases t with
  | pair a b=>
   obtain ⟨h0,F1,F2,hs,h1,h2⟩:=hr;cases s <;> grind [cd]
  | aa e=>
   cases s with
   | fst=>simp[cd] at h
   | snd=>simp[cd] at h
   | sX i=>simp[cd] at h
   | idx i=>
    simp only[am] at hr;simp only[cd] at h ⊢;split at h
    ·cases h
    ·rename_i hh;rw[aN hh];rw[aN hh] at hr;split at hr
     ·obtain ⟨a,cap,rfl,h2,h3,h4,h5⟩:=hr
      cases a with
      | none=>cases h
      | some ji=>
       obtain ⟨g1,g2,g3,Fi,g4,g5⟩:=h5 ji rfl;simp only at h ⊢;split at h
       ·rename_i hi;rw[aH hi];obtain ⟨L,hl,hL,jL⟩:=g5 i _ (aB hi);have bc:(i+1)*e.sz<=cap*e.sz:=bD _ Bys;rw[dC] at bc
        have hL2:Has w2 ji.block (i*e.sz) L:=λj u hu=>by
         have hj:j < e.sz:=hl ▸ (aO.1 hu).1;refine hF _ _ ?_ u (hL j u hu);grind [d8]
        rw[g1,bS,f_ hL hl] at h;grind [f_,dw]
       ·cases h
     ·obtain ⟨rfl,sa,a,cap,rfl,h2,h3,h4⟩:=hr
      cases a with
      | none=>cases h
      | some ji=>
       simp only at h ⊢;split at h
       ·rename_i hi;rw[aH hi];obtain ⟨L,hl,hL,jL⟩:=(h4 ji rfl).2 i _ (aB hi);rw[f_ (λj u hu=>(hL j u hu).1) hl] at h;rw[f_ (λj u hu=>hA _ _ (hL j u hu).2 u (hL j u hu).1) hl];exact ih e (Ro.rep e (λ_ _=>0) sa jL) (λb k hp=>by simp at hp) h
       ·cases h
  | arr n e=>
   cases s with
   | fst=>simp[cd] at h
   | snd=>simp[cd] at h
   | idx i=>simp[cd] at h
   | sX i=>
    obtain ⟨rfl,hf,hl,hlen,hr⟩:=hr;simp only[cd,cQ,aL] at h ⊢;split at h
    ·rename_i hi;rw[aH hi];exact ih e (Ro.flat e (m:=.leaf) (λ_ _=>0) hf (hr i _ (aB (by grind)))) (λb k hp=>by simp at hp) h
    ·cases h
  | _=>grind [cd]
theorem Yw {w:World} {A:Cells} {S:Nat->Nat->Prop} (hA:∀ b i,A b i->S b i) :
  ∀ (q:Path) (t:Ty) {m:Md} {H:List Path} {v:t.den} {cs:List Value} {F:FP} {ad:Option (Nat×Nat)} {pl:Pl},am P w A t m H v cs F->(∀ b i,1<=F b i->S b i) ->
  (∀ b o,ad=some (b,o)->∀ j,j < t.sz->S b (o+j))->cd w q t H cs ad=some pl->∀ b o,pl.ad=some (b,o)->∀ j,j < pl.t.sz->S b (o+j):=by
 intro q
 induction q with
 | nil=>grind [cd]
 | cons s q ih=>
  intro t m H v cs F ad pl hr hF lI h
  cases t with
  | pair a b=>
   obtain ⟨h0,F1,F2,hs,h1,h2⟩:=hr
   cases s with
   | fst=>grind [cd,Ty.sz]
   | snd=>
    simp only[cd,h0,aU] at h;refine ih b h2 (λb i hp=>hF b i (by grind)) (λb' o e j hj=>?_) h
    cases ad with
    | none=>cases e
    | some y=>
     simp only[jo,bR,aQ,bN] at e;obtain ⟨rfl,rfl⟩:=e;grind [Ty.sz]
   | idx i=>simp[cd] at h
   | sX i=>simp[cd] at h
  | aa e=>
   cases s with
   | fst=>simp[cd] at h
   | snd=>simp[cd] at h
   | sX i=>simp[cd] at h
   | idx i=>
    simp only[am] at hr;simp only[cd] at h;split at h
    ·cases h
    ·rename_i hh;rw[aN hh] at hr;split at hr
     ·obtain ⟨a,cap,rfl,h2,h3,h4,h5⟩:=hr
      cases a with
      | none=>cases h
      | some ji=>
       obtain ⟨g1,g2,g3,Fi,g4,g5⟩:=h5 ji rfl;simp only at h;split at h
       ·rename_i hi;obtain ⟨L,hl,hL,jL⟩:=g5 i _ (aB hi);have bc:(i+1)*e.sz<=cap*e.sz:=bD _ Bys;rw[dC] at bc;rw[g1,bS,f_ hL hl] at h;grind [dw,d8]
       ·cases h
     ·obtain ⟨rfl,sa,a,cap,rfl,h2,h3,h4⟩:=hr
      cases a with
      | none=>cases h
      | some ji=>
       simp only at h;split at h
       ·rename_i hi;obtain ⟨L,hl,hL,jL⟩:=(h4 ji rfl).2 i _ (aB hi);rw[f_ (λj u hu=>(hL j u hu).1) hl] at h;refine ih e (Ro.rep e (λ_ _=>0) sa jL) (λb k hp=>by simp at hp) (λb' o e' j hj=>?_) h;simp only[aQ,bN] at e';obtain ⟨rfl,rfl⟩:=e';exact hA _ _ (hL j _ (aB Bys)).2
       ·cases h
  | arr n e=>
   cases s with
   | fst=>simp[cd] at h
   | snd=>simp[cd] at h
   | idx i=>simp[cd] at h
   | sX i=>
    obtain ⟨rfl,hf,hl,hlen,hr⟩:=hr;simp only[cd,cQ,aL] at h;split at h
    ·rename_i hi;refine ih e (Ro.flat e (m:=.leaf) (λ_ _=>0) hf (hr i _ (aB (by grind)))) (λb k hp=>by simp at hp) (λb' o e' j hj=>?_) h
     cases ad with
     | none=>cases e'
     | some y=>
      simp only[jo,bR,aQ,bN] at e';obtain ⟨rfl,rfl⟩:=e';have bc:(i+1)*e.sz<=n*e.sz:=bD _ hi;rw[dC] at bc;have:=lI y.1 y.2 rfl (i*e.sz+j) (by grind [Ty.sz])
      rwa [cW]
    ·cases h
  | _=>grind [cd]
theorem UR {w:World} {A:Cells} :
  ∀ (q:Path) (t:Ty) {m:Md} {H:List Path} {v:t.den} {cs:List Value} {F:FP} {ad:Option (Nat×Nat)} {pl:Pl},am P w A t m H v cs F ->
  (∀ b o,ad=some (b,o)->Has w b o cs)->cd w q t H cs ad=some pl->(∀ b o,pl.ad=some (b,o)->Has w b o pl.cs)/\∃ (m':Md) (v':pl.t.den) (F':FP),am P w A pl.t m' pl.H v' pl.cs F':=by
 intro q
 induction q with
 | nil=>grind [cd]
 | cons s q ih=>
  intro t m H v cs F ad pl hr lI h
  cases t with
  | pair a b=>
   obtain ⟨h0,F1,F2,hs,h1,h2⟩:=hr
   cases s with
   | fst=>
    simp only[cd,h0,aU] at h;exact ih a h1 (λb' o e j u hu=>lI b' o e j u (by grind)) h
   | snd=>
    simp only[cd,h0,aU] at h;refine ih b h2 (λb' o e j u hu=>?_) h
    cases ad with
    | none=>cases e
    | some y=>
     simp only[jo,bR,aQ,bN] at e;obtain ⟨rfl,rfl⟩:=e;rw[bP] at hu;have:=lI y.1 y.2 rfl (a.sz+j) u hu
     rwa [cW]
   | idx i=>simp[cd] at h
   | sX i=>simp[cd] at h
  | aa e=>
   cases s with
   | fst=>simp[cd] at h
   | snd=>simp[cd] at h
   | sX i=>simp[cd] at h
   | idx i=>
    simp only[am] at hr;simp only[cd] at h;split at h
    ·cases h
    ·rename_i hh;rw[aN hh] at hr;split at hr
     ·obtain ⟨a,cap,rfl,h2,h3,h4,h5⟩:=hr
      cases a with
      | none=>cases h
      | some ji=>
       obtain ⟨g1,g2,g3,Fi,g4,g5⟩:=h5 ji rfl;simp only at h;split at h
       ·rename_i hi;obtain ⟨L,hl,hL,jL⟩:=g5 i _ (aB hi);grind [f_]
       ·cases h
     ·obtain ⟨rfl,sa,a,cap,rfl,h2,h3,h4⟩:=hr
      cases a with
      | none=>cases h
      | some ji=>
       simp only at h;split at h
       ·rename_i hi;obtain ⟨L,hl,hL,jL⟩:=(h4 ji rfl).2 i _ (aB hi);rw[f_ (λj u hu=>(hL j u hu).1) hl] at h;refine ih e (Ro.rep e (λ_ _=>0) sa jL) (λb' o e'=>?_) h;simp only[aQ,bN] at e';obtain ⟨rfl,rfl⟩:=e';exact λj u hu=>(hL j u hu).1
       ·cases h
  | arr n e=>
   cases s with
   | fst=>simp[cd] at h
   | snd=>simp[cd] at h
   | idx i=>simp[cd] at h
   | sX i=>
    obtain ⟨rfl,hf,hl,hlen,hr⟩:=hr;simp only[cd,cQ,aL] at h;split at h
    ·rename_i hi;refine ih e (Ro.flat e (m:=.leaf) (λ_ _=>0) hf (hr i _ (aB (by grind)))) (λb' o e' j u hu=>?_) h
     cases ad with
     | none=>cases e'
     | some y=>
      simp only[jo,bR,aQ,bN] at e';obtain ⟨rfl,rfl⟩:=e';rw[cG] at hu;split at hu
      ·rw[bP] at hu;have:=lI y.1 y.2 rfl (i*e.sz+j) u hu
       rwa [cW]
      ·cases hu
    ·cases h
  | _=>grind [cd]
theorem D1 {w w2:World} {A A2:Cells} :
  ∀ (q:Path) (t:Ty) {m m2:Md} {H H2:List Path} {v v2:t.den} {cs dO:List Value} {F F2:FP} {ad:Option (Nat×Nat)} {pl:Pl},
  am P w2 A2 t m2 H2 v2 dO F2->(en q=0\/t.flat=true) ->
  cd w q t H cs ad=some pl->∃ H' cn,cd w2 q t H2 dO ad=some ⟨pl.t,H',cn,pl.ad⟩/\(t.flat=true->zw pl.t=false):=by
 intro q
 induction q with
 | nil=>
  intro t m m2 H H2 v v2 cs dO F F2 ad pl hr hq h;simp only[cd,aQ] at h;subst h;exact ⟨_,_,rfl,λhf=>by cases t <;> simp_all [Ty.flat,zw]⟩
 | cons s q ih=>
  intro t m m2 H H2 v v2 cs dO F F2 ad pl hr hq h
  cases t with
  | pair a b=>
   obtain ⟨h0,F1,F2,hs,h1,h2⟩:=hr;simp only[Ty.flat,aC] at hq ⊢
   cases s with
   | fst=>
    simp only[cd,h0,aU] at h ⊢;split at h
    ·cases h
    ·obtain ⟨H',cn,h3,h4⟩:=ih a (v:=v.1) (m:=.leaf) (F:=F) h1 (hq.imp (λh=>by simpa [en] using h) (·.1)) h;grind
   | snd=>
    simp only[cd,h0,aU] at h ⊢;split at h
    ·cases h
    ·obtain ⟨H',cn,h3,h4⟩:=ih b (v:=v.2) (m:=.leaf) (F:=F) h2 (hq.imp (λh=>by simpa [en] using h) (·.2)) h;grind
   | idx i=>simp[cd] at h
   | sX i=>simp[cd] at h
  | aa e=>
   cases s <;> grind [cd,en,Ty.flat]
  | arr n e=>
   cases s with
   | fst=>simp[cd] at h
   | snd=>simp[cd] at h
   | idx i=>simp[cd] at h
   | sX i=>
    obtain ⟨rfl,hf,hl,hlen,hr⟩:=hr;simp only[cd,cQ,aL] at h ⊢;split at h
    ·split at h
     ·rename_i hi;rw[aH hi];obtain ⟨H',cn,h3,h4⟩:=ih e (v:=e.zero) (m:=.leaf) (F:=F) (Ro.flat e (m:=.leaf) (λ_ _=>0) hf (hr i _ (aB (by grind)))) (.inr hf) h;grind
     ·cases h
    ·cases h
  | _=>grind [cd]
theorem uk.zero {w w2:World} {A A2:Cells} {t:Ty} {m2:Md} {H H2:List Path} {v2:t.den} {cs dO:List Value} {F2:FP} (ad:Option (Nat×Nat)) (h:am P w2 A2 t m2 H2 v2 dO F2):uk 0 False w t H cs ad w2 H2 dO:=by
 intro q pl hq hp;obtain ⟨H',cn,h1,_⟩:=D1 (A:=A) (m:=m2) (v:=v2) (F:=F2) q t h (.inl Bys) hp;grind
theorem uk.flat {w w2:World} {A A2:Cells} {t:Ty} {m2:Md} {H H2:List Path} {v2:t.den} {cs dO:List Value} {F2:FP} (ad:Option (Nat×Nat)) (h:am P w2 A2 t m2 H2 v2 dO F2) (hf:t.flat=true) (d:Nat):uk d False w t H cs ad w2 H2 dO:=by
 intro q pl hq hp;obtain ⟨H',cn,h1,h2⟩:=D1 (A:=A) (m:=m2) (v:=v2) (F:=F2) q t h (.inr hf) hp;grind
theorem uk.same {w w2:World} {A:Cells} {t:Ty} {m:Md} {H:List Path} {v:t.den} {cs:List Value} {F:FP} (ad:Option (Nat×Nat)) (h:am P w A t m H v cs F)
  (hA:∀ b i,A b i->∀ u,ce w b i=some u->ce w2 b i=some u) (hF:∀ b i,1<=F b i->∀ u,ce w b i=some u->ce w2 b i=some u) (d:Nat) (full:Prop):uk d full w t H cs ad w2 H cs:=by
 intro q pl hq hp;exact ⟨pl.H,pl.cs,y_ hA q t h hF hp,λ_=>rfl⟩
end
end OT
set_option linter.unusedVariables false
set_option linter.unusedSimpArgs false
namespace OT
open Go
def CX (cs:List Value) (off:Nat) (n:Nat) (c2:List Value):List Value:=cs.take off++c2++cs.drop (off+n)
def mW (loc:Option Nat) (cs:List Value) (n:Nat) (c2:List Value):List Value:=match loc with
 | some off=>CX cs off n c2
 | none=>cs
theorem xN {cs c2:List Value} {off n:Nat} (h:off+n<=cs.length) (h2:c2.length=n):(CX cs off n c2).length=cs.length:=by
 simp[CX];omega
theorem CY {cs:List Value} {off n:Nat} (h:off+n<=cs.length):CX cs off n ((cs.drop off).take n)=cs:=by
 unfold CX;rw[bV]
 have:(cs.drop off).take n++cs.drop (off+n)=cs.drop off:=by
  rw[<-dF];exact cA n (cs.drop off)
 rw[this];exact cA off cs
theorem E9 {cs c2:List Value} {off n:Nat} (h:off+n<=cs.length) (h2:c2.length=n) (j:Nat):(CX cs off n c2)[j]?=if off<=j/\j < off+n then c2[j - off]? else cs[j]?:=by
 unfold CX;rw[List.getElem?_append,List.getElem?_append];simp only[bQ,dG];have h1:min off cs.length=off:=by omega
 rw[h1,h2];split
 ·split
  ·rw[aN Bys,cG,aH Bys]
  ·rw[aH Bys]
 ·rw[aN Bys,bP];congr 1;omega
theorem ac6 {cs c2:List Value} {k n' off n:Nat} (h:off+n<=n') (h':k+n'<=cs.length) (h2:c2.length=n) :
  CX cs k n' (CX ((cs.drop k).take n') off n c2)=CX cs (k+off) n c2:=by
 have hl:((cs.drop k).take n').length=n':=by simp;omega
 apply eC;intro j;rw[E9 h' (by rw[xN Bys h2,hl]),E9 Bys h2,E9 Bys h2];by_cases h3:k<=j/\j < k+n'
 ·rw[aH h3];by_cases h4:off<=j - k/\j - k < off+n
  ·rw[aH h4,aH Bys];congr 1;omega
  ·rw[aN h4,aN Bys,cG,aH Bys,bP];congr 1;omega
 ·rw[aN h3,aN Bys]
theorem US {w2:World} {b o:Nat} {cs c2:List Value} {off n:Nat} (h:off+n<=cs.length) (h2:c2.length=n)
  (hc:Has w2 b (o+off) c2) (hk:∀ j u,cs[j]?=some u->¬ (off<=j/\j < off+n)->ce w2 b (o+j)=some u):Has w2 b o (CX cs off n c2):=by
 intro j u hu;rw[E9 h h2] at hu;split at hu
 ·have:=hc _ u hu;rw[show o+off+(j - off)=o+j by omega] at this;exact this
 ·exact hk j u hu (by assumption)
section
variable {P:Program} {R:Type}
theorem aeg {w:World} {A:Cells} {r:R}:∀ (p:Path) (t:Ty) {m:Md} {H:List Path} {v:t.den} {cs:List Value} {F:FP} {ad:Option (Nat×Nat)} {K:(t':Ty)->Md->List Path->t'.den->Option R},
  qd p t m H v K=some r->am P w A t m H v cs F->(∀ b o,ad=some (b,o)->Has w b o cs) ->
  ∃ (t':Ty) (m':Md) (H':List Path) (v':t'.den) (cn:List Value) (dp:Option (Nat×Nat)) (F':FP),K t' m' H' v'=some r/\(∀ {S:Type} (K0:(t:Ty)->Md->List Path->t.den->Option S),qd p t m H v K0=K0 t' m' H' v')/\cd w p t H cs ad=some ⟨t',H',cn,dp⟩/\am P w A t' m' H' v' cn F' /\
   (∀ b i,F' b i<=F b i)/\(∀ b o,dp=some (b,o)->Has w b o cn)/\(ad.isSome=true->dp.isSome=true):=by
 intro p
 induction p with
 | nil=>intro t m H v cs F ad K h hr lI;exact ⟨t,m,H,v,cs,ad,F,h,λ_=>rfl,rfl,hr,λ_ _=>aG _,lI,λh=>h⟩
 | cons s p ih=>
  intro t m H v cs F ad K h hr lI
  cases t with
  | pair a b=>
   obtain ⟨h0,F1,F2,hs,h1,h2⟩:=hr;have hle:=am.length a h1;have Q5:=am.length b h2;simp only[dG,cC] at hle Q5
   cases s with
   | fst=>
    have J5:H.any (·.isEmpty)=false:=h0;simp only[qd,J5] at h
    obtain ⟨t',m',H',v',cn,dp,F',k1,kn,k2,k3,k4,k5,k6⟩:=ih a h h1 (ad:=ad) (λb o hb j u hu=>by
     rw[cG] at hu;split at hu;exact lI b o hb j u hu;cases hu)
    exact ⟨t',m',H',v',cn,dp,F',k1,λK0=>by simp only[qd,J5];exact kn K0,by simp only[cd,h0];exact k2,k3,λb i=>by have:=hs b i;have:=k4 b i;omega,k5,k6⟩
   | snd=>
    have J5:H.any (·.isEmpty)=false:=h0;simp only[qd,J5] at h
    obtain ⟨t',m',H',v',cn,dp,F',k1,kn,k2,k3,k4,k5,k6⟩:=ih b h h2 (ad:=jo ad a.sz) (λb' o hb j u hu=>by
     cases ad with
     | none=>cases hb
     | some x=>
      simp only[jo,bR,aQ,bN] at hb;obtain ⟨rfl,rfl⟩:=hb;rw[bP] at hu;have:=lI x.1 x.2 rfl _ u hu
      rwa [cW])
    exact ⟨t',m',H',v',cn,dp,F',k1,λK0=>by simp only[qd,J5];exact kn K0,by simp only[cd,h0];exact k2,k3,λb i=>by have:=hs b i;have:=k4 b i;omega,k5,λh=>k6 (by cases ad <;> simp_all [jo])⟩
   | idx i=>simp[qd] at h
   | sX i=>simp[qd] at h
  | aa e=>
   cases s with
   | fst=>simp[qd] at h
   | snd=>simp[qd] at h
   | sX i=>simp[qd] at h
   | idx i=>
    simp only[qd] at h;obtain ⟨h1,h2,h3⟩:=HX h
    cases hx:(v:List e.den)[i]? with
    | none=>rw[hx] at h1;cases h1
    | some x=>
     rw[hx] at h1;simp only[aA] at h1;have hi:i < List.length v:=(aO.1 hx).1;simp only[am,h3,aF,aU] at hr;split at hr
     ·obtain ⟨a,cap,rfl,g2,g3,g4,g5⟩:=hr
      cases a with
      | none=>have:=g4 rfl;omega
      | some ji=>
       obtain ⟨q1,q2,q3,Fi,q4,q5⟩:=g5 ji rfl;obtain ⟨L,hl,hL,jL⟩:=q5 i x hx
       obtain ⟨t',m',H',v',cn,dp,F',k1,kn,k2,k3,k4,k5,k6⟩:=ih e h1 jL (ad:=some (ji.block,i*e.sz)) (λb o hb=>by
        simp only[aQ,bN] at hb;obtain ⟨rfl,rfl⟩:=hb;exact hL)
       refine ⟨t',m',H',v',cn,dp,F',k1,λK0=>by simp only[qd];rw[FW h,hx];exact kn K0,?_,k3,λb k=>?_,k5,λ_=>k6 rfl⟩
       ·simp only[cd,h3,aF,aU,hi,aL,q1,bS,f_ hL hl];exact k2
       ·have:=k4 b k;have:=q4 b k;have:=dw Fi hi b k;omega
     ·obtain ⟨rfl,sa,a,cap,rfl,g2,g3,g4⟩:=hr
      cases a with
      | none=>have:=g3 rfl;omega
      | some ji=>
       obtain ⟨L,hl,hL,jL⟩:=(g4 ji rfl).2 i x hx;have UT:Has w ji.block (ji.off+i*e.sz) L:=λj u hu=>(hL j u hu).1
       obtain ⟨t',m',H',v',cn,dp,F',k1,kn,k2,k3,k4,k5,k6⟩:=ih e h1 (Ro.rep e (λ_ _=>0) sa jL) (ad:=some (ji.block,ji.off+i*e.sz)) (λb o hb=>by
        simp only[aQ,bN] at hb;obtain ⟨rfl,rfl⟩:=hb;exact UT)
       refine ⟨t',m',H',v',cn,dp,F',k1,λK0=>by simp only[qd];rw[FW h,hx];exact kn K0,?_,k3,λb k=>?_,k5,λ_=>k6 rfl⟩
       ·simp only[cd,h3,aF,aU,hi,aL,f_ UT hl];exact k2
       ·have:=k4 b k;omega
  | arr n e=>
   cases s with
   | fst=>simp[qd] at h
   | snd=>simp[qd] at h
   | idx i=>simp[qd] at h
   | sX i=>
    obtain ⟨rfl,hf,hl,hlen,hr⟩:=hr;simp only[qd,cQ,aL] at h
    cases hx:(v:List e.den)[i]? with
    | none=>rw[hx] at h;cases h
    | some x=>
     rw[hx] at h;simp only[aA] at h;have hi:i < n:=hl ▸ (aO.1 hx).1
     obtain ⟨t',m',H',v',cn,dp,F',k1,kn,k2,k3,k4,k5,k6⟩:=ih e h (Ro.flat e (λ_ _=>0) hf (hr i x hx)) (ad:=jo ad (i*e.sz)) (λb' o hb j u hu=>by
      cases ad with
      | none=>cases hb
      | some y=>
       simp only[jo,bR,aQ,bN] at hb;obtain ⟨rfl,rfl⟩:=hb;rw[cG] at hu;split at hu
       ·rw[bP] at hu;have:=lI y.1 y.2 rfl _ u hu
        rwa [cW]
       ·cases hu)
     exact ⟨t',m',H',v',cn,dp,F',k1,λK0=>by simp only[qd,cQ,aL,hx,aA];exact kn K0,by simp only[cd,cQ,aL,hi];exact k2,k3,λb k=>by have:=k4 b k;omega,k5,λh=>k6 (by cases ad <;> simp_all [jo])⟩
  | _=>cases s <;> simp[qd] at h
structure afP (P:Program) (w:World) (A:Cells) {R:Type} (r:R) (p:Path) (t:Ty) (m:Md) (H:List Path) (v:t.den) (cs:List Value) (F:FP) (ad:Option (Nat×Nat))
  (f:(t':Ty)->Md->List Path->t'.den->(Md->List Path->t'.den->Option R)->Option R) (K:Md->List Path->t.den->Option R)
  (t':Ty) (m':Md) (H':List Path) (v':t'.den) (cn:List Value) (dp:Option (Nat×Nat)) (F' G:FP) (kk:Md->List Path->t'.den->Option R) (loc:Option Nat):Prop where
 run:f t' m' H' v' kk=some r
 Yx:∀ {S:Type} (K0:(t':Ty)->Md->List Path->t'.den->Option S),qd p t m H v K0=K0 t' m' H' v'
 place:cd w p t H cs ad=some ⟨t',H',cn,dp⟩
 rep:am P w A t' m' H' v' cn F'
 sum:∀ b i,F' b i+G b i<=F b i
 has:∀ b o,dp=some (b,o)->Has w b o cn
 wG:∀ off,loc=some off->off+t'.sz<=t.sz/\cn=(cs.drop off).take t'.sz/\dp=jo ad off
 Wk:1<=en p->loc=none
 out:loc=none->∃ b o,dp=some (b,o)/\∀ j,j < t'.sz->1<=G b (o+j)/\w.frozen? ⟨b,o+j,none⟩=false
 back:∀ m2 H2 (v2:t'.den),kk m2 H2 v2=some r->∀ (w2:World) (A2:Cells) (dO:List Value) (F2:FP),
  (∀ b n,jR w b n->jR w2 b n)->(∀ b i,A b i->A2 b i)->(∀ b i,A b i->∀ u,ce w b i=some u->ce w2 b i=some u) ->
  (∀ b i,1<=G b i->(∀ o,dp=some (b,o)->¬ (o<=i/\i < o+t'.sz))->∀ u,ce w b i=some u->ce w2 b i=some u) ->
  (∀ b o,dp=some (b,o)->Has w2 b o dO)->am P w2 A2 t' m2 H2 v2 dO F2->(∀ b i,F2 b i+G b i<=1) ->
  ∃ m3 H3 v3 F3,K m3 H3 v3=some r/\(∀ b i,F3 b i<=F2 b i+G b i) /\
   (∀ A3:Cells,(∀ b i,A2 b i->A3 b i)->(∀ b i,1<=F2 b i+G b i->F3 b i=0->A3 b i)->am P w2 A3 t m3 H3 v3 (mW loc cs t'.sz dO) F3) /\
   (∀ d full,uk d full w t' H' cn dp w2 H2 dO->uk (d+en p) full w t H cs ad w2 H3 (mW loc cs t'.sz dO))
theorem jR.frozen {w:World} {b:Nat} {n:Nat×Bool} (h:jR w b n) {i:Nat} (hi:i < n.1):w.frozen? ⟨b,i,none⟩=false:=by
 obtain ⟨c,e,fr,h1,h2,h3,_⟩:=h;obtain ⟨lo,vP⟩:=fr;have:=h3 i hi;simp only[World.frozen?,h1];simp only[Bool.and_eq_false_iff,dY];simp only at this;omega
theorem aeh {w:World} {A:Cells} {r:R}:∀ (p:Path) (t:Ty) {m:Md} {H:List Path} {v:t.den} {cs:List Value} {F:FP} {ad:Option (Nat×Nat)}
  {f:(t':Ty)->Md->List Path->t'.den->(Md->List Path->t'.den->Option R)->Option R} {K:Md->List Path->t.den->Option R},
  tI p t m H v f K=some r->am P w A t m H v cs F->(∀ b i,F b i<=1)->(∀ b o,ad=some (b,o)->Has w b o cs)->(∀ b o,ad=some (b,o)->∀ j,j < t.sz->F b (o+j)=0) ->
  ∃ t' m' H' v' cn dp F' G kk loc,afP P w A r p t m H v cs F ad f K t' m' H' v' cn dp F' G kk loc:=by
 intro p
 induction p with
 | nil=>
  intro t m H v cs F ad f K h hr hF lI Ay;have hlen:=am.length t hr;refine ⟨t,m,H,v,cs,ad,F,λ_ _=>0,K,some 0,h,λ_=>rfl,rfl,hr,λ_ _=>by simp,lI,?_,(λh=>by simp[en] at h),(λh=>by cases h),?_⟩
  ·intro off ho;injection ho with ho;subst ho;refine ⟨by omega,?_,?_⟩
   ·rw[eD,<- hlen,eJ]
   ·cases ad <;> simp[jo]
  ·intro m2 H2 v2 hk w2 A2 dO F2 hb hA vu hG FY vd hs;have yg:=am.length t vd
   have agC:mW (some 0) cs t.sz dO=dO:=by
    simp[mW,CX,fY (show cs.length<=t.sz by omega)]
   rw[agC];refine ⟨m2,H2,v2,F2,hk,λ_ _=>by simp,λA3 tK _=>am.mono tK (λ_ _ _ _ h=>h) (λ_ _ h=>h) t vd (λ_ _=>aG _) (λ_ _ _ _ h=>h),λd full hd=>hd⟩
 | cons s p ih=>
  intro t m H v cs F ad f K h hr hF lI Ay
  cases t with
  | pair a b=>
   obtain ⟨h0,F1,F2,hs,h1,h2⟩:=hr;have hle:=am.length a h1;have Q5:=am.length b h2;simp only[dG,cC] at hle Q5;have J5:H.any (·.isEmpty)=false:=h0
   have afQ:∀ b o,ad=some (b,o)->Has w b o (cs.take a.sz):=λb o hb j u hu=>by
    rw[cG] at hu;split at hu;exact lI b o hb j u hu;cases hu
   have afR:∀ b' o,jo ad a.sz=some (b',o)->Has w b' o (cs.drop a.sz):=λb' o hb j u hu=>by
    cases ad with
    | none=>cases hb
    | some x=>
     simp only[jo,bR,aQ,bN] at hb;obtain ⟨rfl,rfl⟩:=hb;rw[bP] at hu;have:=lI x.1 x.2 rfl _ u hu
     rwa [cW]
   cases s with
   | fst=>
    simp only[tI,J5] at h
    obtain ⟨t',m',H',v',cn,dp,F',G,kk,loc,M⟩:=ih a h h1 (λb i=>by have:=hs b i;have:=hF b i;omega) afQ (λb' o hb j hj=>by
     have:=Ay b' o hb j (by simp only[Ty.sz];omega);have:=hs b' (o+j);omega)
    refine ⟨t',m',H',v',cn,dp,F',λb i=>G b i+F2 b i,kk,loc,M.run,λK0=>by simp only[qd,J5];exact M.Yx K0,by simp only[cd,h0];exact M.place,M.rep,λb i=>by have:=hs b i;have:=M.sum b i;omega,M.has,?_,(λh=>M.Wk (by simpa [en] using h)),?_,?_⟩
    ·intro off ho;obtain ⟨q1,q2,q3⟩:=M.wG off ho;refine ⟨by simp only[Ty.sz];omega,?_,q3⟩
     rw[q2,fE,fF];congr 1;omega
    ·intro ho;obtain ⟨b',o,q1,q2⟩:=M.out ho;exact ⟨b',o,q1,λj hj=>⟨by have:=(q2 j hj).1;omega,(q2 j hj).2⟩⟩
    ·intro m2 H2 v2 hk w2 A2 dO OP hb hA vu hG FY vd sq;obtain ⟨m3,H3,v3,F3,k1,k2,k3,k4⟩:=M.back m2 H2 v2 hk w2 A2 dO OP hb hA vu (λb' i hp hn=>hG b' i Bys hn) FY vd (λb' i=>by have:=sq b' i;omega);have yg:=am.length t' vd
     have pP:mW loc cs t'.sz dO=mW loc (cs.take a.sz) t'.sz dO++cs.drop a.sz:=by
      cases loc with
      | none=>simp[mW]
      | some off=>
       have:=(M.wG off rfl).1;simp only[mW,CX];rw[fF,show min off a.sz=off by omega,bV,bV,bV];congr 2;rw[fE];have e:cs.drop a.sz=(cs.drop (off+t'.sz)).drop (a.sz - (off+t'.sz)):=by rw[dF];congr 1;omega
       rw[e,cA]
     have vv:(mW loc (cs.take a.sz) t'.sz dO).length=a.sz:=by
      cases loc with
      | none=>simp[mW];omega
      | some off=>have:=(M.wG off rfl).1;simp only[mW];rw[xN (by simp;omega) yg];simp;omega
     have Cj:∀ d full,uk d full w t' H' cn dp w2 H2 dO->full->mW loc cs t'.sz dO=cs:=λd full hd zx=>by
      obtain ⟨H5,c5,e1,e2⟩:=hd [] ⟨t',H',cn,dp⟩ (aX _) rfl;simp only[cd,aQ,Pl.mk.injEq] at e1;have e3:dO=cn:=e1.2.2.1.trans (e2 (.inr zx))
      cases loc with
      | none=>rfl
      | some off=>
       have:=M.wG off rfl;rw[e3,this.2.1,fE,fF,show min t'.sz (a.sz - off)=t'.sz by omega];exact CY Bys
     have sF:(mW loc cs t'.sz dO).take a.sz=mW loc (cs.take a.sz) t'.sz dO:=by rw[pP];exact iV vv
     have L8:(mW loc cs t'.sz dO).drop a.sz=cs.drop a.sz:=by rw[pP];exact iW vv
     have OQ:∀ b' i,1<=F2 b' i->∀ u,ce w b' i=some u->ce w2 b' i=some u:=λb' i hp u hu=>by
      refine hG b' i Bys (λo mX CZ=>?_) u hu;have hsb:=hs b' i;have hFb:=hF b' i
      cases loc with
      | none=>
       obtain ⟨b0,o0,q1,q2⟩:=M.out rfl;rw[q1] at mX;simp only[aQ,bN] at mX;obtain ⟨rfl,rfl⟩:=mX;have:=(q2 (i - o0) Bys).1;rw[show o0+(i - o0)=i by omega] at this;have:=M.sum b0 i;omega
      | some off=>
       obtain ⟨q1,q2,q3⟩:=M.wG off rfl
       cases ad with
       | none=>rw[q3] at mX;cases mX
       | some x=>
        rw[q3] at mX;simp only[jo,bR,aQ,bN] at mX;obtain ⟨rfl,rfl⟩:=mX;have:=Ay x.1 x.2 rfl (i - x.2) (by simp only[Ty.sz];omega);rw[show x.2+(i - x.2)=i by omega] at this;omega
     refine ⟨_,_,_,λb' i=>F3 b' i+F2 b' i,k1,λb' i=>by have:=k2 b' i;show F3 b' i+F2 b' i<=_;omega,λA3 tK pk=>?_,λd full hd=>?_⟩
     ·refine ⟨by rw[uQ,tJ,tJ];rfl,F3,F2,λ_ _=>aG _,?_,?_⟩
      ·rw[sF,cS,wE,xj,cZ];refine k3 A3 tK λb' i hp hz=>pk b' i Bys ?_;have:=sq b' i;show F3 b' i+F2 b' i=0;omega
      ·rw[L8,cS,xk,wF,cJ];exact am.mono (λb' i ha=>tK b' i (hA b' i ha)) vu hb b h2 (λ_ _=>aG _) OQ
     ·intro q pl hq hp
      cases q with
      | nil=>
       simp only[cd,aQ] at hp;subst hp;refine ⟨_,_,rfl,λh=>?_⟩
       rcases h with ⟨_,hs⟩ | zx
       ·simp[zw] at hs
       ·exact Cj d full hd zx
      | cons s q=>
       cases s with
       | fst=>
        simp only[cd,h0,aF,aU] at hp;obtain ⟨H4,cs4,e1,e2⟩:=k4 d full hd q pl (by simpa [en] using hq) hp;refine ⟨H4,cs4,?_,λvw=>e2 (by simpa [en] using vw)⟩
        simp only[cd,uQ,tJ,gW,aF,aU];rw[sF,cS,wE,xj,cZ];exact e1
       | snd=>
        simp only[cd,h0,aF,aU] at hp;refine ⟨pl.H,pl.cs,?_,λ_=>rfl⟩
        simp only[cd,uQ,tJ,gW,aF,aU];rw[L8,cS,xk,wF,cJ];exact y_ vu q b h2 OQ hp
       | idx i=>simp[cd] at hp
       | sX i=>simp[cd] at hp
   | snd=>
    simp only[tI,J5] at h
    obtain ⟨t',m',H',v',cn,dp,F',G,kk,loc,M⟩:=ih b h h2 (λb i=>by have:=hs b i;have:=hF b i;omega) afR (λb' o hb j hj=>by
     cases ad with
     | none=>cases hb
     | some x=>
      simp only[jo,bR,aQ,bN] at hb;obtain ⟨rfl,rfl⟩:=hb;have:=Ay x.1 x.2 rfl (a.sz+j) (by simp only[Ty.sz];omega);have:=hs x.1 (x.2+(a.sz+j))
      rw[cW];omega)
    refine ⟨t',m',H',v',cn,dp,F',λb i=>G b i+F1 b i,kk,loc.map (a.sz+·),M.run,λK0=>by simp only[qd,J5];exact M.Yx K0,by simp only[cd,h0];exact M.place,M.rep,λb i=>by have:=hs b i;have:=M.sum b i;omega,M.has,?_,(λh=>by rw[M.Wk (by simpa [en] using h)];rfl),?_,?_⟩
    ·intro aei ho;obtain ⟨off,Yy,rfl⟩:=fH.1 ho;obtain ⟨q1,q2,q3⟩:=M.wG off Yy;refine ⟨by simp only[Ty.sz];omega,by rw[q2,dF],?_⟩
     rw[q3];cases ad <;> simp[jo,cW]
    ·intro ho;obtain ⟨b',o,q1,q2⟩:=M.out (by simpa using ho);exact ⟨b',o,q1,λj hj=>⟨by have:=(q2 j hj).1;omega,(q2 j hj).2⟩⟩
    ·intro m2 H2 v2 hk w2 A2 dO OP hb hA vu hG FY vd sq;obtain ⟨m3,H3,v3,F3,k1,k2,k3,k4⟩:=M.back m2 H2 v2 hk w2 A2 dO OP hb hA vu (λb' i hp hn=>hG b' i Bys hn) FY vd (λb' i=>by have:=sq b' i;omega);have yg:=am.length t' vd
     have pP:mW (loc.map (a.sz+·)) cs t'.sz dO=cs.take a.sz++mW loc (cs.drop a.sz) t'.sz dO:=by
      cases loc with
      | none=>simp[mW]
      | some off=>
       have:=(M.wG off rfl).1;simp only[mW,CX,bR];rw[List.take_add,dF,bV,bV,bV,cW]
     have vv:(cs.take a.sz).length=a.sz:=by simp;omega
     have Cj:∀ d full,uk d full w t' H' cn dp w2 H2 dO->full->mW (loc.map (a.sz+·)) cs t'.sz dO=cs:=λd full hd zx=>by
      obtain ⟨H5,c5,e1,e2⟩:=hd [] ⟨t',H',cn,dp⟩ (aX _) rfl;simp only[cd,aQ,Pl.mk.injEq] at e1;have e3:dO=cn:=e1.2.2.1.trans (e2 (.inr zx))
      cases loc with
      | none=>rfl
      | some off=>
       have:=M.wG off rfl;rw[e3,this.2.1,dF];exact CY (show a.sz+off+t'.sz<=cs.length by omega)
     have sF:(mW (loc.map (a.sz+·)) cs t'.sz dO).take a.sz=cs.take a.sz:=by rw[pP];exact iV vv
     have L8:(mW (loc.map (a.sz+·)) cs t'.sz dO).drop a.sz=mW loc (cs.drop a.sz) t'.sz dO:=by rw[pP];exact iW vv
     have OQ:∀ b' i,1<=F1 b' i->∀ u,ce w b' i=some u->ce w2 b' i=some u:=λb' i hp u hu=>by
      refine hG b' i Bys (λo mX CZ=>?_) u hu;have hsb:=hs b' i;have hFb:=hF b' i
      cases loc with
      | none=>
       obtain ⟨b0,o0,q1,q2⟩:=M.out rfl;rw[q1] at mX;simp only[aQ,bN] at mX;obtain ⟨rfl,rfl⟩:=mX;have:=(q2 (i - o0) Bys).1;rw[show o0+(i - o0)=i by omega] at this;have:=M.sum b0 i;omega
      | some off=>
       obtain ⟨q1,q2,q3⟩:=M.wG off rfl
       cases ad with
       | none=>rw[q3] at mX;cases mX
       | some x=>
        rw[q3] at mX;simp only[jo,bR,aQ,bN] at mX;obtain ⟨rfl,rfl⟩:=mX;have:=Ay x.1 x.2 rfl (i - x.2) (by simp only[Ty.sz];omega);rw[show x.2+(i - x.2)=i by omega] at this;omega
     refine ⟨_,_,_,λb' i=>F3 b' i+F1 b' i,k1,λb' i=>by have:=k2 b' i;show F3 b' i+F1 b' i<=_;omega,λA3 tK pk=>?_,λd full hd=>?_⟩
     ·refine ⟨by rw[uQ,tJ,tJ];rfl,F1,F3,λb' i=>by show F1 b' i+F3 b' i<=F3 b' i+F1 b' i;omega,?_,?_⟩
      ·rw[sF,cS,wE,xj,cZ];exact am.mono (λb' i ha=>tK b' i (hA b' i ha)) vu hb a h1 (λ_ _=>aG _) OQ
      ·rw[L8,cS,xk,wF,cJ];refine k3 A3 tK λb' i hp hz=>pk b' i Bys ?_;have:=sq b' i;show F3 b' i+F1 b' i=0;omega
     ·intro q pl hq hp
      cases q with
      | nil=>
       simp only[cd,aQ] at hp;subst hp;refine ⟨_,_,rfl,λh=>?_⟩
       rcases h with ⟨_,hs⟩ | zx
       ·simp[zw] at hs
       ·exact Cj d full hd zx
      | cons s q=>
       cases s with
       | snd=>
        simp only[cd,h0,aF,aU] at hp;obtain ⟨H4,cs4,e1,e2⟩:=k4 d full hd q pl (by simpa [en] using hq) hp;refine ⟨H4,cs4,?_,λvw=>e2 (by simpa [en] using vw)⟩
        simp only[cd,uQ,tJ,gW,aF,aU];rw[L8,cS,xk,wF,cJ];exact e1
       | fst=>
        simp only[cd,h0,aF,aU] at hp;refine ⟨pl.H,pl.cs,?_,λ_=>rfl⟩
        simp only[cd,uQ,tJ,gW,aF,aU];rw[sF,cS,wE,xj,cZ];exact y_ vu q a h1 OQ hp
       | idx i=>simp[cd] at hp
       | sX i=>simp[cd] at hp
   | idx i=>simp[tI] at h
   | sX i=>simp[tI] at h
  | aa e=>
   cases s with
   | fst=>simp[tI] at h
   | snd=>simp[tI] at h
   | sX i=>simp[tI] at h
   | idx i=>
    simp only[tI] at h;split at h
    ·rename_i jS;obtain ⟨h1,h2,h3⟩:=HX h
     cases hx:(v:List e.den)[i]? with
     | none=>rw[hx] at h1;cases h1
     | some x=>
      rw[hx] at h1;simp only[aA] at h1;have hi:i < List.length v:=(aO.1 hx).1;simp only[am,h3,aF,aU,jS,aL] at hr;obtain ⟨a,cap,rfl,g2,g3,g4,g5⟩:=hr
      cases a with
      | none=>have:=g4 rfl;omega
      | some ji=>
       obtain ⟨q1,q2,q3,Fi,q4,q5⟩:=g5 ji rfl;obtain ⟨L,hl,hL,jL⟩:=q5 i x hx
       have bc:∀ k,k < List.length v->∀ j,j < e.sz->k*e.sz+j < cap*e.sz:=λk hk j hj=>by
        have bc:(k+1)*e.sz<=cap*e.sz:=bD _ Bys;rw[dC] at bc;omega
       have Q6:∀ k,k < cap*e.sz->d8 ji.block 0 (cap*e.sz) ji.block k=1:=λk hk=>by simp[d8,hk]
       obtain ⟨t',m',H',v',cn,dp,F',G,kk,loc,M⟩:=ih e h1 jL (λb k=>by have:=q4 b k;have:=hF b k;have:=dw Fi hi b k;omega)
        (ad:=some (ji.block,i*e.sz)) (λb o hb=>by simp only[aQ,bN] at hb;obtain ⟨rfl,rfl⟩:=hb;exact hL)
        (λb o hb j hj=>by
         simp only[aQ,bN] at hb;obtain ⟨rfl,rfl⟩:=hb;have:=q4 ji.block (i*e.sz+j);have:=hF ji.block (i*e.sz+j);have:=dw Fi hi ji.block (i*e.sz+j)
         have:=Q6 _ (bc i hi j hj);omega)
       have FZ:∀ b k,bh (List.length v) (il Fi i G) b k+Fi i b k=bh (List.length v) Fi b k+G b k:=vS Fi hi G
       have EH:∀ b k,G b k<=bh (List.length v) (il Fi i G) b k:=λb k=>by
        have:=dw (il Fi i G) hi b k;simpa [il] using this
       refine ⟨t',m',H',v',cn,dp,F',λb k=>d8 ji.block 0 (cap*e.sz) b k+bh (List.length v) (il Fi i G) b k,kk,none,M.run,λK0=>by simp only[qd];rw[FW h,hx];exact M.Yx K0,?_,M.rep,λb k=>by have:=FZ b k;have:=M.sum b k;have:=q4 b k;omega,M.has,(λoff ho=>by cases ho),(λ_=>rfl),?_,?_⟩
       ·simp only[cd,h3,aF,aU,hi,aL,q1,bS,f_ hL hl];exact M.place
       ·intro _
        cases loc with
        | none=>
         obtain ⟨b',o,e1,e2⟩:=M.out rfl;exact ⟨b',o,e1,λj hj=>⟨by have:=(e2 j hj).1;have:=EH b' (o+j);omega,(e2 j hj).2⟩⟩
        | some off=>
         obtain ⟨e1,e2,e3⟩:=M.wG off rfl;refine ⟨ji.block,i*e.sz+off,e3,λj hj=>?_⟩
         have Cd:=bc i hi (off+j) Bys;rw[<-cW] at Cd;exact ⟨by have:=Q6 _ Cd;omega,q3.frozen Cd⟩
       ·intro m2 H2 v2 hk w2 A2 dO OP hb hA vu hG FY vd sq
        obtain ⟨m3,H3,v3,F3,k1,k2,k3,k4⟩:=M.back m2 H2 v2 hk w2 A2 dO OP hb hA vu (λb' i hp hn=>hG b' i (by have:=EH b' i;omega) hn) FY vd
         (λb' i=>by have:=sq b' i;have:=EH b' i;omega)
        have yg:=am.length t' vd
        have apart:∀ b' k,(∀ o,dp=some (b',o)->o<=k/\k < o+t'.sz->1<=Fi i b' k\/(b'=ji.block/\i*e.sz<=k/\k < i*e.sz+e.sz)):=λb' k o mX CZ=>by
         cases loc with
         | none=>
          obtain ⟨b0,o0,e1,e2⟩:=M.out rfl;rw[e1] at mX;simp only[aQ,bN] at mX;obtain ⟨rfl,rfl⟩:=mX;have:=(e2 (k - o0) Bys).1;rw[show o0+(k - o0)=k by omega] at this;have:=M.sum b0 k;left;omega
         | some off=>
          obtain ⟨e1,e2,e3⟩:=M.wG off rfl;rw[e3] at mX;simp only[jo,bR,aQ,bN] at mX;obtain ⟨rfl,rfl⟩:=mX;exact .inr ⟨rfl,by omega,by omega⟩
        have OQ:∀ j,j < List.length v->j≠i->∀ b' k,1<=Fi j b' k->∀ u,ce w b' k=some u->ce w2 b' k=some u:=λj hj qk b' k hp u hu=>by
         have h1:=dw (il Fi i G) hj b' k;have e1:il Fi i G j=Fi j:=by simp[il,qk]
         rw[e1] at h1;refine hG b' k Bys (λo mX CZ=>?_) u hu;have h2:=q4 b' k;have h3:=hF b' k;have h4:=vT Fi hj hi qk b' k
         rcases apart b' k o mX CZ with h | ⟨rfl,hb1,Yz⟩
         ·omega
         ·have:=Q6 (i*e.sz+(k - i*e.sz)) (bc i hi _ Bys);rw[show i*e.sz+(k - i*e.sz)=k by omega] at this;omega
        have cell:∀ j,j < List.length v->j≠i->∀ k,k < e.sz->∀ u,ce w ji.block (j*e.sz+k)=some u->ce w2 ji.block (j*e.sz+k)=some u:=λj hj qk k hk u hu=>by
         have xl:=Q6 _ (bc j hj k hk);refine hG _ _ Bys (λo mX CZ=>?_) u hu;have h2:=q4 ji.block (j*e.sz+k);have h3:=hF ji.block (j*e.sz+k)
         rcases apart _ _ o mX CZ with h | ⟨_,hb1,Yz⟩
         ·have:=dw Fi hi ji.block (j*e.sz+k);omega
         ·have i7:j < i\/i < j:=by omega
          rcases i7 with F7 | F7
          ·have:(j+1)*e.sz<=i*e.sz:=bD _ F7;rw[dC] at this;omega
          ·have:(i+1)*e.sz<=j*e.sz:=bD _ F7;rw[dC] at this;omega
        have hL3:Has w2 ji.block (i*e.sz) (mW loc L t'.sz dO):=by
         have BS:∀ j u,L[j]?=some u->(∀ off,loc=some off->¬ (off<=j/\j < off+t'.sz))->ce w2 ji.block (i*e.sz+j)=some u:=λj u hu hn=>by
          have hj:j < e.sz:=hl ▸ (aO.1 hu).1;have xl:=Q6 _ (bc i hi j hj);refine hG _ _ Bys (λo mX CZ=>?_) u (hL j u hu)
          cases loc with
          | none=>
           obtain ⟨b0,o0,e1,e2⟩:=M.out rfl;rw[e1] at mX;simp only[aQ,bN] at mX;obtain ⟨rfl,rfl⟩:=mX;have:=(e2 (i*e.sz+j - o0) Bys).1;rw[show o0+(i*e.sz+j - o0)=i*e.sz+j by omega] at this;have h2:=q4 ji.block (i*e.sz+j);have h3:=hF ji.block (i*e.sz+j);have:=EH ji.block (i*e.sz+j);have:=FZ ji.block (i*e.sz+j);have:=M.sum ji.block (i*e.sz+j)
           have:=dw Fi hi ji.block (i*e.sz+j);omega
          | some off=>
           obtain ⟨e1,e2,e3⟩:=M.wG off rfl;rw[e3] at mX;simp only[jo,bR,aQ,bN] at mX;obtain ⟨_,rfl⟩:=mX;exact hn off rfl Bys
         cases loc with
         | none=>exact λj u hu=>BS j u hu (λoff ho=>by cases ho)
         | some off=>
          obtain ⟨e1,e2,e3⟩:=M.wG off rfl;exact US Bys yg (FY _ _ e3) (λj u hu hn=>BS j u hu (λaei ho=>by injection ho with ho;subst ho;exact hn))
        have UU:(mW loc L t'.sz dO).length=e.sz:=by
         cases loc with
         | none=>exact hl
         | some off=>have:=(M.wG off rfl).1;simp only[mW];rw[xN Bys yg,hl]
        have yL:∀ (j:Nat) (y:e.den),(List.set v i v3)[j]?=some y->(j=i/\y=v3)\/(j≠i/\(v:List e.den)[j]?=some y):=λj y hy=>by
         rw[fC] at hy;split at hy
         ·rename_i sb;subst sb;injection hy with hy;exact .inl ⟨rfl,hy.symm⟩
         ·rename_i sb;exact .inr ⟨λh=>sb h.symm,hy⟩
        have others:∀ A3:Cells,(∀ b i,A2 b i->A3 b i)->∀ (j:Nat) (y:e.den),j≠i->(v:List e.den)[j]?=some y->∃ L:List Value,L.length=e.sz/\Has w2 ji.block (j*e.sz) L/\Has w ji.block (j*e.sz) L/\am P w A e m.e [] y L (Fi j)/\am P w2 A3 e m.e [] y L (Fi j):=λA3 tK j y qk hy=>by
         have hj:j < List.length v:=(aO.1 hy).1;obtain ⟨Lj,L9,hLj,YA⟩:=q5 j y hy;rw[h2 j qk] at YA;exact ⟨Lj,L9,λk u hu=>cell j hj qk k (L9 ▸ (aO.1 hu).1) u (hLj k u hu),hLj,YA,am.mono (λb' i ha=>tK b' i (hA b' i ha)) vu hb e YA (λ_ _=>aG _) (OQ j hj qk)⟩
        have aej:∀ H4:List Path,hole H4=false->H4.filterMap (mp i)=H3->(∀ j,j≠i->H4.filterMap (mp j)=[])->∀ d full,uk d full w t' H' cn dp w2 H2 dO->uk (d+en (.idx i::p)) full w (.aa e) H [.slice (some ji) (List.length v) cap] ad w2 H4 [.slice (some ji) (List.length v) cap]:=by
         intro H4 hH4 hHi hHj d full hd q pl hq hp
         cases q with
         | nil=>
          simp only[cd,aQ] at hp;subst hp;exact ⟨_,_,rfl,λ_=>rfl⟩
         | cons s q=>
          cases s with
          | fst=>simp[cd] at hp
          | snd=>simp[cd] at hp
          | sX j=>simp[cd] at hp
          | idx j=>
           simp only[cd,h3,aF,aU] at hp;split at hp
           ·rename_i hj;by_cases qk:j=i
            ·subst qk;rw[q1,bS,f_ hL hl] at hp;obtain ⟨H5,cs5,e1,e2⟩:=k4 d full hd q pl (by simp only[en] at hq;omega) hp;refine ⟨H5,cs5,?_,λvw=>e2 (vw.imp (λh=>⟨by have:=h.1;simp only[en] at this;omega,h.2⟩) id)⟩
             simp only[cd,hH4,aF,aU,hj,aL,q1,bS,f_ hL3 UU,hHi];exact e1
            ·obtain ⟨Lj,L9,Q7,hLj,YA,_⟩:=others A2 (λ_ _ h=>h) j _ qk (aB hj);rw[q1,bS,f_ hLj L9,h2 j qk] at hp;refine ⟨pl.H,pl.cs,?_,λ_=>rfl⟩
             simp only[cd,hH4,aF,aU,hj,aL,q1,bS,f_ Q7 L9,hHj j qk];exact y_ vu q e YA (OQ j hj qk) hp
           ·cases hp
        simp only[mW];by_cases Av:m3=m.e
        ·rw[aH Av] at k1;subst Av;refine ⟨_,_,_,λb' k=>d8 ji.block 0 (cap*e.sz) b' k+bh (List.length v) (il Fi i F3) b' k,k1,λb' k=>?_,λA3 tK pk=>?_,aej _ (tJ _ _) (Hy _ _) (λj hj=>CW hj _)⟩
         ·have:=vS Fi hi F3 b' k;have:=FZ b' k;have:=k2 b' k
          show d8 ji.block 0 (cap*e.sz) b' k+bh (List.length v) (il Fi i F3) b' k<=_;omega
         ·simp only[am,tJ,aF,aU,Md.own,aL];refine ⟨some ji,cap,by simp,by simpa using g2,g3,(λhn=>by cases hn),λJ6 KQ=>?_⟩
          injection KQ with KQ;subst KQ;refine ⟨q1,q2,hb _ _ q3,il Fi i F3,λb' k=>by simp,λj y hy=>?_⟩
          rcases yL j y hy with ⟨rfl,rfl⟩ | ⟨qk,J7⟩
          ·refine ⟨_,UU,hL3,?_⟩
           rw[Hy];simp only[Md.e,il,aL];refine k3 A3 tK λb' k hp hz=>pk b' k ?_ ?_
           ·have:=EH b' k;omega
           ·have h5:=sq b' k;have h6:=vS Fi hi F3 b' k;have h7:=FZ b' k;have:=EH b' k
            have h8:=q4 b' k;have h9:=M.sum b' k
            have:=k2 b' k;show d8 ji.block 0 (cap*e.sz) b' k+bh (List.length v) (il Fi j F3) b' k=0;omega
          ·obtain ⟨Lj,L9,Q7,_,_,aaI⟩:=others A3 tK j y qk J7;refine ⟨Lj,L9,Q7,?_⟩
           rw[CW qk];simp only[il,aN qk];exact aaI
        ·rw[aN Av] at k1;split at k1
         ·rename_i HY;have HY:H3=[]:=bH.1 HY;refine ⟨_,_,_,λb' k=>d8 ji.block 0 (cap*e.sz) b' k,k1,λb' k=>by show d8 ji.block 0 (cap*e.sz) b' k<=_;omega,λA3 tK pk=>?_,aej _ rfl (by rw[HY];rfl) (λj hj=>rfl)⟩
          simp only[am,hole,bU,aF,aU,Md.own,aL];refine ⟨some ji,cap,by simp,by simpa using g2,g3,(λhn=>by cases hn),λJ6 KQ=>?_⟩
          injection KQ with KQ;subst KQ;refine ⟨q1,q2,hb _ _ q3,λ_ _ _=>0,λb' k=>by rw[oB];simp,λj y hy=>?_⟩
          have fz:∀ b' k,1<=OP b' k+(d8 ji.block 0 (cap*e.sz) b' k+bh (List.length v) (il Fi i G) b' k)->d8 ji.block 0 (cap*e.sz) b' k=0->A3 b' k:=pk
          rcases yL j y hy with ⟨rfl,rfl⟩ | ⟨qk,J7⟩
          ·refine ⟨_,UU,hL3,?_⟩
           have UV:=k3 A3 tK λb' k hp hz=>fz b' k (by have:=EH b' k;omega) (by
            have h5:=sq b' k;have:=EH b' k;omega)
           rw[HY] at UV;refine Ro.rep e _ (jh e) (am.zu (λ_ _ h=>h) e UV λb' k hp=>fz b' k ?_ ?_)
           ·have:=k2 b' k;have:=EH b' k;omega
           ·have h5:=sq b' k;have:=EH b' k;have:=k2 b' k;omega
          ·obtain ⟨Lj,L9,Q7,_,_,aaI⟩:=others A3 tK j y qk J7;have hj:j < List.length v:=(aO.1 J7).1;refine ⟨Lj,L9,Q7,Ro.rep e _ (jh e) (am.zu (λ_ _ h=>h) e aaI λb' k hp=>?_)⟩
           have h1:=dw (il Fi i G) hj b' k;have e1:il Fi i G j=Fi j:=by simp[il,qk]
           rw[e1] at h1;have h5:=sq b' k;exact fz b' k Bys Bys
         ·cases k1
    ·cases h
  | arr n e=>
   cases s with
   | fst=>simp[tI] at h
   | snd=>simp[tI] at h
   | idx i=>simp[tI] at h
   | sX i=>
    obtain ⟨rfl,hf,hl,hlen,hr⟩:=hr;simp only[tI,cQ,aL] at h
    cases hx:(v:List e.den)[i]? with
    | none=>rw[hx] at h;cases h
    | some x=>
     rw[hx] at h;simp only[aA] at h;have hi:i < n:=hl ▸ (aO.1 hx).1
     have gb:∀ j,j < n->j*e.sz+e.sz<=cs.length:=λj hj=>by
      have:(j+1)*e.sz<=n*e.sz:=bD _ hj;rw[dC] at this;omega
     have oH:∀ j,j < n->((cs.drop (j*e.sz)).take e.sz).length=e.sz:=λj hj=>by have:=gb j hj;simp;omega
     obtain ⟨t',m',H',v',cn,dp,F',G,kk,loc,M⟩:=ih e h (Ro.flat e (λ_ _=>0) hf (hr i x hx)) (λ_ _=>aX _) (ad:=jo ad (i*e.sz)) (λb' o hb j u hu=>by
      cases ad with
      | none=>cases hb
      | some y=>
       simp only[jo,bR,aQ,bN] at hb;obtain ⟨rfl,rfl⟩:=hb;rw[cG] at hu;split at hu
       ·rw[bP] at hu;have:=lI y.1 y.2 rfl _ u hu
        rwa [cW]
       ·cases hu) (λ_ _ _ _ _=>rfl)
     have UW:∀ b k,G b k=0:=λb k=>by have:=M.sum b k;omega
     have J8:∀ b k,F' b k=0:=λb k=>by have:=M.sum b k;omega
     have L_:∀ h:loc=none,t'.sz=0:=λh=>by
      obtain ⟨b',o,e1,e2⟩:=M.out h;rcases bK t'.sz with h0 | h0
      ·exact h0
      ·have:=(e2 0 h0).1;rw[UW] at this;omega
     refine ⟨t',m',H',v',cn,dp,F',F,kk,loc.map (i*e.sz+·),M.run,λK0=>by simp only[qd,cQ,aL,hx,aA];exact M.Yx K0,by simp only[cd,cQ,aL,hi];exact M.place,M.rep,λb k=>by rw[J8];omega,M.has,?_,(λh=>by rw[M.Wk (by simpa [en] using h)];rfl),?_,?_⟩
     ·intro aei ho;obtain ⟨off,Yy,rfl⟩:=fH.1 ho;obtain ⟨q1,q2,q3⟩:=M.wG off Yy;have:=gb i hi;refine ⟨by simp only[Ty.sz];omega,?_,by rw[q3];cases ad <;> simp[jo,cW]⟩
      rw[q2,fE,fF,dF];congr 1;omega
     ·intro ho;obtain ⟨b',o,q1,q2⟩:=M.out (by simpa using ho);have:=L_ (by simpa using ho);exact ⟨b',o,q1,λj hj=>by omega⟩
     ·intro m2 H2 v2 hk w2 A2 dO OP hb hA vu hG FY vd sq;obtain ⟨m3,H3,v3,F3,k1,k2,k3,k4⟩:=M.back m2 H2 v2 hk w2 A2 dO OP hb hA vu (λb' i hp hn=>by rw[UW] at hp;omega) FY vd (λb' i=>by have:=sq b' i;rw[UW];omega);have yg:=am.length t' vd;split at k1
      ·rename_i HY;have HY:H3=[]:=bH.1 HY
       have pP:mW (loc.map (i*e.sz+·)) cs t'.sz dO=CX cs (i*e.sz) e.sz (mW loc ((cs.drop (i*e.sz)).take e.sz) t'.sz dO):=by
        cases loc with
        | none=>simp only[mW,iX];exact (CY (gb i hi)).symm
        | some off=>
         have:=(M.wG off rfl).1;exact (ac6 this (gb i hi) yg).symm
       have vv:(mW loc ((cs.drop (i*e.sz)).take e.sz) t'.sz dO).length=e.sz:=by
        cases loc with
        | none=>exact oH i hi
        | some off=>have:=(M.wG off rfl).1;simp only[mW];rw[xN (by rw[oH i hi];omega) yg,oH i hi]
       have Wl:∀ j,j < n->((mW (loc.map (i*e.sz+·)) cs t'.sz dO).drop (j*e.sz)).take e.sz=if j=i then mW loc ((cs.drop (i*e.sz)).take e.sz) t'.sz dO else (cs.drop (j*e.sz)).take e.sz:=λj hj=>by
        rw[pP];apply eC;intro k;rw[cG];split
        ·rename_i hk;rw[bP,E9 (gb i hi) vv];by_cases qk:j=i
         ·subst qk;rw[aH Bys,aH rfl];congr 1;omega
         ·rw[aN qk,cG,aH hk,bP,aN];have i7:j < i\/i < j:=by omega
          rcases i7 with F7 | F7
          ·have:(j+1)*e.sz<=i*e.sz:=bD _ F7;rw[dC] at this;omega
          ·have:(i+1)*e.sz<=j*e.sz:=bD _ F7;rw[dC] at this;omega
        ·rename_i hk;by_cases qk:j=i
         ·rw[aH qk,gE Bys]
         ·rw[aN qk,gE (by rw[oH j hj];omega)]
       have Cj:∀ d full,uk d full w t' H' cn dp w2 H2 dO->full->mW (loc.map (i*e.sz+·)) cs t'.sz dO=cs:=λd full hd zx=>by
        obtain ⟨H5,c5,e1,e2⟩:=hd [] ⟨t',H',cn,dp⟩ (aX _) rfl;simp only[cd,aQ,Pl.mk.injEq] at e1;have e3:dO=cn:=e1.2.2.1.trans (e2 (.inr zx))
        cases loc with
        | none=>rfl
        | some off=>
         have:=M.wG off rfl;have:=gb i hi;rw[e3,(M.wG off rfl).2.1,fE,fF,show min t'.sz (e.sz - off)=t'.sz by omega,dF];exact CY (show i*e.sz+off+t'.sz<=cs.length by omega)
       have afS:(mW (loc.map (i*e.sz+·)) cs t'.sz dO).length=n*e.sz:=by rw[pP,xN (gb i hi) vv,hlen]
       refine ⟨_,_,_,λb' k=>F3 b' k+F b' k,k1,λb' k=>by have:=k2 b' k;have:=UW b' k;show F3 b' k+F b' k<=_;omega,λA3 tK pk=>?_,λd full hd=>?_⟩
       ·refine ⟨rfl,hf,by simpa using hl,afS,λj y hy=>?_⟩
        have hj:j < n:=by have:=(aO.1 hy).1;rw[bW] at this;omega
        rw[Wl j hj];rw[fC] at hy;split at hy
        ·rename_i sb;subst sb
         have hy:some v3=some y:=by
          split at hy
          ·exact hy
          ·cases hy
         injection hy with hy;rw[aH rfl,<- hy];exact am.flat e hf (k3 A3 tK λb' k hp hz=>pk b' k (by have:=UW b' k;omega) (by have:=sq b' k;have:=UW b' k;show F3 b' k+F b' k=0;omega))
        ·rename_i sb;rw[aN (λh=>sb h.symm)];exact Ro.mono vu (λb' k ha=>tK b' k (hA b' k ha)) e (hr j y hy)
       ·intro q pl hq hp
        cases q with
        | nil=>
         simp only[cd,aQ] at hp;subst hp;refine ⟨_,_,rfl,λh=>?_⟩
         rcases h with ⟨_,hs⟩ | zx
         ·simp[zw] at hs
         ·exact Cj d full hd zx
        | cons s q=>
         cases s with
         | fst=>simp[cd] at hp
         | snd=>simp[cd] at hp
         | idx j=>simp[cd] at hp
         | sX j=>
          simp only[cd,cQ,aL] at hp;split at hp
          ·rename_i hj;by_cases qk:j=i
           ·subst qk;obtain ⟨H5,cs5,e1,e2⟩:=k4 d full hd q pl (by simp only[en] at hq;omega) hp;refine ⟨H5,cs5,?_,λvw=>e2 (vw.imp (λh=>⟨by have:=h.1;simp only[en] at this;omega,h.2⟩) id)⟩
            simp only[cd,cQ,aL,hj];rw[Wl j hj,aH rfl];rw[HY] at e1;exact e1
           ·refine ⟨pl.H,pl.cs,?_,λ_=>rfl⟩
            simp only[cd,cQ,aL,hj];rw[Wl j hj,aN qk];exact y_ vu q e (Ro.flat e (m:=.leaf) (λ_ _=>0) hf (hr j _ (aB (by rw[hl];exact hj)))) (λb k hp=>by simp at hp) hp
          ·cases hp
      ·cases k1
  | _=>cases s <;> simp[tI] at h
end
end OT
set_option linter.unusedVariables false
set_option linter.unusedSimpArgs false
namespace OT
open Go
def tmp (a:Act) (i:Nat):Value:=a.tmps.getD i undef
section
variable {P:Program} {w:World} {A:Cells}
theorem Ro.one:∀ (t:Ty) {v:t.den} {cs:List Value},Ro P w A t v cs->∀ x ∈ cs,x.oneCell'=true:=by
 intro t
 induction t with
 | pair a b nY nH=>
  intro v cs h x hx;rw[<-cA a.sz cs] at hx;rcases bG.1 hx with hx | hx
  ·exact nY h.1 x hx
  ·exact nH h.2 x hx
 | arr n e ih=>
  intro v cs h x hx;obtain ⟨hf,hl,hlen,hr⟩:=h;obtain ⟨k,hk,rfl⟩:=dD.1 hx;rw[hlen] at hk
  have oO:0 < e.sz:=by
   grind
  have hi:k / e.sz < n:=(eZ oO).2 hk;refine ih (hr (k / e.sz) _ (aB (by grind))) _ ?_;rw[fA];refine ⟨k % e.sz,?_⟩
  grind [Nat.mod_lt,Nat.div_add_mod]
 | aa e ih=>rintro v cs ⟨a,cap,rfl,_⟩ x hx;simp at hx;subst hx;rfl
 | ptr e ih=>rintro v cs ⟨a,rfl,_⟩ x hx;simp at hx;subst hx;rfl
 | fn=>rintro v cs ⟨a,rfl,_⟩ x hx;simp at hx;subst hx;rfl
 | map k v=>rintro v cs ⟨_,_,r,wD,rfl,_⟩ x hx;simp at hx;subst hx;rfl
 | unit=>grind [Ro]
 | _=>intro v cs h x hx;simp only[Ro] at h;subst h;simp at hx;subst hx;rfl
theorem am.one:∀ (t:Ty) {m:Md} {H:List Path} {v:t.den} {cs:List Value} {F:FP},am P w A t m H v cs F->∀ x ∈ cs,x.oneCell'=true:=by
 intro t
 induction t with
 | pair a b nY nH=>
  intro m H v cs F h x hx;obtain ⟨_,F1,F2,_,h1,h2⟩:=h;grind [List.take_append_drop]
 | aa e ih=>
  intro m H v cs F h x hx;simp only[am] at h;split at h
  ·grind
  ·split at h
   ·obtain ⟨a,cap,rfl,_⟩:=h;simp at hx;subst hx;rfl
   grind [Ro.one]
 | ptr e ih=>
  intro m H v cs F h x hx;simp only[am] at h;split at h
  ·grind
  ·split at h
   ·obtain ⟨a,rfl,_⟩:=h;simp at hx;subst hx;rfl
   grind [Ro.one]
 | arr n e ih=>intro m H v cs F h;exact Ro.one _ h.2
 | map k v=>
  intro m H v cs F h x hx;simp only[am] at h;split at h
  ·grind
  ·split at h
   ·obtain ⟨_,_,r,wD,rfl,_⟩:=h;simp at hx;subst hx;rfl
   grind [Ro.one]
 | _=>intro m H v cs F h;exact Ro.one _ h
end
theorem mq {t:Ty} {cs:List Value} (hl:cs.length=t.sz) (h1:∀ x ∈ cs,x.oneCell'=true):(dj t cs).cells.toList=cs:=by
 unfold dj;split
 ·simp[Value.cells]
 ·rename_i h;have:t.sz=1:=by cases t <;> simp_all [isAgg,Ty.sz]
  match cs,hl with
  | [x],_=>
   have:=h1 x (by simp);cases x <;> simp_all [Value.cells,Value.oneCell']
  | [],hl=>grind
  | _::_::_,hl=>grind
def Below (snap v:List Nat):Prop:=∀ (j x:Nat),snap[j]?=some x->∃ y,v[j]?=some y/\x<=y
theorem KR:∀ (s v:List Nat),preB s v=true↔∀ (j x:Nat),s[j]?=some x->v[j]?=some x
 | [],v=>by simp[preB]
 | a::s,[]=>by
  simp only[preB,aF,false_iff];intro h;have:=h 0 a rfl;cases this
 | a::s,b::v=>by
  simp only[preB,aC,eW,KR s v];constructor
  ·grind
  ·intro h;refine ⟨by have:=h 0 a rfl;simpa using this.symm,λj x hj=>h (j+1) x hj⟩
theorem JG {s v v':List Nat} (hs:Below s v) (hv:Below v v') (h:preB s v'=true):preB s v=true/\∀ (j:Nat),j < s.length->v[j]?=v'[j]?:=by
 have key:∀ (j x:Nat),s[j]?=some x->v[j]?=some x/\v'[j]?=some x:=λj x hj=>by
  obtain ⟨y,hy,ur⟩:=hs j x hj;obtain ⟨z,hz,hyz⟩:=hv j y hy;grind [KR]
 grind [KR]
theorem Below.trans {s v v':List Nat} (h1:Below s v) (h2:Below v v'):Below s v':=λj x hj=>by
 obtain ⟨y,hy,ur⟩:=h1 j x hj;obtain ⟨z,hz,hyz⟩:=h2 j y hy;grind
theorem Below.refl (s:List Nat):Below s s:=λj x hj=>⟨x,hj,aG _⟩
def ej (w:World) (tv:Value):Slot->Option Pl
 | .own t _ H _=>some ⟨t,H,tv.cells.toList,none⟩
 | .box t _ H _=>match tv with
  | .pointer (some a)=>some ⟨t,H,rd w a.block a.off t.sz,some (a.block,a.off)⟩
  | _=>none
 | _=>none
def place (σ:St) (a:Act) (w:World) (r:Nat) (p:Path):Option Pl:=
 (ej w (tmp a r) (σ.get r)).bind λR=>cd w p R.t R.H R.cs R.ad
def tL (σ:St) (a:Act) (w:World) (tv:Value) (r:Nat) (p:Path) (snap:List Nat):Prop:=
 Below snap (σ.mF r)/\(σ.ok r snap=true->∃ pl,place σ a w r p=some pl/\tv=dj pl.t pl.cs/\((zw pl.t=true/\snap.length=min 5 (2+en p))\/snap.length=5))
def E_ (σ:St) (a:Act) (w:World) (tv:Value) (r:Nat) (p:Path) (snap:List Nat):Prop:=
 Below snap (σ.mF r)/\(σ.ok r snap=true->∃ pl b o,place σ a w r p=some pl/\pl.ad=some (b,o)/\tv=.pointer (some ⟨b,o,none⟩)/\snap.length=min 5 (1+en p))
def HZ (σ:St) (a:Act) (w:World) (tv:Value) (r:Nat) (p:Path) (snap:List Nat) (lo hi:Nat):Prop:=
 Below snap (σ.mF r)/\(σ.ok r snap=true->∃ pl e x n cap x' cap',place σ a w r p=some pl/\pl.t=.aa e/\pl.cs=[.slice x n cap]/\lo<=hi/\hi<=n/\tv=.slice x' (hi - lo) cap'/\cap'+lo=cap/\(lo=0->x'=x) /\
  (x=none->x'=none)/\(∀ ad,x=some ad->∃ dp,x'=some dp/\dp.spot=ad.spot/\dp.block=ad.block/\(lo < hi->dp.off=ad.off+lo*e.sz))/\(snap.length=min 5 (2+en p)\/snap.length=5))
section
variable (P:Program) (A:Cells)
def aek (w:World) (x:LV) (tv:Value) (F:FP):Prop:=x.t=.unit\/∃ cs,tv=dj x.t cs/\am P w A x.t x.m [] x.v cs F
def dn (σ:St) (a:Act) (w:World) (tv:Value):Slot->FP->Prop
 | .dead,_=>True
 | .zn,_=>tv=.slice none 0 0
 | .val t v,_=>∃ cs,tv=dj t cs/\Ro P w A t v cs
 | .cp t v,_=>Ro P w A (.ptr t) v [tv]
 | .own t m H v,F=>∃ cs,tv=dj t cs/\am P w A t m H v cs F
 | .box t m H v,F=>∃ b o L F1,tv=.pointer (some ⟨b,o,none⟩)/\L.length=t.sz/\Has w b o L/\(∀ j,j < t.sz->w.frozen? ⟨b,o+j,none⟩=false) /\
   (∀ x i,d8 b o t.sz x i+F1 x i<=F x i)/\am P w A t m H v L F1
 | .ref r p snap,_=>tL σ a w tv r p snap
 | .ptr r p snap,_=>E_ σ a w tv r p snap
 | .sub r p snap lo hi,_=>HZ σ a w tv r p snap lo hi
 | .ug xs,F=>∃ (vs:Array Value) (Fi:Nat->FP),tv=.tuple vs/\(∀ b i,bh xs.length Fi b i<=F b i)/\∀ j x,xs[j]?=some x->∃ v,vs[j]?=some v/\aek P A w x v (Fi j)
end
structure Ext (w w':World) (F:FP):Prop where
 size:w.heap.size<=w'.heap.size
 cell:∀ b i,b < w.heap.size->F b i=0->∀ u,ce w b i=some u->ce w' b i=some u
 y0:∀ b n,jR w b n->jR w' b n
 BU:∀ b i,b < w.heap.size->w'.frozen? ⟨b,i,none⟩=w.frozen? ⟨b,i,none⟩
 os:w'.os=w.os
 tape:w'.tape=w.tape
 output:w'.output=w.output
 obj:∀ b,b < w.heap.size->(∀ i,F b i=0)->w'.heap[b]?=w.heap[b]?
 drawn:w.drawn<=w'.drawn
def YB (P:Program):Bool:=(P.globalNamed "internal/strconv.uint64pow10").isSome||(P.globalNamed "internal/bytealg.MaxLen").isSome
def yB (P:Program) (w:World) (F0:FP):Prop:=YB P=true->(∃ w0:World,(w0.ShapedOpen P/\((P.globalNamed "internal/strconv.uint64pow10").isSome=true->Go.Lib.TabIs P w0 "internal/strconv.uint64pow10" .u64 Go.Lib.pow10Tab))/\∀ b,b < P.globals.size->w.heap[b]?=w0.heap[b]?) /\
 P.globals.size<=w.heap.size/\∀ b i,b < P.globals.size->F0 b i=0
theorem afT {P:Program} {w:World} {F0:FP} (h:YB P=false):yB P w F0:=λe=>by grind
theorem yB.ext {P:Program} {w w':World} {F0 G:FP} (h:yB P w F0) (he:Ext w w' F0) (hG:∀ b i,1<=G b i->1<=F0 b i\/w.heap.size<=b):yB P w' G:=λe=>by
 obtain ⟨⟨w0,g,hw⟩,hs,hf⟩:=h e;refine ⟨⟨w0,g,λb hb=>?_⟩,bB hs he.size,λb i hb=>?_⟩
 ·rw[he.obj b Bys (λi=>hf b i hb)];exact hw b hb
 grind
structure Ctx where
 w0:World
 A0:Cells
 F0:FP
 args:Array Value
structure Rel (P:Program) (C:Ctx) (A:Cells) (X:FP) (σ:St) (a:Act) (w:World) (F:Nat->FP):Prop where
 size:a.tmps.size=σ.n
 defers:a.defers=[]
 jz:∀ i,i < σ.n->dn P A σ a w (tmp a i) (σ.get i) (F i)
 gh:∀ d r p snap,(d,r,p,snap) ∈ σ.gh->tL σ a w (tmp a d) r p snap
 ry:∀ b i,X b i+bh σ.n F b i<=1
 sr:∀ b i,1<=X b i+bh σ.n F b i->¬ A b i
 mr:∀ b i,1<=X b i+bh σ.n F b i\/A b i->b < w.heap.size
 nF:∀ i,(σ.mF i).length=5
 ext:Ext C.w0 w C.F0
 own:∀ b i,1<=X b i+bh σ.n F b i->1<=C.F0 b i\/C.w0.heap.size<=b
 a0:∀ b i,C.A0 b i->A b i
 a1:∀ b i,A b i->C.A0 b i\/1<=C.F0 b i\/C.w0.heap.size<=b
 qA:∀ j k,(j,k,false) ∈ σ.az->tmp a j=C.args.getD k undef
 whole:∀ r t m H v,σ.get r=.box t m H v->(∀ k,(r,k,false) ∉ σ.az)->∃ b,tmp a r=.pointer (some ⟨b,0,none⟩)/\jR w b (t.sz,false)
 pp:∀ j k,(j,k,true) ∈ σ.az->∀ R,ej w (tmp a j) (σ.get j)=some R->dj R.t R.cs=C.args.getD k undef
 zy:yB P C.w0 C.F0
theorem Rel.F8 {P:Program} {C:Ctx} {A:Cells} {X:FP} {σ:St} {a:Act} {w:World} {F:Nat->FP} (h:Rel P C A X σ a w F) {G:FP} (hG:∀ b i,1<=G b i->1<=X b i+bh σ.n F b i):yB P w G:=
 h.zy.ext h.ext λb i hp=>h.own b i (hG b i hp)
def Az (σ:St) (a:Act) (w:World) (σ':St) (a':Act) (w':World):Prop:=
 ∀ r p snap,Below snap (σ.mF r)->Below snap (σ'.mF r)/\(σ'.ok r snap=true->σ.ok r snap=true /\
  (snap.length=min 5 (1+en p)\/snap.length=min 5 (2+en p)\/snap.length=5->∀ pl,place σ a w r p=some pl->∃ H' cn,place σ' a' w' r p=some ⟨pl.t,H',cn,pl.ad⟩ /\
   ((zw pl.t=true/\snap.length=min 5 (2+en p))\/snap.length=5->cn=pl.cs)))
section
variable {P:Program} {A A':Cells} {σ σ':St} {a a':Act} {w w':World} {tv:Value} {F:FP}
theorem tL.oL (hp:Az σ a w σ' a' w') {r:Nat} {p:Path} {snap:List Nat} (h:tL σ a w tv r p snap):tL σ' a' w' tv r p snap:=by
 obtain ⟨h1,h2⟩:=h;obtain ⟨h3,h4⟩:=hp r p snap h1;refine ⟨h3,λa_=>?_⟩
 grind
theorem E_.oL (hp:Az σ a w σ' a' w') {r:Nat} {p:Path} {snap:List Nat} (h:E_ σ a w tv r p snap):E_ σ' a' w' tv r p snap:=by
 obtain ⟨h1,h2⟩:=h;obtain ⟨h3,h4⟩:=hp r p snap h1;refine ⟨h3,λa_=>?_⟩
 grind
theorem HZ.oL (hp:Az σ a w σ' a' w') {r:Nat} {p:Path} {snap:List Nat} {lo hi:Nat} (h:HZ σ a w tv r p snap lo hi):HZ σ' a' w' tv r p snap lo hi:=by
 obtain ⟨h1,h2⟩:=h;obtain ⟨h3,h4⟩:=hp r p snap h1;refine ⟨h3,λa_=>?_⟩
 grind [zw]
theorem dn.oL (hp:Az σ a w σ' a' w') (hA:∀ b i,A b i->A' b i) (hc:∀ b i,A b i->∀ u,ce w b i=some u->ce w' b i=some u) (hb:∀ b n,jR w b n->jR w' b n)
  (hF:∀ b i,1<=F b i->(∀ u,ce w b i=some u->ce w' b i=some u)/\w'.frozen? ⟨b,i,none⟩=w.frozen? ⟨b,i,none⟩) {s:Slot} (h:dn P A σ a w tv s F):dn P A' σ' a' w' tv s F:=by
 cases s with
 | dead=>trivial
 | zn=>exact h
 | val t v=>obtain ⟨cs,h1,h2⟩:=h;exact ⟨cs,h1,Ro.mono hc hA t h2⟩
 | cp t v=>exact Ro.mono hc hA (.ptr t) h
 | own t m H v=>obtain ⟨cs,h1,h2⟩:=h;exact ⟨cs,h1,am.mono hA hc hb t h2 (λ_ _=>aG _) (λb i hp=>(hF b i hp).1)⟩
 | box t m H v=>
  obtain ⟨b,o,L,F1,h1,h2,h3,h4,h5,h6⟩:=h
  have hr:∀ j,j < t.sz->1<=F b (o+j):=λj hj=>by
   grind [d8]
  exact ⟨b,o,L,F1,h1,h2,λj u hu=>(hF _ _ (hr j (h2 ▸ (aO.1 hu).1))).1 u (h3 j u hu),λj hj=>by grind,h5,
   am.mono hA hc hb t h6 (λ_ _=>aG _) (λb i hp=>(hF b i (by grind)).1)⟩
 | ref r p snap=>exact tL.oL hp h
 | ptr r p snap=>exact E_.oL hp h
 | sub r p snap lo hi=>exact HZ.oL hp h
 | ug xs=>
  obtain ⟨vs,Fi,h1,h2,h3⟩:=h;refine ⟨vs,Fi,h1,h2,λj x hx=>?_⟩
  obtain ⟨v,h4,h5⟩:=h3 j x hx;refine ⟨v,h4,h5.imp id λ⟨cs,h6,h7⟩=>⟨cs,h6,am.mono hA hc hb x.t h7 (λ_ _=>aG _) (λb i hp=>(hF b i ?_).1)⟩⟩
  grind [dw]
end
end OT
set_option linter.unusedVariables false
set_option linter.unusedSimpArgs false
namespace OT
open Go
theorem Cl {α:Type} (k:Nat) (x:α) (l:List (Nat×α)) (i:Nat):pG ((k,x)::l) i=if k=i then some x else pG l i:=by
 simp_all [pG]
theorem AA (σ:St) (d:Nat) (s:Slot) (i:Nat):(σ.put d s).get i=if d=i/\i < σ.n then s else σ.get i:=by
 grind [St.get,St.put,Cl,Nat.blt_eq]
theorem JH (σ:St) (d:Nat) (s:Slot) (i:Nat):(σ.nx d s).get i=if d=i/\i < σ.n then s else σ.get i:=by
 grind [St.get,St.nx,Cl,Nat.blt_eq]
theorem CH (σ:St) (d:Nat) (s:Slot) (i:Nat):(σ.put d s).mF i=if d=i then uO (σ.mF d) else σ.mF i:=by
 grind [St.mF,St.put,Cl]
theorem s9 (σ:St) (d:Nat) (f:List Nat->List Nat) (i:Nat):(σ.oG d f).mF i=if d=i then f (σ.mF d) else σ.mF i:=by
 grind [St.mF,St.oG,Cl]
theorem Cm {l:List (Nat×Nat×Bool)} {d:Nat} {e:Nat×Nat×Bool} (h:e ∈ CO l d):e ∈ l/\e.1≠d:=by
 induction l with
 | nil=>cases h
 | cons x l ih=>
  obtain ⟨k,b⟩:=x;simp only[CO] at h;split at h
  ·grind
  ·rename_i hk;rcases aZ.1 h with rfl | h
   all_goals simp_all
theorem Ma {l:List (Nat×Nat×Bool)} {d:Nat} {e:Nat×Nat×Bool} (h:e ∈ l) (hd:e.1≠d):e ∈ CO l d:=by
 induction l with
 | nil=>cases h
 | cons x l ih=>
  obtain ⟨k,b⟩:=x;simp only[CO];rcases aZ.1 h with rfl | h
  ·simp_all
  grind
theorem Wm {l:List (Nat×Nat×Bool)} {d j k:Nat} (h:(j,k,false) ∈ l):(j,k,false) ∈ CP l d:=by
 induction l <;> grind [CP]
theorem Mb {l:List (Nat×Nat×Bool)} {d:Nat} {e:Nat×Nat×Bool} (h:e ∈ CP l d):e ∈ l/\¬ (e.1=d/\e.2.2=true):=by
 induction l with
 | nil=>cases h
 | cons x l ih=>
  obtain ⟨k,n,b⟩:=x;simp only[CP] at h;split at h
  ·grind
  ·rename_i hk;rcases aZ.1 h with rfl | h
   all_goals simp_all
theorem Q8 {l:List (Nat×Nat×Path×List Nat)} {d:Nat} {e:Nat×Nat×Path×List Nat} (h:e ∈ QI l d):e ∈ l/\e.1≠d:=by
 induction l with
 | nil=>cases h
 | cons x l ih=>
  obtain ⟨k,b⟩:=x;simp only[QI] at h;split at h
  ·grind
  ·rename_i hk;rcases aZ.1 h with rfl | h
   all_goals simp_all
theorem vx (v:List Nat):Below v (uO v):=λj x hj=>⟨x+1,by simp[uO,hj],by omega⟩
theorem H6 {v:List Nat} (h:v.length=5):∃ b x y z w,v=[b,x,y,z,w]:=by
 match v,h with
 | [b,x,y,z,w],_=>grind
theorem YC {b x y z w b' x' y' z' w':Nat} (h0:b<=b') (h1:x<=x') (h2:y<=y') (h3:z<=z') (h4:w<=w'):Below [b,x,y,z,w] [b',x',y',z',w']:=by
 intro j n hj;grind
theorem xm (d:Nat) {v:List Nat} (h:v.length=5):Below v (wC d v):=by
 obtain ⟨b,x,y,z,w,rfl⟩:=H6 h
 match d with
 | 0 | 1 | 2 | n+3=>exact YC Bys Bys Bys Bys Bys
theorem AY {v:List Nat} (h:v.length=5):Below v (zo v):=by
 obtain ⟨b,x,y,z,w,rfl⟩:=H6 h;exact YC Bys Bys Bys Bys Bys
theorem H7 {v:List Nat}:(uO v).length=v.length:=by simp[uO]
theorem F9 (d:Nat) {v:List Nat} (h:v.length=5):(wC d v).length=5:=by
 obtain ⟨b,x,y,z,w,rfl⟩:=H6 h
 match d with
 | 0 | 1 | 2 | n+3=>rfl
theorem H8 {v:List Nat} (h:v.length=5):(zo v).length=5:=by
 obtain ⟨b,x,y,z,w,rfl⟩:=H6 h;rfl
theorem Mc {s v v':List Nat} (hs:Below s v) (hv:Below v v') (h:preB s v'=true) {j:Nat} (hj:v[j]?≠v'[j]?):s.length<=j:=by
 rcases cR j s.length with h' | h'
 ·exact absurd ((JG hs hv h).2 j h') hj
 ·exact h'
theorem J9 {s v:List Nat} (hl:v.length=5) (hs:Below s v) (h:preB s (uO v)=true):s.length=0:=by
 obtain ⟨b,x,y,z,w,rfl⟩:=H6 hl;have:=Mc hs (vx _) h (j:=0) (by simp[uO]);omega
theorem H9 {s v:List Nat} (d:Nat) (hl:v.length=5) (hs:Below s v) (h:preB s (wC d v)=true):s.length<=min 4 (1+d):=by
 have h4:s.length<=4:=by
  refine Mc hs (xm d hl) h ?_;obtain ⟨b,x,y,z,w,rfl⟩:=H6 hl
  match d with
  | 0 | 1 | 2 | n+3=>simp[wC]
 have hd:s.length<=1+d:=by
  rcases cR d 3 with hd | hd
  ·refine Mc hs (xm d hl) h ?_;obtain ⟨b,x,y,z,w,rfl⟩:=H6 hl
   match d,hd with
   | 0,_ | 1,_ | 2,_=>simp[wC]
  ·omega
 omega
theorem KS {s v:List Nat} (hl:v.length=5) (hs:Below s v) (h:preB s (zo v)=true):s.length<=4:=by
 refine Mc hs (AY hl) h ?_;grind [H6,zo]
section
variable {P:Program} {C:Ctx} {A A2:Cells} {X:FP} {σ:St} {a:Act} {w w2:World} {F:Nat->FP}
theorem ql (a:Act) (d:Nat) (v:Value) (i:Nat):tmp (a.put (some d) v) i=if d=i/\i < a.tmps.size then v else tmp a i:=by
 simp only[tmp,Act.put,Array.getD_eq_getD_getElem?,Array.getElem?_setIfInBounds];grind
theorem zA {tv:Value} {s:Slot} {G:FP} {R:Pl} (h:dn P A σ a w tv s G) (hR:ej w tv s=some R) :
  ∃ (m:Md) (v:R.t.den) (F1:FP),am P w A R.t m R.H v R.cs F1/\(∀ b i,F1 b i<=G b i) /\
   (∀ b o,R.ad=some (b,o)->Has w b o R.cs/\(∀ x i,d8 b o R.t.sz x i+F1 x i<=G x i)/\∀ j,j < R.t.sz->w.frozen? ⟨b,o+j,none⟩=false) /\
   ((∃ v',s=.own R.t m R.H v'/\HEq v v'/\R.ad=none)\/(∃ v',s=.box R.t m R.H v'/\HEq v v'/\R.ad.isSome=true)):=by
 cases s with
 | own t m H v=>
  simp only[ej,aQ] at hR;subst hR;obtain ⟨cs,h1,h2⟩:=h;refine ⟨m,v,G,?_,λ_ _=>aG _,(λb o h=>by cases h),.inl ⟨v,rfl,HEq.rfl,rfl⟩⟩
  grind [mq,am.length,am.one]
 | box t m H v=>
  obtain ⟨b,o,L,F1,h1,h2,h3,h4,h5,h6⟩:=h;grind [ej,f_]
 | _=>simp[ej] at hR
theorem zB {tv:Value} {s:Slot} {G:FP} {R:Pl} (h:dn P A σ a w tv s G) (hc:∀ b i,1<=G b i->∀ u,ce w b i=some u->ce w2 b i=some u)
  (hR:ej w tv s=some R):ej w2 tv s=some R:=by
 cases s with
 | own t m H v=>exact hR
 | box t m H v=>
  obtain ⟨b,o,L,F1,h1,h2,h3,h4,h5,h6⟩:=h;subst h1;simp only[ej,aQ] at hR ⊢
  have:Has w2 b o L:=λj u hu=>hc _ _ (by
   grind [d8]) u (h3 j u hu)
  grind [f_]
 | _=>simp[ej] at hR
theorem yt {σ':St} {a':Act} {r:Nat} {p:Path} {G:FP} {pl:Pl} (h:dn P A σ a w (tmp a r) (σ.get r) G) (hg:σ'.get r=σ.get r) (ht:tmp a' r=tmp a r)
  (hA:∀ b i,A b i->∀ u,ce w b i=some u->ce w2 b i=some u) (hc:∀ b i,1<=G b i->∀ u,ce w b i=some u->ce w2 b i=some u)
  (hp:place σ a w r p=some pl):place σ' a' w2 r p=some pl:=by
 unfold place at hp ⊢;rw[hg,ht];cases hR:ej w (tmp a r) (σ.get r) <;> grind [zB,zA,y_]
theorem nQ {σ:St} {i:Nat} (h:¬ i < σ.n):σ.get i=.dead:=by simp[St.get,h]
theorem vU {r:Nat} {p:Path} {pl:Pl} (h:place σ a w r p=some pl):r < σ.n:=by
 grind [place,nQ,ej]
theorem Rel.put (h:Rel P C A X σ a w F) {d:Nat} (hd:d < σ.n) {s:Slot} {v:Value} {Fd X':FP} (hs:dn P A σ a w v s Fd) (ht:∀ b i,X' b i+Fd b i<=X b i+F d b i)
  (hwh:∀ t m H v',s=.box t m H v'->∃ b,v=.pointer (some ⟨b,0,none⟩)/\jR w b (t.sz,false)) :
  Rel P C A X' (σ.put d s) (a.put (some d) v) w (il F d Fd):=by
 have oO:=h.size
 have pH:Az σ a w (σ.put d s) (a.put (some d) v) w:=by
  intro r p snap hb;rw[CH,St.ok,CH];by_cases hr:d=r
  ·subst hr;simp only[aL];refine ⟨hb.trans (vx _),λa_=>?_⟩
   have h0:=J9 (h.nF d) hb a_;exact ⟨(JG hb (vx _) a_).1,λhl=>by omega⟩
  ·simp only[aN hr];refine ⟨hb,λa_=>⟨a_,λhl pl i9=>⟨pl.H,pl.cs,?_,λ_=>rfl⟩⟩⟩
   exact yt (h.jz r (vU i9)) (by grind [AA]) (by grind [ql]) (λ_ _ _ _ h=>h) (λ_ _ _ _ h=>h) i9
 have zC:∀ b i,X' b i+bh σ.n (il F d Fd) b i<=X b i+bh σ.n F b i:=λb i=>by
  grind [vS]
 refine ⟨by simp[Act.put,oO,St.put],by simpa [Act.put] using h.defers,λi hi=>?_,?_,λb i=>bB (zC b i) (h.ry b i),λb i hp=>h.sr b i (bB hp (zC b i)),
  λb i hp=>h.mr b i (hp.imp (λhp=>bB hp (zC b i)) id),λi=>?_,h.ext,λb i hp=>h.own b i (bB hp (zC b i)),h.a0,h.a1,?_,?_,?_,h.zy⟩
 ·have hi:i < σ.n:=hi;rw[AA,ql,oO];by_cases hdi:d=i
  ·subst hdi;rw[aH ⟨rfl,hi⟩,aH ⟨rfl,hi⟩];simp only[il,aL];exact dn.oL pH (λ_ _ h=>h) (λ_ _ _ _ h=>h) (λ_ _ h=>h) (λ_ _ _=>⟨λ_ h=>h,rfl⟩) hs
  ·rw[aN (λh=>hdi h.1),aN (λh=>hdi h.1)];simp only[il,aN (λh:i=d=>hdi h.symm)];exact dn.oL pH (λ_ _ h=>h) (λ_ _ _ _ h=>h) (λ_ _ h=>h) (λ_ _ _=>⟨λ_ h=>h,rfl⟩) (h.jz i hi)
 ·intro d' r p snap hm;obtain ⟨hm,i7⟩:=Q8 hm;rw[ql,aN (λh=>i7 h.1.symm)];exact tL.oL pH (h.gh d' r p snap hm)
 ·rw[CH];split
  ·rw[H7];exact h.nF d
  ·exact h.nF i
 ·intro j k hm;obtain ⟨hm,i7⟩:=Cm hm;rw[ql,aN (λh=>i7 h.1.symm)];exact h.qA j k hm
 ·intro r t m H v' hg hl;rw[AA] at hg;rw[ql,oO];by_cases L8:d=r/\r < σ.n
  ·grind
  ·rw[aN L8] at hg ⊢;refine h.whole r t m H v' hg λk hm=>hl k (Ma hm λe=>L8 ⟨e.symm,?_⟩);grind
 ·intro j k hm R hR;obtain ⟨hm,i7⟩:=Cm hm;rw[ql,aN (λh=>i7 h.1.symm),AA,aN (λh=>i7 h.1.symm)] at hR;exact h.pp j k hm R hR
theorem Rel.less (h:Rel P C A X σ a w F) {X':FP} (ht:∀ b i,X' b i<=X b i):Rel P C A X' σ a w F:=
 { h with
  ry:=λb i=>by have:=h.ry b i;grind
  sr:=λb i hp=>h.sr b i (by grind)
  mr:=λb i hp=>h.mr b i (hp.imp (λhp=>by grind) id)
  own:=λb i hp=>h.own b i (by grind) }
theorem Ext.refl (w:World) (F:FP):Ext w w F:=⟨aG _,λ_ _ _ _ _ h=>h,λ_ _ h=>h,λ_ _ _=>rfl,rfl,rfl,rfl,λ_ _ _=>rfl,aG _⟩
theorem Ext.mono {F F':FP} (h:Ext w w2 F) (hF:∀ b i,F' b i=0->F b i=0):Ext w w2 F':={ h with cell:=λb i hb hz=>h.cell b i hb (hF b i hz),obj:=λb hb hz=>h.obj b hb λi=>hF b i (hz i) }
theorem Ext.trans {w3:World} {F G:FP} (h:Ext w w2 F) (h2:Ext w2 w3 G) (hG:∀ b i,b < w.heap.size->F b i=0->G b i=0):Ext w w3 F:=
 ⟨bB h.size h2.size,λb i hb hz u hu=>h2.cell b i (dA hb h.size) (hG b i hb hz) u (h.cell b i hb hz u hu),λb n hn=>h2.y0 b n (h.y0 b n hn),
  λb i hb=>(h2.BU b i (dA hb h.size)).trans (h.BU b i hb),h2.os.trans h.os,h2.tape.trans h.tape,h2.output.trans h.output,
  λb hb hz=>(h2.obj b (dA hb h.size) λi=>hG b i hb (hz i)).trans (h.obj b hb hz),bB h.drawn h2.drawn⟩
theorem Rel.chg (h:Rel P C A X σ a w F) {r:Nat} (hr:r < σ.n) {σ':St} (hn:σ'.n=σ.n) (yM:∀ i,i≠r->σ'.get i=σ.get i) (ael:∀ i,i≠r->σ'.mF i=σ.mF i)
  (hvr:Below (σ.mF r) (σ'.mF r)) (UX:(σ'.mF r).length=5) (F_:∀ e,e ∈ σ'.az->e ∈ σ.az) (aem:∀ j k,(j,k,false) ∈ σ.az->(j,k,false) ∈ σ'.az) (hgh:∀ e,e ∈ σ'.gh->e ∈ σ.gh)
  {X2 YD:FP} {R:Pl} {H2:List Path} {dO:List Value} (hs:dn P A2 σ' a w2 (tmp a r) (σ'.get r) YD) (hR:ej w (tmp a r) (σ.get r)=some R)
  (hR2:ej w2 (tmp a r) (σ'.get r)=some ⟨R.t,H2,dO,R.ad⟩)
  (dm:∀ (p:Path) (snap:List Nat),Below snap (σ.mF r)->σ'.ok r snap=true->(snap.length=min 5 (1+en p)\/snap.length=min 5 (2+en p)\/snap.length=5) ->
   ∃ D full,en p<=D/\(snap.length=min 5 (2+en p)->en p < D\/full)/\(snap.length=5->full)/\uk D full w R.t R.H R.cs R.ad w2 H2 dO)
  (hA:∀ b i,A b i->A2 b i) (hA2:∀ b i,A2 b i->A b i\/(1<=X b i+F r b i/\X2 b i+YD b i=0))
  (hx:∀ b i,X2 b i+YD b i<=X b i+F r b i) (hw:Ext w w2 λb i=>X b i+F r b i) (aen:∀ t m H v,σ'.get r=.box t m H v->∃ m0 H0 v0,σ.get r=.box t m0 H0 v0) (C0:∀ k,(r,k,true) ∈ σ'.az->dO=R.cs) :
  Rel P C A2 X2 σ' a w2 (il F r YD):=by
 have hle:∀ b i,X b i+F r b i<=X b i+bh σ.n F b i:=λb i=>by grind [dw]
 have vu:∀ b i,A b i->∀ u,ce w b i=some u->ce w2 b i=some u:=λb i ha u hu=>by
  refine hw.cell b i (h.mr b i (.inr ha)) ?_ u hu;rcases bK (X b i+F r b i) with h0 | h0
  ·exact h0
  ·exact absurd ha (h.sr b i (bB h0 (hle b i)))
 have H_:∀ j,j < σ.n->j≠r->∀ b i,1<=F j b i->(∀ u,ce w b i=some u->ce w2 b i=some u)/\w2.frozen? ⟨b,i,none⟩=w.frozen? ⟨b,i,none⟩:=λj hj YE b i hp=>by
  have h1:=vT F hj hr YE b i;have h2:=h.ry b i;have hb:=h.mr b i (.inl (by grind));exact ⟨λu hu=>hw.cell b i hb (by grind) u hu,hw.BU b i hb⟩
 have pH:Az σ a w σ' a w2:=by
  intro r' p snap hb;by_cases OR:r'=r
  ·subst OR;refine ⟨hb.trans hvr,λa_=>?_⟩
   refine ⟨(JG hb hvr a_).1,λhl pl i9=>?_⟩
   obtain ⟨D,full,h1,h2,h3,h4⟩:=dm p snap hb a_ hl;unfold place at i9 ⊢;rw[hR] at i9;rw[hR2];obtain ⟨H',cn,h5,h6⟩:=h4 p pl h1 i9;grind
  ·rw[St.ok,ael r' OR];refine ⟨hb,λa_=>⟨a_,λhl pl i9=>⟨pl.H,pl.cs,?_,λ_=>rfl⟩⟩⟩
   have bc:=vU i9;exact yt (h.jz r' bc) (yM r' OR) rfl vu (λb i hp=>(H_ r' bc OR b i hp).1) i9
 have zC:∀ b i,X2 b i+bh σ.n (il F r YD) b i<=X b i+bh σ.n F b i:=λb i=>by
  grind [vS]
 refine ⟨by rw[hn];exact h.size,h.defers,λi hi=>?_,λd r' p snap hm=>tL.oL pH (h.gh d r' p snap (hgh _ hm)),λb i=>by rw[hn];exact bB (zC b i) (h.ry b i),λb i hp ha=>?_,
  λb i hp=>?_,λi=>?_,h.ext.trans hw λb i hb hz=>?_,λb i hp=>by rw[hn] at hp;exact h.own b i (bB hp (zC b i)),λb i ha=>hA b i (h.a0 b i ha),λb i ha=>?_,
  λj k hm=>h.qA j k (F_ _ hm),λr' t m H v hg hl=>?_,λj k hm R' rz=>?_,h.zy⟩
 ·rw[hn] at hi;by_cases UY:i=r
  ·grind [il]
  ·simp only[il,aN UY];rw[yM i UY];exact dn.oL pH hA vu hw.y0 (H_ i hi UY) (h.jz i hi)
 ·rw[hn] at hp
  rcases hA2 b i ha with ha | ⟨h1,h2⟩
  ·exact h.sr b i (bB hp (zC b i)) ha
  ·have h3:=h.ry b i;grind [vS]
 ·rw[hn] at hp;refine dA (h.mr b i ?_) hw.size;grind
 ·by_cases UY:i=r
  ·grind
  ·rw[ael i UY];exact h.nF i
 ·rcases bK (X b i+F r b i) with h0 | h0
  ·exact h0
  ·have:=h.own b i (bB h0 (hle b i));omega
 ·rcases hA2 b i ha with ha | ⟨h1,_⟩
  ·exact h.a1 b i ha
  ·exact .inr (h.own b i (bB h1 (hle b i)))
 ·have:∃ m0 H0 v0,σ.get r'=.box t m0 H0 v0:=by
   grind
  obtain ⟨m0,H0,v0,hg0⟩:=this;obtain ⟨b,h1,h2⟩:=h.whole r' t m0 H0 v0 hg0 λk hm=>hl k (aem _ _ hm);exact ⟨b,h1,hw.y0 _ _ h2⟩
 ·by_cases YE:j=r
  ·subst YE;rw[hR2] at rz;injection rz with rz;subst rz;show dj R.t dO=_;rw[C0 k hm];exact h.pp j k (F_ _ hm) R hR
  ·rcases cR j σ.n with hj | hj
   ·rw[yM j YE] at rz;have oH:=h.jz j hj
    cases Ce:ej w (tmp a j) (σ.get j) with
    | none=>exfalso;cases hg:σ.get j <;> rw[hg] at Ce rz <;> simp only[ej] at Ce rz <;> first | grind | grind | grind
    | some R0=>
     rw[zB oH (λb i hp=>(H_ j hj YE b i hp).1) Ce] at rz;injection rz with rz;subst rz;exact h.pp j k (F_ _ hm) _ Ce
   ·rw[nQ (by rw[hn];omega)] at rz;cases rz
end
end OT
set_option linter.unusedVariables false
set_option linter.unusedSimpArgs false
namespace OT
open Go
def mH (ad:Option (Nat×Nat)) (n:Nat):FP:=λb i=>match ad with
 | some (b',o)=>d8 b' o n b i
 | none=>0
section
variable {P:Program} {C:Ctx} {A:Cells} {X:FP} {σ:St} {a:Act} {w:World} {F:Nat->FP} {R:Type} {x:R}
theorem Me {r:Nat} {K:(t:Ty)->Md->List Path->t.den->Option R} (h:zp σ r K=some x) :
  r < σ.n/\∃ t m H v,(σ.get r=.own t m H v\/σ.get r=.box t m H v)/\K t m H v=some x:=by
 grind [zp,nQ]
structure aeo (P:Program) (A:Cells) (σ:St) (a:Act) (w:World) (r:Nat) (G:FP) (t:Ty) (m:Md) (H:List Path) (v:t.den) (cs:List Value) (ad:Option (Nat×Nat)) (F1:FP):Prop where
 root:ej w (tmp a r) (σ.get r)=some ⟨t,H,cs,ad⟩
 rep:am P w A t m H v cs F1
 le:∀ b i,mH ad t.sz b i+F1 b i<=G b i
 has:∀ b o,ad=some (b,o)->Has w b o cs
 BU:∀ b o,ad=some (b,o)->∀ j,j < t.sz->w.frozen? ⟨b,o+j,none⟩=false
 val:ad=none->tmp a r=dj t cs/\σ.get r=.own t m H v
 ptr:∀ b o,ad=some (b,o)->tmp a r=.pointer (some ⟨b,o,none⟩)/\σ.get r=.box t m H v
theorem dn.root {r:Nat} {G:FP} (h:dn P A σ a w (tmp a r) (σ.get r) G) {t:Ty} {m:Md} {H:List Path} {v:t.den} (hg:σ.get r=.own t m H v\/σ.get r=.box t m H v) :
  ∃ cs ad F1,aeo P A σ a w r G t m H v cs ad F1:=by
 rcases hg with hg | hg
 ·rw[hg] at h;obtain ⟨cs,h1,h2⟩:=h;refine ⟨cs,none,G,by grind [ej,mq,am.length,am.one],h2,λb i=>by simp[mH],(λb o h=>by cases h),(λb o h=>by cases h),λ_=>⟨h1,hg⟩,(λb o h=>by cases h)⟩
 ·rw[hg] at h;obtain ⟨b,o,L,F1,h1,h2,h3,h4,h5,h6⟩:=h;refine ⟨L,some (b,o),F1,by grind [ej,f_],h6,λb i=>h5 b i,?_,?_,(λh=>by cases h),?_⟩
  all_goals grind
theorem m_ (h:Rel P C A X σ a w F) {r:Nat} {p:Path} {K:(t:Ty)->Md->List Path->t.den->Option R} (hk:rS σ r p K=some x) :
  r < σ.n/\∃ (t':Ty) (m':Md) (H':List Path) (v':t'.den) (cn:List Value) (dp:Option (Nat×Nat)) (F':FP),K t' m' H' v'=some x/\(∀ {S:Type} (K0:(t:Ty)->Md->List Path->t.den->Option S),rS σ r p K0=K0 t' m' H' v')/\place σ a w r p=some ⟨t',H',cn,dp⟩/\am P w A t' m' H' v' cn F' /\
   (∀ b i,F' b i<=F r b i)/\(∀ b o,dp=some (b,o)->Has w b o cn):=by
 obtain ⟨hr,t,m,H,v,hg,hk⟩:=Me hk;obtain ⟨cs,ad,F1,RO⟩:=(h.jz r hr).root hg;obtain ⟨t',m',H',v',cn,dp,F',h1,hn,h2,h3,h4,h5,_⟩:=aeg p t hk RO.rep (ad:=ad) RO.has;refine ⟨hr,t',m',H',v',cn,dp,F',h1,λK0=>?_,?_,h3,λb i=>by have:=h4 b i;have:=RO.le b i;omega,h5⟩
 ·grind [rS,zp]
 unfold place;rw[RO.root];exact h2
theorem AZ (r:Nat) (t:Ty) (m:Md) (H:List Path) (v:t.den) (i:Nat) (h:i≠r):(σ.lV r t m H v).get i=σ.get i:=by
 grind [St.lV,JH]
theorem zD {r:Nat} (hr:r < σ.n) {t t0:Ty} {m m0:Md} {H H0:List Path} {v0:t0.den} (v:t.den) (h:σ.get r=.own t0 m0 H0 v0):(σ.lV r t m H v).get r=.own t m H v:=by
 grind [St.lV,JH]
theorem zE {r:Nat} (hr:r < σ.n) {t t0:Ty} {m m0:Md} {H H0:List Path} {v0:t0.den} (v:t.den) (h:σ.get r=.box t0 m0 H0 v0):(σ.lV r t m H v).get r=.box t m H v:=by
 grind [St.lV,JH]
theorem xn (r:Nat) (t:Ty) (m:Md) (H:List Path) (v:t.den):(σ.lV r t m H v).n=σ.n:=by unfold St.lV;split <;> rfl
theorem tr (r:Nat) (t:Ty) (m:Md) (H:List Path) (v:t.den) (i:Nat):(σ.lV r t m H v).mF i=σ.mF i:=by unfold St.lV;split <;> rfl
theorem zF (r:Nat) (t:Ty) (m:Md) (H:List Path) (v:t.den):(σ.lV r t m H v).az=σ.az:=by unfold St.lV;split <;> rfl
theorem Ga (r:Nat) (t:Ty) (m:Md) (H:List Path) (v:t.den):(σ.lV r t m H v).gh=σ.gh:=by unfold St.lV;split <;> rfl
def s_ (σ σ':St):Prop:=∀ (w:World) (tv:Value) (i:Nat) (R:Pl),ej w tv (σ'.get i)=some R->∃ H,ej w tv (σ.get i)=some ⟨R.t,H,R.cs,R.ad⟩
theorem s_.refl (σ:St):s_ σ σ:=λw tv i R h=>⟨R.H,h⟩
theorem s_.trans {σ σ' AB:St} (h:s_ σ σ') (h':s_ σ' AB):s_ σ AB:=by
 intro w tv i R0 hR;obtain ⟨H,h1⟩:=h' w tv i R0 hR;exact h w tv i ⟨R0.t,H,R0.cs,R0.ad⟩ h1
theorem BV {r:Nat} (hr:r < σ.n) {t:Ty} {m m0:Md} {H H0:List Path} {v0:t.den} (v:t.den) (h:σ.get r=.own t m0 H0 v0\/σ.get r=.box t m0 H0 v0) {σ':St} (hg:∀ i,σ'.get i=(σ.lV r t m H v).get i):s_ σ σ':=by
 intro w tv i R hR;rw[hg] at hR;by_cases hi:i=r
 ·subst hi;rcases h with h | h
  ·grind [zD,ej]
  ·rw[zE hr v h] at hR;rw[h];simp only[ej] at hR ⊢;grind
 ·rw[AZ r t m H v i hi] at hR;exact ⟨R.H,hR⟩
structure aaJ (σ:St) (r:Nat) (s:Slot) (aep:Prop) (σ':St):Prop where
 n:σ'.n=σ.n
 get:∀ i,i≠r->σ'.get i=σ.get i
 root:σ'.get r=s
 mF:∀ i,i≠r->σ'.mF i=σ.mF i
 below:Below (σ.mF r) (σ'.mF r)
 nF:(σ'.mF r).length=5
 az:∀ e,e ∈ σ'.az->e ∈ σ.az
 acw:∀ j k,(j,k,false) ∈ σ.az->(j,k,false) ∈ σ'.az
 gh:∀ e,e ∈ σ'.gh->e ∈ σ.gh
 head:∀ k,(r,k,true) ∈ σ'.az->aep
theorem Rel.yN (h:Rel P C A X σ a w F) {r:Nat} {p:Path} {f:(t':Ty)->Md->List Path->t'.den->(Md->List Path->t'.den->Option R)->Option R}
  {Kf:(t:Ty)->Md->List Path->t.den->Option R} (hk:zp σ r (λt0 m0 H0 v0=>tI p t0 m0 H0 v0 f λm' H' v'=>Kf t0 m' H' v')=some x) :
  r < σ.n/\∃ (t':Ty) (m':Md) (H':List Path) (v':t'.den) (cn:List Value) (dp:Option (Nat×Nat)) (F':FP) (kk:Md->List Path->t'.den->Option R),
   f t' m' H' v' kk=some x/\(∀ {S:Type} (K0:(t:Ty)->Md->List Path->t.den->Option S),rS σ r p K0=K0 t' m' H' v')/\place σ a w r p=some ⟨t',H',cn,dp⟩/\am P w A t' m' H' v' cn F' /\
   (∀ b i,mH dp t'.sz b i+F' b i<=F r b i)/\(∀ b o,dp=some (b,o)->Has w b o cn)/\(∀ b o,dp=some (b,o)->∀ j,j < t'.sz->w.frozen? ⟨b,o+j,none⟩=false) /\
   ∀ m2 H2 (v2:t'.den),kk m2 H2 v2=some x->∀ (w2:World) (A2:Cells) (dO:List Value) (F2 X2:FP),
    Ext w w2 (λb i=>X b i+(F' b i+mH dp t'.sz b i))->(∀ b i,A b i->A2 b i)->(∀ b i,A2 b i->A b i\/(1<=X b i+F' b i/\X2 b i+F2 b i=0)) ->
    (∀ b i,X2 b i+F2 b i<=X b i+F' b i)->(∀ b o,dp=some (b,o)->Has w2 b o dO)->(dp=none->dO=cn)->am P w2 A2 t' m2 H2 v2 dO F2 ->
    ∃ (t0:Ty) (m3:Md) (H3:List Path) (v3:t0.den) (Fr:FP) (A3:Cells),Kf t0 m3 H3 v3=some x/\(∃ (m0:Md) (H0:List Path) (v0:t0.den),σ.get r=.own t0 m0 H0 v0\/σ.get r=.box t0 m0 H0 v0)/\(∀ b i,A2 b i->A3 b i)/\(∀ b i,Fr b i<=F r b i+X b i) /\
     ∀ σ',aaJ σ r ((σ.lV r t0 m3 H3 v3).get r) (1<=en p\/dO=cn) σ' ->
      (∀ (p':Path) (snap:List Nat),Below snap (σ.mF r)->σ'.ok r snap=true->(snap.length=min 5 (1+en p')\/snap.length=min 5 (2+en p')\/snap.length=5) ->
       ∃ D full,en p'<=D+en p/\(snap.length=min 5 (2+en p')->en p' < D+en p\/full)/\(snap.length=5->full)/\uk D full w t' H' cn dp w2 H2 dO) ->
      Rel P C A3 X2 σ' a w2 (il F r Fr):=by
 obtain ⟨hr,t,m,H,v,hg,hk⟩:=Me hk;obtain ⟨cs,ad,F1,RO⟩:=(h.jz r hr).root hg;have J_:∀ b i,X b i+F r b i<=1:=λb i=>by have:=h.ry b i;grind [dw]
 have Ay:∀ b o,ad=some (b,o)->∀ j,j < t.sz->F1 b (o+j)=0:=λb o e j hj=>by
  have h1:=RO.le b (o+j);grind [mH,d8]
 obtain ⟨t',m',H',v',cn,dp,F',G,kk,loc,M⟩:=aeh p t hk RO.rep (λb i=>by have:=J_ b i;have:=RO.le b i;omega) RO.has Ay;have hlen:=am.length t RO.rep
 have Q9:∀ b i,mH dp t'.sz b i+F' b i<=F r b i/\(1<=mH dp t'.sz b i->1<=G b i\/1<=mH ad t.sz b i)/\mH dp t'.sz b i<=1:=λb i=>by
  have h1:=M.sum b i;have h2:=RO.le b i;have h3:=J_ b i
  cases lI:dp with
  | none=>grind [mH]
  | some bo=>
   obtain ⟨b0,o0⟩:=bo;simp only[mH,d8];split
   ·rename_i gb;obtain ⟨rfl,aiJ,aaK⟩:=gb
    cases loc with
    | none=>
     obtain ⟨b',o',e1,e2⟩:=M.out rfl;rw[lI] at e1;simp only[aQ,bN] at e1;obtain ⟨rfl,rfl⟩:=e1;have:=(e2 (i - o0) Bys).1;grind
    | some off=>
     obtain ⟨e1,e2,e3⟩:=M.wG off rfl;grind [jo,d8,mH]
   ·omega
 refine ⟨hr,t',m',H',v',cn,dp,F',kk,M.run,λK0=>?_,by unfold place;rw[RO.root];exact M.place,M.rep,λb i=>(Q9 b i).1,M.has,λb o e j hj=>?_,?_⟩
 ·unfold rS zp;rcases hg with hg | hg <;> rw[hg] <;> exact M.Yx K0
 ·cases loc with
  | none=>
   obtain ⟨b',o',e1,e2⟩:=M.out rfl;grind
  | some off=>
   obtain ⟨e1,e2,e3⟩:=M.wG off rfl
   cases C3:ad with
   | none=>rw[e,C3] at e3;cases e3
   | some y=>
    rw[e,C3] at e3;simp only[jo,bR,aQ,bN] at e3;obtain ⟨rfl,rfl⟩:=e3;have:=RO.BU y.1 y.2 C3 (off+j) Bys;grind
 intro m2 H2 v2 OS w2 A2 dO F2 X2 fq hA hA2 hX yn L_ JI;have yg:=am.length t' JI
 have vu:∀ b i,A b i->∀ u,ce w b i=some u->ce w2 b i=some u:=λb i ha u hu=>by
  refine fq.cell b i (h.mr b i (.inr ha)) ?_ u hu;have h1:=(Q9 b i).1;have h2:=dw F hr b i;have h3:=h.sr b i;grind
 have hGc:∀ b i,1<=G b i\/1<=mH ad t.sz b i->(∀ o,dp=some (b,o)->¬ (o<=i/\i < o+t'.sz))->∀ u,ce w b i=some u->ce w2 b i=some u:=λb i hp hn u hu=>by
  have h1:=Q9 b i;have h2:=J_ b i;have h3:=M.sum b i;have h4:=RO.le b i
  refine fq.cell b i (h.mr b i (.inl (by grind [dw]))) ?_ u hu;show X b i+(F' b i+mH dp t'.sz b i)=0
  have h5:mH dp t'.sz b i=0:=by
   cases lI:dp <;> grind [mH,d8]
  omega
 have afU:∀ b i,F2 b i+G b i<=1:=λb i=>by
  have:=hX b i;have:=M.sum b i;have:=RO.le b i;grind
 obtain ⟨m3,H3,v3,F3,k1,k2,k3,k4⟩:=M.back m2 H2 v2 OS w2 A2 dO F2 fq.y0 hA vu (λb i hp hn=>hGc b i (.inl hp) hn) yn JI afU
 have aeq:(mW loc cs t'.sz dO).length=t.sz:=by
  cases loc with
  | none=>exact hlen
  | some off=>have:=(M.wG off rfl).1;grind [mW,xN]
 have Cj:dO=cn->mW loc cs t'.sz dO=cs:=λe=>by
  cases loc with
  | none=>rfl
  | some off=>
   obtain ⟨e1,e2,_⟩:=M.wG off rfl;rw[e,e2];exact CY Bys
 have Wn:∀ b o,ad=some (b,o)->Has w2 b o (mW loc cs t'.sz dO):=λb o e=>by
  have cells:∀ j u,cs[j]?=some u->(∀ o',dp=some (b,o')->¬ (o'<=o+j/\o+j < o'+t'.sz))->ce w2 b (o+j)=some u:=λj u hu hn=>by
   have hj:j < t.sz:=hlen ▸ (aO.1 hu).1;exact hGc b (o+j) (.inr (by grind [mH,d8])) hn u (RO.has b o e j u hu)
  cases Q_:loc with
  | none=>
   intro j u hu;refine cells j u hu λo' he gb=>?_;have hj:j < t.sz:=hlen ▸ (aO.1 hu).1;obtain ⟨b',o'',e1,e2⟩:=M.out Q_;rw[he] at e1;simp only[aQ,bN] at e1;obtain ⟨rfl,rfl⟩:=e1;have h1:=(e2 (o+j - o') Bys).1;rw[show o'+(o+j - o')=o+j by omega] at h1;have h2:=RO.le b (o+j);have h3:=J_ b (o+j);have h4:=M.sum b (o+j)
   grind
  | some off=>
   obtain ⟨e1,e2,e3⟩:=M.wG off Q_;rw[e] at e3;simp only[jo,bR] at e3
   exact US Bys yg (yn b (o+off) e3) (λj u hu hn=>cells j u hu λo' he gb=>by
    grind)
 refine ⟨t,m3,H3,v3,λb i=>mH ad t.sz b i+F3 b i,λb i=>A2 b i\/(1<=F2 b i+G b i/\F3 b i=0),k1,⟨m,H,v,hg⟩,λ_ _ h=>.inl h,λb i=>?_,λσ' on dm=>?_⟩
 ·have h1:=k2 b i;have h2:=hX b i;have h3:=M.sum b i;have h4:=RO.le b i
  grind
 have Wo:=k3 (λb i=>A2 b i\/(1<=F2 b i+G b i/\F3 b i=0)) (λ_ _ h=>.inl h) (λb i h1 h2=>.inr ⟨h1,h2⟩)
 have Ql:dn P (λb i=>A2 b i\/(1<=F2 b i+G b i/\F3 b i=0)) σ' a w2 (tmp a r) (σ'.get r) (λb i=>mH ad t.sz b i+F3 b i)/\ej w2 (tmp a r) (σ'.get r)=some ⟨t,H3,mW loc cs t'.sz dO,ad⟩:=by
  rw[on.root]
  cases C3:ad with
  | none=>
   obtain ⟨e1,e2⟩:=RO.val C3
   have e3:mW loc cs t'.sz dO=cs:=by
    cases Q_:loc with
    | none=>rfl
    | some off=>
     have:=(M.wG off Q_).2.2;rw[C3] at this;rw[<-Q_];exact Cj (L_ this)
   rw[zD hr v3 e2];rw[e3] at Wo ⊢;exact ⟨⟨cs,e1,am.le Wo (λb i=>by grind)⟩,by grind [ej,mq,am.one]⟩
  | some bo=>
   obtain ⟨b,o⟩:=bo;obtain ⟨e1,e2⟩:=RO.ptr b o C3;rw[zE hr v3 e2,e1];have hh:=Wn b o C3;refine ⟨⟨b,o,_,F3,rfl,aeq,hh,λj hj=>?_,λb' i=>?_,Wo⟩,by grind [ej,f_]⟩
   ·have hb:b < w.heap.size:=h.mr b (o+j) (.inl (by
     have h1:=RO.le b (o+j);grind [dw,mH,d8]))
    rw[fq.BU b (o+j) hb];exact RO.BU b o C3 j hj
   ·exact aG _
 refine h.chg hr on.n on.get on.mF on.below on.nF on.az on.acw on.gh Ql.1 RO.root Ql.2 (λp' snap h1 h2 h3=>?_) (λb i ha=>.inl (hA b i ha)) (λb i ha=>?_) (λb i=>?_) (fq.mono λb i hz=>?_) (λt5 m5 H5 v5 hg5=>?_) (λk hm=>?_)
 ·grind
 ·have h1:=hX b i;have h2:=k2 b i;have h3:=M.sum b i;have h4:=RO.le b i;grind
 ·have h1:=hX b i;have h2:=k2 b i;have h3:=M.sum b i;have h4:=RO.le b i
  grind
 ·grind
 ·rw[on.root] at hg5;grind [zD,zE]
 ·rcases on.head k hm with hp | he
  ·rw[M.Wk hp];rfl
  grind
end
end OT
set_option linter.unusedVariables false
set_option linter.unusedSimpArgs false
namespace OT
open Go
theorem am.acx {P:Program} {w:World} {A:Cells}:∀ (t:Ty) {m:Md} {H:List Path} {v:t.den} {cs:List Value} {F:FP},am P w A t m H v cs F->am P w A t m (wM t) v cs (λ_ _=>0):=by
 intro t
 induction t with
 | pair a b nY nH=>
  intro m H v cs F h;obtain ⟨_,F1,F2,hs,h1,h2⟩:=h;refine ⟨by grind [wM,uQ,tJ],λ_ _=>0,λ_ _=>0,λ_ _=>aG _,?_,?_⟩
  all_goals grind [wM,wE,xj,xk,wF]
 | aa e ih=>
  intro m H v cs F h;have h1:=am.length _ h;have h2:=am.one _ h
  match cs,h1 with
  | [y],_=>grind [am,wM,hole]
 | ptr e ih=>
  intro m H v cs F h;have h1:=am.length _ h;have h2:=am.one _ h
  match cs,h1 with
  | [y],_=>grind [am,wM,hole]
 | arr n e ih=>intro m H v cs F h;rw[wM,h.2.1];obtain ⟨rfl,h⟩:=h;exact ⟨rfl,h⟩
 | map k v=>
  intro m H v cs F h;have h1:=am.length _ h;have h2:=am.one _ h
  match cs,h1 with
  | [y],_=>grind [am,wM,hole]
 | _=>intro m H v cs F h;exact h
section
variable {P:Program} {C:Ctx} {A:Cells} {X:FP} {σ:St} {a:Act} {w:World} {F:Nat->FP} {R:Type} {x:R}
structure At (σ:St) (r:Nat) (p:Path) (t:Ty) (m:Md) (H:List Path) (v:t.den):Prop where
 eq:∀ {S:Type} (K0:(t:Ty)->Md->List Path->t.den->Option S),rS σ r p K0=K0 t m H v
theorem At.inj {r:Nat} {p:Path} {t t':Ty} {m m':Md} {H H':List Path} {v:t.den} {v':t'.den} (h:At σ r p t m H v) (h':At σ r p t' m' H' v'):t=t'/\m=m'/\H=H'/\HEq v v':=by
 have h1:=h.eq (λt m H v=>some (⟨t,m,H,v⟩:(t:Ty)×Md×List Path×t.den));rw[h'.eq] at h1;grind
theorem Mf (σ:St) (r d:Nat):(σ.head r d).n=σ.n:=by unfold St.head;split <;> rfl
theorem C4 (σ:St) (r d i:Nat):(σ.head r d).get i=σ.get i:=by unfold St.head;split <;> rfl
theorem C5 (σ:St) (r d i:Nat):(σ.head r d).mF i=σ.mF i:=by unfold St.head;split <;> rfl
theorem UZ (σ:St) (r d:Nat):(σ.head r d).gh=σ.gh:=by unfold St.head;split <;> rfl
theorem Ra {r d:Nat} {f:List Nat->List Nat} (h1:Below (σ.mF r) (f (σ.mF r))) (h2:(f (σ.mF r)).length=5) {t:Ty} {m:Md} {H:List Path} {v:t.den} {q:Prop} (hq:1<=d->q) :
  aaJ σ r ((σ.lV r t m H v).get r) q (((σ.lV r t m H v).oG r f).head r d) where
 n:=by rw[Mf];exact xn r t m H v
 get i hi:=by rw[C4];exact AZ r t m H v i hi
 root:=by rw[C4];rfl
 mF i hi:=by grind [C5,s9,tr]
 below:=by grind [C5,s9,tr]
 nF:=by grind [C5,s9,tr]
 az e he:=by
  unfold St.head at he;grind [Mb,St.oG,zF]
 acw j k hm:=by
  unfold St.head;grind [Wm,St.oG,zF]
 gh e he:=by grind [UZ,St.oG,Ga]
 head k hm:=by
  unfold St.head at hm;split at hm
  ·exact absurd ⟨rfl,rfl⟩ (Mb hm).2
  grind
theorem Rb (h:Rel P C A X σ a w F) {r:Nat} {p:Path} {K:St->Option R} (hk:Ci σ r p K=some x) {t':Ty} {m':Md} {H':List Path} {v':t'.den} (hn:At σ r p t' m' H' v') :
  ∃ (A':Cells) (σ':St) (F':Nat->FP) (cs:List Value) (ad:Option (Nat×Nat)) (Fv:FP),K σ'=some x/\(∀ b i,A b i->A' b i)/\Rel P C A' (λb i=>X b i+Fv b i) σ' a w F'/\σ'.n=σ.n/\s_ σ σ' /\
   place σ a w r p=some ⟨t',H',cs,ad⟩/\am P w A t' m' H' v' cs Fv/\∀ b i,Fv b i<=F r b i:=by
 obtain ⟨hr,t1,m1,H1,v1,cs,ad,Fv,kk,h1,h2,h3,h4,h5,h6,h7,h8⟩:=h.yN hk;obtain ⟨e1,e2,e3,e4⟩:=hn.inj ⟨h2⟩;subst e1;subst e2;subst e3;have e4:=gI e4;subst e4;obtain ⟨t0,m3,H3,v3,Fr,A3,k1,⟨m0,H0,v0,k0⟩,k2,k3,k4⟩:=h8 _ _ _ h1 w A cs (λ_ _=>0) (λb i=>X b i+Fv b i) (Ext.refl _ _) (λ_ _ h=>h) (λ_ _ h=>.inl h) (λb i=>aG _) h6 (λ_=>rfl) (am.acx _ h4);refine ⟨A3,_,_,cs,ad,Fv,k1,k2,k4 _ (Ra (xm _ (h.nF r)) (F9 _ (h.nF r)) .inl) (λp' snap hb a_ hl=>?_),?_,BV hr v3 k0 (λi=>by rw[C4];rfl),h3,h4,λb i=>by grind⟩
 ·refine ⟨0,False,?_,?_,?_,uk.zero (A:=A) ad (am.acx _ h4)⟩
  all_goals
   unfold St.ok at a_;rw[C5,s9,aH rfl,tr] at a_;have:=H9 (en p) (h.nF r) hb a_
  all_goals omega
 ·rw[Mf];exact xn _ _ _ _ _
theorem NV (h:Rel P C A X σ a w F) {r:Nat} {p:Path} {K:St->Option R} (hk:Ci σ r p K=some x) {t':Ty} {m':Md} {v':t'.den} (hn:At σ r p t' m' [] v') :
  ∃ (A':Cells) (σ':St) (F':Nat->FP) (cs:List Value) (ad:Option (Nat×Nat)) (Fv:FP),K σ'=some x/\(∀ b i,A b i->A' b i)/\Rel P C A' (λb i=>X b i+Fv b i) σ' a w F'/\σ'.n=σ.n/\s_ σ σ' /\
   place σ a w r p=some ⟨t',[],cs,ad⟩/\am P w A t' m' [] v' cs Fv:=
 have ⟨A',σ',F',cs,ad,Fv,h1,h2,h3,h4,h5,h6,h7,_⟩:=Rb h hk hn
 ⟨A',σ',F',cs,ad,Fv,h1,h2,h3,h4,h5,h6,h7⟩
theorem OU {r:Nat} (hv:(σ.mF r).length=5) {t:Ty} {m:Md} {H:List Path} {v:t.den} {q:Prop} (hq:q):aaJ σ r ((σ.lV r t m H v).get r) q (σ.lV r t m H v):=
 ⟨xn _ _ _ _ _,λi hi=>AZ _ _ _ _ _ i hi,rfl,λi _=>tr _ _ _ _ _ i,by rw[tr];exact Below.refl _,by grind [tr],
  λe he=>by grind [zF],λj k hm=>by grind [zF],λe he=>by grind [Ga],λ_ _=>hq⟩
theorem TJ (h:Rel P C A X σ a w F) {r:Nat} {p:Path} {m2:Md} {K:St->Option R} (hk:yY σ r p m2 K=some x) :
  ∃ (A':Cells) (σ':St) (F':Nat->FP),K σ'=some x/\(∀ b i,A b i->A' b i)/\Rel P C A' X σ' a w F'/\σ'.n=σ.n/\s_ σ σ':=by
 obtain ⟨hr,t1,m1,H1,v1,cs,ad,Fv,kk,h1,h2,h3,h4,h5,h6,h7,h8⟩:=h.yN hk;have J_:∀ b i,X b i+F r b i<=1:=λb i=>by have:=h.ry b i;grind [dw]
 split at h1
 ·rename_i hc;simp only[aC,bH] at hc;obtain ⟨rfl,hc⟩:=hc;obtain ⟨F1,hF1,jL⟩:=am.fits _ hc h4 (λb i=>by grind);have acy:=jL (λb i=>A b i\/(1<=Fv b i/\F1 b i=0)) (λ_ _ h=>.inl h) (λb i h1 h2=>.inr ⟨h1,h2⟩)
  obtain ⟨t0,m3,H3,v3,Fr,A3,k1,⟨m0,H0,v0,k0⟩,k2,k3,k4⟩:=h8 _ _ _ h1 w (λb i=>A b i\/(1<=Fv b i/\F1 b i=0)) cs F1 X (Ext.refl _ _) (λ_ _ h=>.inl h)
   (λb i ha=>ha.imp id λ⟨h1,h2⟩=>⟨by omega,by grind⟩) (λb i=>by grind) h6 (λ_=>rfl) acy
  exact ⟨A3,_,_,k1,λb i ha=>k2 b i (.inl ha),k4 _ (OU (h.nF r) (.inr rfl)) (λp' snap hb a_ hl=>⟨en p'+1,True,by omega,λ_=>.inr trivial,λ_=>trivial,
   uk.same ad h4 (λ_ _ _ _ h=>h) (λ_ _ _ _ h=>h) _ True⟩),xn _ _ _ _ _,BV hr v3 k0 (λi=>rfl)⟩
 ·cases h1
theorem Bp (h:Rel P C A X σ a w F) {r:Nat} {p:Path} {K:St->Option R} (hk:Ax σ r p K=some x) :
  ∃ (A':Cells) (σ':St) (F':Nat->FP) (t':Ty) (m':Md) (v':t'.den) (cs:List Value) (ad:Option (Nat×Nat)),K σ'=some x/\(∀ b i,A b i->A' b i)/\Rel P C A' X σ' a w F'/\σ'.n=σ.n/\s_ σ σ' /\
   At σ r p t' m' [] v'/\place σ a w r p=some ⟨t',[],cs,ad⟩/\Ro P w A' t' v' cs:=by
 obtain ⟨hr,t1,m1,H1,v1,cs,ad,Fv,kk,h1,h2,h3,h4,h5,h6,h7,h8⟩:=h.yN hk;have J_:∀ b i,X b i+F r b i<=1:=λb i=>by have:=h.ry b i;grind [dw]
 split at h1
 ·rename_i hc;simp only[aC,bH] at hc;obtain ⟨rfl,hc⟩:=hc;have yh:Ro P w (λb i=>A b i\/1<=Fv b i) t1 v1 cs:=am.zu (λ_ _ h=>.inl h) t1 h4 (λb i hp=>.inr hp)
  obtain ⟨t0,m3,H3,v3,Fr,A3,k1,⟨m0,H0,v0,k0⟩,k2,k3,k4⟩:=h8 _ _ _ h1 w (λb i=>A b i\/1<=Fv b i) cs (λ_ _=>0) X (Ext.refl _ _) (λ_ _ h=>.inl h)
   (λb i ha=>ha.imp id λh1=>⟨by omega,by grind⟩) (λb i=>by omega) h6 (λ_=>rfl) (Ro.rep _ _ (jh _) yh)
  exact ⟨A3,_,_,t1,m1,v1,cs,ad,k1,λb i ha=>k2 b i (.inl ha),k4 _ (OU (h.nF r) (.inr rfl)) (λp' snap hb a_ hl=>⟨en p'+1,True,by omega,λ_=>.inr trivial,λ_=>trivial,
   uk.same ad h4 (λ_ _ _ _ h=>h) (λ_ _ _ _ h=>h) _ True⟩),xn _ _ _ _ _,BV hr v3 k0 (λi=>rfl),⟨h2⟩,h3,Ro.mono (λ_ _ _ _ h=>h) k2 _ yh⟩
 ·cases h1
theorem dh {t t':Ty} {v:t.den} {K:t'.den->Option R} (h:kT t t' v K=some x):∃ e:t=t',K (e ▸ v)=some x:=by
 grind [kT]
theorem Fc (h:Rel P C A X σ a w F) {r:Nat} {p:Path} {t:Ty} {m:Md} {v:t.den} {K:St->Option R} (hk:ym σ r p t m v K=some x) :
  r < σ.n/\∃ (m':Md) (H':List Path) (v':t.den) (cs:List Value) (ad:Option (Nat×Nat)) (F':FP),At σ r p t m' H' v'/\place σ a w r p=some ⟨t,H',cs,ad⟩/\am P w A t m' H' v' cs F' /\
   (∀ b i,mH ad t.sz b i+F' b i<=F r b i)/\(∀ b o,ad=some (b,o)->Has w b o cs/\∀ j,j < t.sz->w.frozen? ⟨b,o+j,none⟩=false) /\
   ∀ (w2:World) (A2:Cells) (dO:List Value) (Fv X2:FP),Ext w w2 (λb i=>X b i+(F' b i+mH ad t.sz b i))->(∀ b i,A b i->A2 b i)->(∀ b i,A2 b i->A b i\/(1<=X b i+F' b i/\X2 b i+Fv b i=0)) ->
    (∀ b i,X2 b i+Fv b i<=X b i+F' b i)->(∀ b o,ad=some (b,o)->Has w2 b o dO)->(ad=none->dO=cs)->am P w2 A2 t m [] v dO Fv ->
    ∃ (A3:Cells) (σ':St) (Fr:FP),K σ'=some x/\(∀ b i,A2 b i->A3 b i)/\Rel P C A3 X2 σ' a w2 (il F r Fr)/\σ'.n=σ.n /\
     ∀ g:List Nat->List Nat,Below (σ.mF r) (g (σ.mF r))->(g (σ.mF r)).length=5->dO=cs ->
      (∀ (p':Path) (snap:List Nat),Below snap (σ.mF r)->preB snap (g (σ.mF r))=true->(snap.length=min 5 (1+en p')\/snap.length=min 5 (2+en p')\/snap.length=5) ->
       ∃ D full,en p'<=D+en p/\(snap.length=min 5 (2+en p')->en p' < D+en p\/full)/\(snap.length=5->full)/\uk D full w t H' cs ad w2 [] dO) ->
      Rel P C A3 X2 { σ' with vr:=(σ.oG r g).vr,az:=σ.az } a w2 (il F r Fr):=by
 obtain ⟨hr,t1,m1,H1,v1,cs,ad,Fv,kk,h1,h2,h3,h4,h5,h6,h7,h8⟩:=h.yN hk;obtain ⟨e,h1⟩:=dh h1;subst e;refine ⟨hr,m1,H1,v1,cs,ad,Fv,⟨h2⟩,h3,h4,h5,λb o e=>⟨h6 b o e,h7 b o e⟩,λw2 A2 dO Fv2 X2 g1 g2 g3 g4 g5 g6 g7=>?_⟩
 obtain ⟨t0,m3,H3,v3,Fr,A3,k1,⟨m0,H0,v0,k0⟩,k2,k3,k4⟩:=h8 m [] v h1 w2 A2 dO Fv2 X2 g1 g2 g3 g4 g5 g6 g7;refine ⟨A3,_,Fr,k1,k2,k4 _ (Ra ?_ ?_ .inl) (λp' snap hb a_ hl=>?_),?_,λg hg1 hg2 pP dm=>?_⟩
 ·split
  ·exact AY (h.nF r)
  ·exact xm _ (h.nF r)
 ·split
  ·exact H8 (h.nF r)
  ·exact F9 _ (h.nF r)
 ·unfold St.ok at a_;rw[C5,s9,aH rfl,tr] at a_;by_cases hf:t.flat=true
  ·rw[aH hf] at a_;have:=KS (h.nF r) hb a_;exact ⟨en p'+1,False,by omega,λ_=>.inl Bys,λ_=>by omega,uk.flat (A:=A) ad g7 hf _⟩
  ·rw[aN hf] at a_;have:=H9 (en p) (h.nF r) hb a_;exact ⟨0,False,by omega,λ_=>.inl Bys,λ_=>by omega,uk.zero (A:=A) ad g7⟩
 ·rw[Mf];exact xn _ _ _ _ _
 ·refine k4 _ ⟨by rw[Mf];exact xn _ _ _ _ _,λi hi=>?_,?_,λi hi=>?_,?_,?_,λe he=>he,λj k hm=>hm,λe he=>?_,λ_ _=>.inr pP⟩ (λp' snap hb a_ hl=>dm p' snap hb ?_ hl)
  ·show (((σ.lV r t0 m3 H3 v3).oG r _).head r _).get i=_;rw[C4];exact AZ r t0 m3 H3 v3 i hi
  ·show (((σ.lV r t0 m3 H3 v3).oG r _).head r _).get r=_;rw[C4];rfl
  ·show (σ.oG r g).mF i=σ.mF i;grind [s9]
  ·show Below _ ((σ.oG r g).mF r);grind [s9]
  ·show ((σ.oG r g).mF r).length=5;grind [s9]
  ·grind [UZ,St.oG,Ga]
  ·have a_:preB snap ((σ.oG r g).mF r)=true:=a_;grind [s9]
end
end OT
set_option linter.unusedVariables false
set_option linter.unusedSimpArgs false
namespace OT
open Go
section
variable {P:Program} {C:Ctx} {A:Cells} {X:FP} {σ:St} {a:Act} {w:World} {F:Nat->FP} {R:Type} {x:R}
theorem Rel.grow (h:Rel P C A X σ a w F) {w1:World} (hw:Ext w w1 (λ_ _=>0)) {A1:Cells} {X1:FP} (hA:∀ b i,A b i->A1 b i)
  (Ia:∀ b i,A1 b i->A b i\/(w.heap.size<=b/\b < w1.heap.size/\X1 b i=0)) (hX:∀ b i,X1 b i<=X b i\/(w.heap.size<=b/\b < w1.heap.size/\X1 b i<=1)):Rel P C A1 X1 σ a w1 F:=by
 have vu:∀ b i,A b i->∀ u,ce w b i=some u->ce w1 b i=some u:=λb i ha u hu=>hw.cell b i (h.mr b i (.inr ha)) rfl u hu
 have YF:∀ b i,w.heap.size<=b->bh σ.n F b i=0:=λb i hb=>by
  rcases bK (bh σ.n F b i) with h0 | h0
  ·exact h0
  ·have:=h.mr b i (.inl Bys);omega
 have H_:∀ j,j < σ.n->∀ b i,1<=F j b i->(∀ u,ce w b i=some u->ce w1 b i=some u)/\w1.frozen? ⟨b,i,none⟩=w.frozen? ⟨b,i,none⟩:=λj hj b i hp=>by
  have hb:=h.mr b i (.inl (by grind [dw]));exact ⟨λu hu=>hw.cell b i hb rfl u hu,hw.BU b i hb⟩
 have pH:Az σ a w σ a w1:=λr p snap hb=>⟨hb,λa_=>⟨a_,λhl pl i9=>⟨pl.H,pl.cs,by
  have bc:=vU i9
  exact yt (h.jz r bc) rfl rfl vu (λb i hp=>(H_ r bc b i hp).1) i9,λ_=>rfl⟩⟩⟩
 refine ⟨h.size,h.defers,λi hi=>dn.oL pH hA vu hw.y0 (H_ i hi) (h.jz i hi),λd r p snap hm=>tL.oL pH (h.gh d r p snap hm),λb i=>?_,λb i hp ha=>?_,λb i hp=>?_,
  h.nF,h.ext.trans hw (λ_ _ _ _=>rfl),λb i hp=>?_,λb i ha=>hA b i (h.a0 b i ha),λb i ha=>?_,h.qA,λr t m H v hg hl=>?_,λj k hm R' rz=>?_,h.zy⟩
 ·have h1:=h.ry b i;grind
 ·rcases Ia b i ha with ha | ⟨h1,h2,h3⟩
  ·have bc:=h.mr b i (.inr ha)
   rcases hX b i with h2 | ⟨h2,_⟩
   ·exact h.sr b i Bys ha
   ·omega
  grind
 ·rcases hp with hp | ha
  ·rcases hX b i with h2 | ⟨h2,h3,_⟩
   ·exact dA (h.mr b i (.inl Bys)) hw.size
   ·exact h3
  ·rcases Ia b i ha with ha | ⟨h1,h2,h3⟩
   ·exact dA (h.mr b i (.inr ha)) hw.size
   ·exact h2
 ·rcases hX b i with h2 | ⟨h2,_⟩
  ·exact h.own b i Bys
  ·exact .inr (bB h.ext.size h2)
 ·rcases Ia b i ha with ha | ⟨h1,_⟩
  ·exact h.a1 b i ha
  ·exact .inr (.inr (bB h.ext.size h1))
 ·obtain ⟨b,h1,h2⟩:=h.whole r t m H v hg hl;exact ⟨b,h1,hw.y0 _ _ h2⟩
 ·rcases cR j σ.n with hj | hj
  ·have oH:=h.jz j hj
   cases Ce:ej w (tmp a j) (σ.get j) with
   | none=>exfalso;cases hg:σ.get j <;> rw[hg] at Ce rz <;> simp only[ej] at Ce rz <;> first | grind | grind | grind
   | some R0=>
    rw[zB oH (λb i hp=>(H_ j hj b i hp).1) Ce] at rz;injection rz with rz;subst rz;exact h.pp j k hm _ Ce
  ·rw[nQ (fT.2 hj)] at rz;cases rz
def d_ (P:Program):Operand->Bool
 | .func f=>(P.funcs[f]?).any (·.nfree == 0)
 | _=>true
theorem gk (h:Rel P C A X σ a w F) {o:Operand} (ho:d_ P o=true):dn P A σ a w (a.eval o) (eg σ o) (λ_ _=>0)\/∃ xs,eg σ o=.ug xs:=by
 cases o with
 | tmp i=>
  show dn P A σ a w (tmp a i) _ _\/_;rcases cR i σ.n with hi | hi
  ·have hs:=h.jz i hi;simp only[eg]
   cases hg:σ.get i with
   | own t m H v=>
    rw[hg] at hs;obtain ⟨cs,h1,h2⟩:=hs;left
    have i9:place σ a w i []=some ⟨t,H,cs,none⟩:=by
     grind [place,ej,mq,am.length,am.one,cd]
    have h5:=h.nF i;refine ⟨?_,λ_=>⟨_,i9,h1,?_⟩⟩
    ·unfold xL;split
     ·intro j y hj;grind
     ·intro j y hj;grind
     ·exact Below.refl _
    ·unfold xL;grind [zw]
   | box t m H v=>
    rw[hg] at hs;obtain ⟨b,o,L,F1,h1,h2,h3,h4,h5,h6⟩:=hs;left;have h5':=h.nF i;refine ⟨?_,λ_=>⟨⟨t,H,L,some (b,o)⟩,b,o,?_,rfl,h1,by grind [yZ]⟩⟩
    ·unfold yZ;intro j y hj;grind
    grind [place,ej,f_,cd]
   | ug xs=>grind
   | dead=>exact .inl trivial
   | zn=>rw[hg] at hs;exact .inl hs
   | val t v=>rw[hg] at hs;exact .inl hs
   | cp t v=>rw[hg] at hs;exact .inl hs
   | ref r p snap=>rw[hg] at hs;exact .inl hs
   | ptr r p snap=>rw[hg] at hs;exact .inl hs
   | sub r p snap lo hi=>rw[hg] at hs;exact .inl hs
  ·simp only[eg,nQ (fT.2 hi)];exact .inl trivial
 | const v=>
  left;show dn P A σ a w v (vO v) _;unfold vO;split
  ·split
   ·rename_i hn;exact ⟨[_],rfl,by grind [Ro,qR]⟩
   ·trivial
  ·exact ⟨[_],rfl,rfl⟩
  ·exact ⟨[_],rfl,rfl⟩
  ·exact ⟨[_],rfl,rfl⟩
  ·exact ⟨[_],rfl,rfl⟩
  ·exact ⟨[_],rfl,rfl⟩
  ·exact ⟨[_],rfl,by simp[Ro]⟩
  ·rfl
  ·trivial
 | func f=>
  left;simp only[d_,Option.any_eq_true,jG] at ho;obtain ⟨fn,h1,h2⟩:=ho;exact ⟨[_],rfl,#[],rfl,fn,h1,.inl ⟨h2,rfl⟩⟩
 | global g=>exact .inl trivial
def AO (A:Cells) (σ:St) (F:Nat->FP):Cells:=λb i=>A b i\/1<=bh σ.n F b i
theorem ep (t:Ty) (y:Value) (h:isAgg t=false):dj t [y]=y:=by simp[dj,h]
theorem Ro.piece {e:Ty} {v:List e.den} {xa:Option Addr} {n cap lo hi cap':Nat} {yu:Option Addr} (h:Ro P w A (.aa e) v [.slice xa n cap]) (h1:lo<=hi) (h2:hi<=n) (h3:cap'+lo=cap) (h4:xa=none->yu=none)
  (h5:∀ ad,xa=some ad->∃ dp,yu=some dp/\dp.spot=ad.spot/\dp.block=ad.block/\(lo < hi->dp.off=ad.off+lo*e.sz)) :
  Ro P w A (.aa e) ((v.take hi).drop lo) [.slice yu (hi - lo) cap']:=by
 obtain ⟨a0,agD,g1,g2,g3,g4⟩:=h;simp only[dP,Value.slice.injEq,eU] at g1;obtain ⟨rfl,rfl,rfl⟩:=g1;have hlen:List.length ((v.take hi).drop lo)=hi - lo:=by simp;omega
 refine ⟨yu,cap',by rw[hlen],by grind,λhn=>?_,λdp Wj=>?_⟩
 ·rw[hlen];cases YG:xa <;> grind
 ·cases YG:xa <;> grind
def AR (A:Cells) (F:Nat->FP) (rs:List Nat):Cells:=λb i=>A b i\/∃ r ∈ rs,1<=F r b i
theorem OV (h:Rel P C A X σ a w F) {s:Slot} {tv:Value} {G:FP} (hs:dn P A σ a w tv s G) {t:Ty} {K:t.den->Option R} (hk:vj σ s t K=some x) :
  ∃ (v:t.den) (cs:List Value),K v=some x/\tv=dj t cs/\Ro P w (AR A F (oT s)) t v cs:=by
 have YH:∀ b i,A b i->AR A F (oT s) b i:=λb i ha=>.inl ha;have Cj:∀ b i,A b i->∀ u,ce w b i=some u->ce w b i=some u:=λ_ _ _ _ h=>h
 cases s with
 | val t' v=>
  obtain ⟨e,hk⟩:=dh hk;subst e;obtain ⟨cs,h1,h2⟩:=hs;grind [Ro.mono]
 | cp t' v=>
  obtain ⟨e,hk⟩:=dh hk;subst e;exact ⟨v,[tv],hk,(ep _ _ rfl).symm,Ro.mono Cj YH _ hs⟩
 | zn=>
  simp only[vj] at hk;split at hk
  ·rename_i t e;have hs:tv=.slice none 0 0:=hs;subst hs;exact ⟨[],_,hk,(ep _ _ rfl).symm,none,0,rfl,aG _,λ_=>rfl,λad lI=>by cases lI⟩
  ·cases hk
 | ref r p snap=>
  simp only[vj] at hk;split at hk
  ·rename_i a_;obtain ⟨hr,t',m',H',v',cn,dp,F',h1,h2,h3,h4,h5,h6⟩:=m_ h hk;obtain ⟨pl,g1,g2,g3⟩:=hs.2 a_;rw[h3] at g1;injection g1 with g1;subst g1;split at h1
   ·rename_i hH;have hH:=bH.1 hH;subst hH;obtain ⟨e,h1⟩:=dh h1;subst e;exact ⟨v',cn,h1,g2,am.zu YH _ h4 (λb i hp=>.inr ⟨r,bC.2 rfl,by grind⟩)⟩
   ·cases h1
  ·cases hk
 | sub r p snap lo hi=>
  simp only[vj] at hk;split at hk
  ·rename_i a_;obtain ⟨hr,t',m',H',v',cn,dp,F',h1,h2,h3,h4,h5,h6⟩:=m_ h hk;obtain ⟨pl,e,xa,n,cap,yu,cap',g1,g2,g3,g4,g5,g6,g7,U0,g8,g9,g10⟩:=hs.2 a_;rw[h3] at g1;injection g1 with g1;subst g1;simp only at g2 g3;subst g2;subst g3;split at h1
   ·rename_i hH;have hH:=bH.1 hH;subst hH;obtain ⟨e',h1⟩:=dh h1;subst e';exact ⟨_,_,h1,by rw[ep _ _ rfl];exact g6,Ro.piece (am.zu YH _ h4 (λb i hp=>.inr ⟨r,bC.2 rfl,by grind⟩)) g4 g5 g7 g8 g9⟩
   ·cases h1
  ·cases hk
 | ptr r p snap=>
  simp only[vj] at hk;split at hk
  ·rename_i a_;obtain ⟨hr,t',m',H',v',cn,dp,F',h1,h2,h3,h4,h5,h6⟩:=m_ h hk;obtain ⟨pl,b,o,g1,g2,g3,g4⟩:=hs.2 a_;rw[h3] at g1;injection g1 with g1;subst g1;split at h1
   ·rename_i hH;have hH:=bH.1 hH;subst hH;obtain ⟨e',h1⟩:=dh h1;subst e';simp only at g2;subst g2
    refine ⟨v',[tv],h1,(ep _ _ rfl).symm,⟨b,o,none⟩,by rw[g3],rfl,cn,am.length _ h4,λj u hu=>⟨h6 b o rfl j u hu,?_⟩,
     am.zu YH _ h4 (λb i hp=>.inr ⟨r,bC.2 rfl,by grind⟩)⟩
    have hj:j < t'.sz:=am.length _ h4 ▸ (aO.1 hu).1;unfold place at h3
    cases hR:ej w (tmp a r) (σ.get r) with
    | none=>grind
    | some R0=>
     rw[hR] at h3;obtain ⟨m0,v0,F1,q1,q2,q3,_⟩:=zA (h.jz r hr) hR
     exact Yw YH p R0.t q1 (λb i hp=>.inr ⟨r,bC.2 rfl,by grind⟩) (λb' o' e' j hj=>.inr ⟨r,bC.2 rfl,by
      grind [d8]⟩) h3 b o rfl j hj
   ·cases h1
  ·cases hk
 | _=>simp[vj] at hk
theorem Ib (h:Rel P C A X σ a w F) {s:Slot} {t:Ty} {K:t.den->Option R} (hk:vj σ s t K=some x):∀ r ∈ oT s,r < σ.n:=by
 intro r hr;cases s <;> simp only[oT,bC,dR] at hr
 all_goals
  subst hr;simp only[vj] at hk;split at hk
  ·exact (m_ h hk).1
  ·cases hk
theorem U1 (h:Rel P C A X σ a w F) {s:Slot} {tv:Value} {G:FP} (hs:dn P A σ a w tv s G) {t:Ty} {K:t.den->Option R} (hk:vj σ s t K=some x) :
  ∃ (v:t.den) (cs:List Value),K v=some x/\tv=dj t cs/\Ro P w (AO A σ F) t v cs:=by
 obtain ⟨v,cs,h1,h2,h3⟩:=OV h hs hk;refine ⟨v,cs,h1,h2,Ro.mono (λ_ _ _ _ h=>h) (λb i ha=>?_) t h3⟩
 rcases ha with ha | ⟨r,hr,hp⟩
 ·exact .inl ha
 ·have:=dw F (Ib h hk r hr) b i;exact .inr Bys
end
end OT
set_option linter.unusedVariables false
set_option linter.unusedSimpArgs false
namespace OT
open Go
section
variable {P:Program} {C:Ctx} {A:Cells} {X:FP} {σ:St} {a:Act} {w:World} {F:Nat->FP} {R:Type} {x:R}
theorem Mg {l:List (Nat×Nat×Bool)} {r:Nat} (h:FN l r=false) (k:Nat):(r,k,false) ∉ l:=by
 induction l with
 | nil=>grind
 | cons y l ih=>
  obtain ⟨k',n,b⟩:=y;simp_all [FN]
theorem tM (a:Act) (i:Nat):a.put (some i) (tmp a i)=a:=by
 have:a.tmps.setIfInBounds i (tmp a i)=a.tmps:=by
  apply Array.ext
  all_goals simp_all [gX,tmp]
 simp[Act.put,this]
theorem wH (h:Rel P C A X σ a w F) {s:Slot} {tv:Value} {G:FP} (hs:dn P A σ a w tv s G) {mv:Bool} {t:Ty} {K:Md->t.den->St->Option R} (hk:nZ σ s mv t K=some x) :
  ∃ (A':Cells) (σ':St) (F':Nat->FP) (m:Md) (v:t.den) (cs:List Value) (Fv:FP),K m v σ'=some x/\(∀ b i,A b i->A' b i)/\Rel P C A' (λb i=>X b i+Fv b i) σ' a w F'/\σ'.n=σ.n/\s_ σ σ' /\
   tv=dj t cs/\am P w A' t m [] v cs Fv:=by
 have hz:Rel P C A (λb i=>X b i+0) σ a w F:=h
 cases s with
 | val t' v=>
  simp only[nZ] at hk;obtain ⟨e,hk⟩:=dh hk;subst e;obtain ⟨cs,h1,h2⟩:=hs;exact ⟨A,σ,F,_,v,cs,λ_ _=>0,hk,λ_ _ h=>h,hz,rfl,s_.refl σ,h1,Ro.rep _ _ (jh _) h2⟩
 | cp t' v=>
  simp only[nZ] at hk;obtain ⟨e,hk⟩:=dh hk;subst e;exact ⟨A,σ,F,_,v,[tv],λ_ _=>0,hk,λ_ _ h=>h,hz,rfl,s_.refl σ,(ep _ _ rfl).symm,Ro.rep _ _ (jh _) hs⟩
 | zn=>
  simp only[nZ] at hk;split at hk
  ·rename_i t e;have hs:tv=.slice none 0 0:=hs;subst hs;refine ⟨A,σ,F,_,_,[.slice none 0 0],λ_ _=>0,hk,λ_ _ h=>h,hz,rfl,s_.refl σ,(ep _ _ rfl).symm,?_⟩
   grind [am,hole,wU,Md.own]
  ·cases hk
 | ref r p snap=>
  simp only[nZ] at hk;split at hk
  ·rename_i a_;obtain ⟨hr,t',m',H',v',cn,dp,F',h1,h2,h3,h4,h5,h6⟩:=m_ h hk;obtain ⟨pl,g1,g2,g3⟩:=hs.2 a_;rw[h3] at g1;injection g1 with g1;subst g1;split at h1
   ·rename_i hH;have hH:=bH.1 hH;subst hH;obtain ⟨e,h1⟩:=dh h1;subst e;split at h1
    ·rename_i hm;subst hm;exact ⟨A,σ,F,_,v',cn,λ_ _=>0,h1,λ_ _ h=>h,hz,rfl,s_.refl σ,g2,Ro.rep _ _ (jh _) (am.ro _ (jh _) h4)⟩
    ·split at h1
     ·obtain ⟨A',σ',F2,cs,ad,Fv,k1,k2,k3,k4,kr,k5,k6⟩:=NV h h1 ⟨h2⟩;rw[h3] at k5;injection k5 with k5;simp only[Pl.mk.injEq,eQ] at k5;obtain ⟨rfl,rfl⟩:=k5;exact ⟨A',σ',F2,_,v',cn,Fv,k1,k2,k3,k4,kr,g2,am.mono k2 (λ_ _ _ _ h=>h) (λ_ _ h=>h) _ k6 (λ_ _=>aG _) (λ_ _ _ _ h=>h)⟩
     ·obtain ⟨A',σ',F2,t2,m2,v2,cs,ad,k1,k2,k3,k4,kr,k5,k6,k7⟩:=Bp h h1;obtain ⟨e1,e2,e3,e4⟩:=At.inj ⟨h2⟩ k5;subst e1;have e4:=gI e4;subst e4;rw[h3] at k6;injection k6 with k6;simp only[Pl.mk.injEq,eQ] at k6;obtain ⟨rfl,rfl⟩:=k6;exact ⟨A',σ',F2,_,v',cn,λ_ _=>0,k1,k2,k3,k4,kr,g2,Ro.rep _ _ (jh _) k7⟩
   ·cases h1
  ·cases hk
 | sub r p snap lo hi=>
  simp only[nZ] at hk;split at hk
  ·rename_i a_;obtain ⟨hr,t',m',H',v',cn,dp,F',h1,h2,h3,h4,h5,h6⟩:=m_ h hk;obtain ⟨pl,e,xa,n,cap,yu,cap',g1,g2,g3,g4,g5,g6,g7,U0,g8,g9,g10⟩:=hs.2 a_;rw[h3] at g1;injection g1 with g1;subst g1;simp only at g2 g3;subst g2;subst g3;split at h1
   ·rename_i hH;have hH:=bH.1 hH;subst hH;obtain ⟨e',h1⟩:=dh h1;subst e';simp only at h1;have C6:tv=dj (.aa e) [.slice yu (hi - lo) cap']:=by rw[ep _ _ rfl];exact g6
    split at h1
    ·rename_i hm;subst hm;exact ⟨A,σ,F,_,_,_,λ_ _=>0,h1,λ_ _ h=>h,hz,rfl,s_.refl σ,C6,Ro.rep _ _ (jh _) (Ro.piece (am.ro _ (jh _) h4) g4 g5 g7 g8 g9)⟩
    ·split at h1
     ·split at h1
      ·rename_i za;subst za;obtain ⟨A',σ',F2,cs,ad,Fv,k1,k2,k3,k4,kr,k5,k6⟩:=NV h h1 ⟨h2⟩;rw[h3] at k5;injection k5 with k5;simp only[Pl.mk.injEq,eQ] at k5;obtain ⟨rfl,rfl⟩:=k5;have k6:=am.mono k2 (λ_ _ _ _ h=>h) (λ_ _ h=>h) _ k6 (λ_ _=>aG _) (λ_ _ _ _ h=>h);refine ⟨A',σ',F2,_,_,_,Fv,k1,k2,k3,k4,kr,C6,?_⟩
       have YG:=U0 rfl;subst YG;simp only[eM] at g7;subst g7;simp only[am,hole,bU,aF,aU] at k6 ⊢;split at k6
       ·rename_i jS;rw[aH jS];obtain ⟨a0,agD,q1,q2,q3,q4,q5⟩:=k6;simp only[dP,Value.slice.injEq,eU] at q1;obtain ⟨rfl,rfl,rfl⟩:=q1;have hlen:List.length ((v'.take hi).drop 0)=hi:=by simp;omega
        refine ⟨yu,cap',by rw[hlen];rfl,by grind,q3,q4,λad lI=>?_⟩
        obtain ⟨r1,r2,r3,Fi,r4,r5⟩:=q5 ad lI;refine ⟨r1,r2,r3,Fi,λb i=>?_,λi y hy=>?_⟩
        ·rw[hlen];have:=r4 b i;have:=OM (List.length v') Fi 0 hi Bys b i
         grind
        simp_all [cG]
       ·rename_i jS;rw[aN jS];exact ⟨trivial,k6.2.1,Ro.piece (cap':=cap') k6.2.2 g4 g5 rfl g8 g9⟩
      ·cases h1
     ·obtain ⟨A',σ',F2,t2,m2,v2,cs,ad,k1,k2,k3,k4,kr,k5,k6,k7⟩:=Bp h h1;obtain ⟨e1,e2,e3,e4⟩:=At.inj ⟨h2⟩ k5;subst e1;have e4:=gI e4;subst e4;rw[h3] at k6;injection k6 with k6;simp only[Pl.mk.injEq,eQ] at k6;obtain ⟨rfl,rfl⟩:=k6;exact ⟨A',σ',F2,_,_,_,λ_ _=>0,k1,k2,k3,k4,kr,C6,Ro.rep _ _ (jh _) (Ro.piece k7 g4 g5 g7 g8 g9)⟩
   ·cases h1
  ·cases hk
 | ptr r p snap=>
  cases p with
  | cons s p=>simp[nZ] at hk
  | nil=>
   simp only[nZ] at hk;split at hk
   ·rename_i a_;split at hk
    ·rename_i t' m' H' v' hg;split at hk
     ·rename_i hc;simp only[aC,bH,cB] at hc;obtain ⟨rfl,hl⟩:=hc;obtain ⟨e,hk⟩:=dh hk;subst e
      have hr:r < σ.n:=by
       grind [nQ]
      obtain ⟨pl,b,o,g1,g2,g3,g4⟩:=hs.2 a_;have oH:=h.jz r hr;rw[hg] at oH;obtain ⟨b0,o0,L,F1,q1,q2,q3,q4,q5,q6⟩:=oH;unfold place at g1;rw[hg,q1] at g1;simp only[ej,aA,cd,aQ] at g1;subst g1;simp only[aQ,bN] at g2;obtain ⟨rfl,rfl⟩:=g2;obtain ⟨b1,w1,w2⟩:=h.whole r t' m' [] v' hg (Mg hl);rw[q1] at w1;simp only[Value.pointer.injEq,aQ,Addr.mk.injEq,eU] at w1;obtain ⟨rfl,rfl⟩:=w1;have C7:=h.put hr (s:=.dead) (v:=tmp a r) (Fd:=λ_ _=>0) (X':=λb i=>X b i+F r b i) trivial (λb i=>by omega) (λt m H v e=>by cases e);rw[tM] at C7
      refine ⟨A,_,_,_,v',[tv],F r,hk,λ_ _ h=>h,C7,rfl,(λw tv i R hR=>⟨R.H,by
       rw[AA] at hR;split at hR
       ·cases hR
       ·exact hR⟩),(ep _ _ rfl).symm,?_⟩
      grind [am,hole,Md.own,Md.e]
     ·cases hk
    ·cases hk
   ·cases hk
 | _=>simp[nZ] at hk
theorem JJ {t:Ty} {m:Md} {v:t.den} {cs:List Value} {Fv:FP} (h:am P w A t m [] v cs Fv) :
  dn P A σ a w (dj t cs) (laid t m v) Fv/\∀ t' m' H' v',laid t m v=.box t' m' H' v'->∃ b,dj t cs=.pointer (some ⟨b,0,none⟩)/\jR w b (t'.sz,false):=by
 unfold laid;split
 ·rename_i hm;subst hm;exact ⟨⟨cs,rfl,am.ro _ (jh _) h⟩,λt' m' H' v' e=>by cases e⟩
 ·split
  ·rename_i e m' v' _;simp only[am,hole,bU,aF,aU,Md.own,aL,Md.e] at h;obtain ⟨b,rfl,h2,L,F1,h3,h4,h5,h6⟩:=h;rw[ep _ _ rfl];refine ⟨⟨b,0,L,F1,rfl,h3,h4,λj hj=>by rw[bS];exact h2.frozen hj,h5,h6⟩,λt' m' H' v' e=>?_⟩
   grind
  ·exact ⟨⟨cs,rfl,h⟩,λt' m' H' v' e=>by cases e⟩
theorem Rel.ac7 (h:Rel P C A X σ a w F) {d:Nat} (hd:σ.n<=d) (s:Slot) (v:Value) {X':FP} (ht:∀ b i,X' b i<=X b i):Rel P C A X' (σ.put d s) (a.put (some d) v) w F:=by
 have oO:=h.size;have ha:a.put (some d) v=a:=by simp[Act.put,Array.setIfInBounds,oO,fT.2 hd]
 rw[ha]
 have yM:∀ i,(σ.put d s).get i=σ.get i:=λi=>by
  grind [AA]
 have pH:Az σ a w (σ.put d s) a w:=by
  intro r p snap hb;rw[CH,St.ok,CH];by_cases hr:d=r
  ·subst hr;simp only[aL];refine ⟨hb.trans (vx _),λa_=>?_⟩
   have h0:=J9 (h.nF d) hb a_;exact ⟨(JG hb (vx _) a_).1,λhl=>by omega⟩
  ·simp only[aN hr];refine ⟨hb,λa_=>⟨a_,λhl pl i9=>⟨pl.H,pl.cs,?_,λ_=>rfl⟩⟩⟩
   simp_all [place]
 refine ⟨h.size,h.defers,λi hi=>?_,?_,λb i=>by have:=h.ry b i;have:=ht b i;show X' b i+bh σ.n F b i<=1;omega,λb i hp=>h.sr b i (by have:=ht b i;have hp:1<=X' b i+bh σ.n F b i:=hp;omega),
  λb i hp=>h.mr b i (hp.imp (λhp=>by have:=ht b i;have hp:1<=X' b i+bh σ.n F b i:=hp;omega) id),λi=>?_,h.ext,λb i hp=>h.own b i (by have:=ht b i;have hp:1<=X' b i+bh σ.n F b i:=hp;omega),h.a0,h.a1,?_,?_,?_,h.zy⟩
 ·rw[yM];exact dn.oL pH (λ_ _ h=>h) (λ_ _ _ _ h=>h) (λ_ _ h=>h) (λ_ _ _=>⟨λ_ h=>h,rfl⟩) (h.jz i hi)
 ·intro d' r p snap hm;exact tL.oL pH (h.gh d' r p snap (Q8 hm).1)
 ·rw[CH];split
  ·rw[H7];exact h.nF d
  ·exact h.nF i
 ·intro j k hm;exact h.qA j k (Cm hm).1
 ·intro r t m H v' hg hl;rw[yM] at hg;refine h.whole r t m H v' hg λk hm=>hl k (Ma hm λe=>?_);grind [nQ]
 ·intro j k hm R hR;rw[yM] at hR;exact h.pp j k (Cm hm).1 R hR
theorem Rel.cq (h:Rel P C A X σ a w F) (d:Option Tmp) {s:Slot} {v:Value} {Fd X':FP} (hs:dn P A σ a w v s Fd) (ht:∀ b i,X' b i+Fd b i<=X b i)
  (hwh:∀ t m H v',s=.box t m H v'->∃ b,v=.pointer (some ⟨b,0,none⟩)/\jR w b (t.sz,false)):∃ F',Rel P C A X' (σ.cq d s) (a.put d v) w F':=by
 cases d with
 | none=>exact ⟨F,h.less λb i=>by grind⟩
 | some d=>
  rcases cR d σ.n with hd | hd
  ·exact ⟨_,h.put hd hs (λb i=>by grind) hwh⟩
  ·exact ⟨_,h.ac7 hd s v λb i=>by grind⟩
def Ic (P:Program) (C:Ctx) (σ:St) (a:Act) (w:World):Prop:=∃ A F,Rel P C A (λ_ _=>0) σ a w F
end
end OT
set_option linter.unusedVariables false
set_option linter.unusedSimpArgs false
namespace OT
open Go
def zc:Ty->Option (List Value)
 | .int k=>some [.int k 0]
 | .bool=>some [.bool false]
 | .str=>some [.string ⟨#[]⟩]
 | .unit=>some []
 | .pair a b=>match zc a,zc b with
  | some x,some y=>some (x++y)
  | _,_=>none
 | .arr n e=>match zc e with
  | some x=>some (List.replicate n x).flatten
  | none=>none
 | .aa _=>some [.slice none 0 0]
 | _=>none
def veq:Value->Value->Bool
 | .int k n,.int k' n'=>decide (k=k')&&decide (n=n')
 | .bool a,.bool b=>a == b
 | .string s,.string t=>decide (s.data.toList=t.data.toList)
 | .slice none 0 0,.slice none 0 0=>true
 | _,_=>false
def NW:List Value->List Value->Bool
 | [],[]=>true
 | a::x,b::y=>veq a b&&NW x y
 | _,_=>false
theorem aer {a b:Value} (h:veq a b=true):a=b:=by
 unfold veq at h;split at h
 ·grind
 ·grind
 ·rename_i s t;simp only[bE] at h;congr 1;cases s;simp_all
 all_goals grind
theorem U2:∀ {x y:List Value},NW x y=true->x=y
 | [],[],_=>rfl
 | a::x,b::y,h=>by
  simp only[NW,aC] at h;rw[aer h.1,U2 h.2]
 | [],_::_,h=>by simp[NW] at h
 | _::_,[],h=>by simp[NW] at h
def ut (P:Program) (t:Ty) (i:TypeId):Bool:=
 match P.info? i with
 | some inf=>Nat.beq inf.size t.sz&&Nat.ble inf.bytes 512&&(match inf.zero with
  | some z=>Nat.beq z.cells.size t.sz&&(match zc t with
   | some L=>NW z.cells.toList L
   | none=>true)
  | none=>false)
 | none=>false
def uh (P:Program):Ty->Sum TypeId (List Field)->Bool
 | .int _,.inl _=>true
 | .bool,.inl _=>true
 | .str,.inl _=>true
 | .unit,.inl i=>!P.stoodInHeld i
 | .unit,.inr _=>true
 | .pair a b,.inl i=>!P.stoodInHeld i&&(match P.underlying i with
  | some (.struct fs)=>(match fs.toList with
   | f::r=>f.name != "_" && uh P a (.inl f.type)&&uh P b (.inr r)
   | []=>false)
  | _=>false)
 | .pair a b,.inr (f::r)=>f.name != "_" && uh P a (.inl f.type)&&uh P b (.inr r)
 | .arr _ e,.inl i=>(match P.underlying i with
  | some (.array _ el)=>uh P e (.inl el)
  | _=>false)
 | _,_=>false
def dep:Ty->Nat
 | .arr _ e=>dep e+1
 | .pair a b=>max (dep a+1) (dep b)
 | _=>1
def aes (P:Program) (k:Ty) (i:TypeId):Bool:=isAgg k&&k.qc&&k.flat&&uh P k (.inl i)&&Nat.ble (dep k) 9000
def zvB (P:Program) (v:Ty) (i:TypeId):Bool:=match P.info? i with
 | some inf=>(match inf.zero with
  | some (.agg _)=>isAgg v
  | some _=>!isAgg v
  | none=>false)
 | none=>false
def bn (P:Program):Ty->Sum TypeId (List Field×Nat)->Bool
 | .int k,.inl i=>ut P (.int k) i&&(match P.underlying i with | some (.int k')=>decide (k=k') | _=>false)
 | .bool,.inl i=>ut P .bool i&&(match P.underlying i with | some .bool=>true | _=>false)
 | .str,.inl i=>ut P .str i&&(match P.underlying i with | some .string=>true | _=>false)
 | .unit,.inl i=>ut P .unit i&&(match P.underlying i with | some (.struct fs)=>fs.toList.isEmpty | _=>false)
 | .unit,.inr (fs,_)=>fs.isEmpty
 | .pair a b,.inl i=>ut P (.pair a b) i&&(match P.underlying i with
  | some (.struct fs)=>(match fs.toList with
   | f::r=>Nat.beq f.offset 0&&Nat.ble 1 a.sz&&bn P a (.inl f.type)&&bn P b (.inr (r,a.sz))
   | []=>false)
  | _=>false)
 | .pair a b,.inr (f::r,off)=>Nat.beq f.offset off&&Nat.ble 1 a.sz&&bn P a (.inl f.type)&&bn P b (.inr (r,off+a.sz))
 | .arr n e,.inl i=>ut P (.arr n e) i&&e.flat&&(match P.underlying i with | some (.array n' el)=>Nat.beq n n'&&Nat.ble 1 e.sz&&bn P e (.inl el) | _=>false)
 | .aa e,.inl i=>ut P (.aa e) i&&(match P.underlying i with | some (.slice el)=>Nat.ble 1 e.sz&&bn P e (.inl el) | _=>false)
 | .ptr e,.inl i=>ut P (.ptr e) i&&(match P.underlying i with | some (.pointer el)=>bn P e (.inl el) | _=>false)
 | .fn,.inl i=>ut P .fn i&&(match P.underlying i with | some (.func ..)=>true | _=>false)
 | .map k v,.inl i=>ut P (.map k v) i&&(match P.underlying i with | some (.map ki vi)=>bn P k (.inl ki)&&bn P v (.inl vi)&&aes P k ki&&zvB P v vi | _=>false)
 | _,_=>false
section
variable {P:Program} {w:World} {A:Cells}
theorem A4 {t:Ty} {i:TypeId} (h:ut P t i=true):∃ inf z,P.info? i=some inf/\inf.size=t.sz/\inf.bytes<=512/\inf.zero=some z/\z.cells.size=t.sz/\∀ L,zc t=some L->z.cells.toList=L:=by
 grind [ut,Nat.beq_eq,Nat.ble_eq,U2]
theorem mI {t:Ty} {i:TypeId} (h:ut P t i=true):∃ inf,P.info? i=some inf/\inf.size=t.sz/\inf.bytes<=512/\∀ L,zc t=some L->∃ z,inf.zero=some z/\z.cells.toList=L:=by
 grind [A4]
theorem nI {t:Ty} {i:TypeId} (h:bn P t (.inl i)=true):ut P t i=true:=by
 cases t <;> simp only[bn,aC] at h <;> first | exact h.1 | exact h.1.1 | cases h
theorem Cn {t:Ty} {i:TypeId} (h:bn P t (.inl i)=true):∃ d,P.underlying i=some d/\(isAgg t=true->(∃ fs,d=.struct fs)\/∃ n e,d=.array n e)/\(isAgg t=false->(∀ fs,d≠.struct fs)/\∀ n e,d≠.array n e):=by
 cases hd:P.underlying i with
 | none=>cases t <;> simp[bn,hd] at h
 | some d=>
  refine ⟨d,rfl,?_,?_⟩
  ·intro ha;cases t <;> simp only[isAgg] at ha <;> first | cases ha | skip
   all_goals grind [bn]
  ·intro ha;cases t <;> simp only[isAgg] at ha <;> first | cases ha | skip
   all_goals grind [bn]
theorem Id {t:Ty} {i:TypeId} (h:bn P t (.inl i)=true):(Go.isAgg i).run P w=.ok (isAgg t) w:=by
 obtain ⟨d,h1,h2,h3⟩:=Cn h;unfold Go.isAgg;simp only[Sem.run_bind,run_underlying h1,Result.andThen_ok]
 cases ht:isAgg t with
 | true=>
  rcases h2 ht with ⟨fs,rfl⟩ | ⟨n,e,rfl⟩ <;> rfl
 | false=>
  simp_all
theorem run_sizeOf {t:Ty} {i:TypeId} (h:bn P t (.inl i)=true):(Go.sizeOf i).run P w=.ok t.sz w:=by
 obtain ⟨inf,h1,h2,_⟩:=mI (nI h);simp[Go.sizeOf,typeInfo,h1,h2]
theorem Rc {t:Ty} (h:isAgg t=false):t.sz=1:=by cases t <;> simp_all [isAgg,Ty.sz]
theorem sO (b o n:Nat):(⟨b,o,none⟩:Addr).add n=⟨b,o+n,none⟩:=by grind [Addr.add]
theorem A5 {t:Ty} {i:TypeId} (h:bn P t (.inl i)=true) {b o:Nat} {L:List Value} (hL:Has w b o L) (hl:L.length=t.sz) (qS:∀ u ∈ L,u.oneCell'=true):(loadVar i ⟨b,o,none⟩).run P w=.ok (dj t L) w:=by
 unfold loadVar;simp only[Sem.run_bind,Id h,Result.andThen_ok]
 cases ht:isAgg t with
 | true=>
  have:=run_loadCells_list (P:=P) w ⟨b,o,none⟩ L (λj v hj=>by rw[sO];exact wO (hL j v hj) (qS v (bT hj)));rw[hl] at this;simp only[aL,Sem.run_bind,run_sizeOf h,Result.andThen_ok,this,Sem.run_pure,dj,ht]
 | false=>
  have hs:=Rc ht
  match L,hl with
  | [y],_=>
   have:=wO (hL 0 y rfl) (qS y (by simp));grind [run_load,dj]
  | [],hl=>grind
  | _::_::_,hl=>grind
theorem Co:∀ (t:Ty) {L:List Value} {i:Sum TypeId (List Field×Nat)},zc t=some L->bn P t i=true->am P w A t (ai t) [] t.zero L (λ_ _=>0)/\Ro P w A t t.zero L/\L.length=t.sz:=by
 intro t
 induction t with
 | int k=>intro L i h _;injection h with h;subst h;cases k <;> exact ⟨rfl,rfl,rfl⟩
 | bool=>intro L i h _;injection h with h;subst h;exact ⟨rfl,rfl,rfl⟩
 | str=>intro L i h _;injection h with h;subst h;exact ⟨rfl,rfl,rfl⟩
 | unit=>intro L i h _;injection h with h;subst h;exact ⟨rfl,rfl,rfl⟩
 | pair a b nY nH=>
  intro L i h hl;simp only[zc] at h;split at h
  ·rename_i x y hx hy;injection h with h;subst h
   have:∃ ia ib,bn P a ia=true/\bn P b ib=true:=by
    cases i with
    | inl i=>
     grind [bn]
    | inr fo=>
     obtain ⟨fs,off⟩:=fo;cases fs <;> grind [bn]
   obtain ⟨ia,ib,h1,h2⟩:=this;obtain ⟨ra,oa,la⟩:=nY hx h1;obtain ⟨rb,ob,lb⟩:=nH hy h2;have e1:(x++y).take a.sz=x:=iV la;have e2:(x++y).drop a.sz=y:=iW la;refine ⟨⟨rfl,λ_ _=>0,λ_ _=>0,λ_ _=>aG _,by rw[e1];exact ra,by rw[e2];exact rb⟩,⟨by rw[e1];exact oa,by rw[e2];exact ob⟩,by grind [Ty.sz]⟩
  ·cases h
 | arr n e ih=>
  intro L i h hl;simp only[zc] at h;split at h
  ·rename_i z hz;injection h with h;subst h
   have:e.flat=true/\∃ ie,bn P e ie=true:=by
    grind [bn]
   obtain ⟨hf,ie,he⟩:=this;obtain ⟨re,oe,le⟩:=ih hz he
   have hlen:∀ n,((List.replicate n z).flatten).length=n*e.sz:=λn=>by
    simp_all
   have yh:Ro P w A (.arr n e) (Ty.arr n e).zero ((List.replicate n z).flatten):=by
    refine ⟨hf,by simp[Ty.zero],hlen n,λi x hx=>?_⟩
    have hi:i < n:=by grind [Ty.zero]
    have hx:x=e.zero:=by
     grind [Ty.zero]
    subst hx
    have:(((List.replicate n z).flatten).drop (i*e.sz)).take e.sz=z:=by
     have e1:n=i+(1+(n - i - 1)):=by omega
     rw[e1,<- gD,<- gD,List.flatten_append,List.flatten_append];grind
    grind
   exact ⟨⟨rfl,yh⟩,yh,hlen n⟩
  ·cases h
 | aa e ih=>
  intro L i h _;injection h with h;subst h;refine ⟨?_,⟨none,0,rfl,aG _,λ_=>rfl,λad lI=>by cases lI⟩,rfl⟩
  simp only[am,hole,bU,aF,aU,ai,wU,Md.own,aL];exact ⟨none,0,rfl,aG _,by simp[maxLen],λ_=>rfl,λad lI=>by cases lI⟩
 | ptr e ih=>grind [zc]
 | fn=>grind [zc]
 | map k v=>grind [zc]
theorem BW {t:Ty} {i:TypeId} (h:bn P t (.inl i)=true) {L:List Value} (hz:zc t=some L):∃ z,(zeroValue i).run P w=.ok z w/\z.cells.toList=L:=by
 obtain ⟨inf,h1,h2,_,h3⟩:=mI (nI h);obtain ⟨z,h4,h5⟩:=h3 L hz;simp_all [zeroValue,typeInfo]
end
end OT
