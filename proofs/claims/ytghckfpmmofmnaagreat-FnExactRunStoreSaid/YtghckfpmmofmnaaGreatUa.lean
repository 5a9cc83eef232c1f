/- The proof's parts, merged: The pure interpreter of the model s code over owned trees  definitions alone, nothing is claimed here.. No conditions but those that each states. -/
import GoSem.Core.Code
import GoSem.Core.View
import Derived.Laws.IdiomCopy
import Derived.Laws.Cells
import Derived.Laws.AppendOwn
import Derived.Calls
import Derived.Lib.LaidTab
import Derived.Lib.ItoaNum
import Derived.Laws.Entries
import Derived.Laws.NewFold
import Derived.Laws.Sem
namespace OT
open Go
theorem Bys {p:Prop} (h:p:=by omega):p:=h
set_option linter.defProp false
def aA:=@Option.bind_some
def aB:=@List.getElem?_eq_getElem
def aC:=@Int.toNat_natCast
def aD:=@Bool.and_eq_true
def aE:=@Bool.false_eq_true
def aF:=@cond_false
def aG:=@if_pos
def aH:=@Nat.le_refl
def aI:=@decide_false
def aJ:=@List.getElem_mem
def aK:=@if_true
def aL:=@if_neg
def aM:=@List.getElem?_eq_some_iff
def aN:=@Int.natCast_nonneg
def aO:=@decide_true
def aP:=@Option.some.injEq
def aQ:=@Eq.trans
def aR:=@if_false
def aS:=@cond_true
def aU:=@Bool.not_true
def aV:=@Int.lt_irrefl
def aW:=@Nat.zero_le
def aX:=@List.mem_cons_of_mem
def aY:=@decide_eq_true
def aZ:=@List.length_cons
def bA:=@decide_eq_true_eq
def bB:=@List.mem_cons
def bC:=@Nat.mul_le_mul_right
def bD:=@decide_eq_false
def bE:=@List.mem_singleton
def bF:=@List.mem_cons_self
def bG:=@List.mem_append
def bH:=@List.isEmpty_iff
def bI:=@Nat.le_trans
def bJ:=@List.all_eq_true
def bK:=@List.length_append
def bL:=@List.getElem_of_mem
def bM:=@Nat.eq_zero_or_pos
def bN:=@List.pairwise_iff_getElem
def bO:=@Prod.mk.injEq
def bP:=@List.getElem?_drop
def bQ:=@List.length_set
def bR:=@List.length_nil
def bS:=@List.getElem?_take
def bT:=@List.append_assoc
def bU:=@List.length_drop
def bV:=@Option.map_some
def bW:=@List.mem_of_getElem?
def bX:=@List.any_nil
def bZ:=@Nat.zero_add
def cA:=@List.eq_nil_of_length_eq_zero
def cB:=@List.mem_append_right
def cC:=@List.mem_range
def cD:=@Bool.not_eq_true'
def cE:=@List.take_append_drop
def cG:=@List.mem_flatMap
def cH:=@Array.getElem?_eq_some_iff
def cI:=@Bool.not_false
def cJ:=@List.drop_eq_getElem_cons
def cK:=@List.nil_append
def cL:=@List.nodup_cons
def cM:=@and_self
def cN:=@List.mem_of_mem_drop
def cO:=@List.length_take
def cP:=@congrArg
def cQ:=@List.isEmpty_nil
def cR:=@Nat.lt_or_ge
def cS:=@List.filterMap_append
def cT:=@List.mem_of_find?_eq_some
def cU:=@Nat.add_assoc
def cV:=@List.append_nil
def cW:=@Nat.lt_of_lt_of_le
def cX:=@Nat.eq_of_beq_eq_true
def cY:=@List.length_replicate
def cZ:=@List.getElem?_append_left
def dA:=@List.cons_append
def dB:=@Bool.or_eq_true
def dC:=@Nat.add_mul
def dD:=@List.drop_drop
def dE:=@List.mem_iff_getElem
def dF:=@List.nodup_append
def dG:=@Int.eq_ofNat_of_zero_le
def dH:=@List.getD_eq_getElem?_getD
def dI:=@List.mem_of_mem_take
def dJ:=@List.getElem?_cons_zero
def dK:=@List.count_pos_iff
def dL:=@List.mem_append_left
def dM:=@List.pairwise_cons
def dN:=@List.cons.injEq
def dP:=@Bool.false_or
def dQ:=@List.mem_map
def dR:=@Nat.ble_eq
def dT:=@List.ext_getElem?
def dU:=@List.flatMap_cons
def dV:=@Array.getElem?_toList
def dW:=@decide_eq_false_iff_not
def dX:=@List.map_cons
def dY:=@Nat.add_zero
def dZ:=@Array.getElem?_eq_none
def eA:=@List.length_range
def eB:=@Nat.le_of_lt
def eC:=@List.flatMap_append
def eD:=@List.foldl_cons
def eE:=@List.mem_or_eq_of_mem_set
def eF:=@List.filterMap_nil
def eG:=@List.any_eq_true
def eH:=@Option.isSome_iff_exists
def eI:=@List.all_cons
def eJ:=@Bool.true_and
def eK:=@List.drop_zero
def eL:=@true_and
def eM:=@List.getElem?_map
def eN:=@not_false_eq_true
def eO:=@List.getElem?_cons_succ
def eP:=@and_true
def eQ:=@List.findIdx?_eq_some_iff_findIdx_eq
def eR:=@Nat.succ_mul
def eS:=@List.take_length
def eU:=@Nat.beq_eq
def eV:=@List.getElem?_append_right
def eW:=@List.find?_eq_none
def eX:=@List.getElem?_eq_none
def eY:=@List.getElem?_append
def eZ:=@List.getElem?_set
def fA:=@List.drop_take
def fB:=@List.take_take
def fC:=@List.nodup_nil
def fD:=@Int.le_refl
def fE:=@List.drop_of_length_le
def fF:=@List.take_of_length_le
def fG:=@List.getElem_cons_drop
def fH:=@List.map_append
def fI:=@Nat.div_lt_iff_lt_mul
def fJ:=@List.mem_iff_getElem?
def fK:=@List.singleton_append
def fL:=@List.set_getElem_self
def fM:=@Bool.eq_false_iff
def fN:=@not_true_eq_false
def fO:=@of_decide_eq_true
def fP:=@List.range_eq_range'
def fQ:=@Array.getElem?_append_left
def fR:=@List.filter_cons
def fS:=@Bool.eq_iff_iff
def fT:=@UInt8.toNat_inj
def fU:=@Nat.not_lt
def fV:=@Nat.lt_or_gt_of_ne
def fW:=@Classical.axiomOfChoice
def fX:=@List.getElem?_replicate
def fY:=@List.pairwise_singleton
def fZ:=@List.drop_eq_nil_of_le
def gA:=@List.getElem_drop
def gB:=@List.pairwise_map
def gC:=@List.take_succ_eq_append_getElem
def gD:=@List.getElem_take
def gE:=@List.replicate_append_replicate
def gF:=@Array.getElem?_modify
def gG:=@List.getElem_set_self
def gH:=@eq_of_heq
def gI:=@Array.eq_empty_of_size_eq_zero
def gJ:=@Nat.le_add_right
def gK:=@List.perm_middle
def gL:=@List.any_cons
def gM:=@List.take_append_of_le_length
def gN:=@List.drop_append_of_le_length
def gO:=@List.pairwise_append
def gP:=@List.range_succ
def gQ:=@List.find?_some
def gR:=@List.getElem?_range
def gS:=@List.mem_map_of_mem
def gT:=@List.reverse_append
def gU:=@List.take_set_of_le
def gV:=@List.drop_set_of_lt
def gW:=@Bool.or_self
def gX:=@Array.getElem_setIfInBounds
def gY:=@Nat.le_of_eq
def gZ:=@List.set_set
def hJ:=@BitVec.toNat_ofInt
def hK:=@List.mem_filterMap
def hU:=@Bool.and_false
def iA:=@List.nodup_iff_pairwise_ne
def iB:=@Bool.false_and
def iC:=@Array.getElem?_eq_getElem
def iD:=@List.mem_take_iff_getElem
def iE:=@List.size_toArray
def iG:=@Iff.rfl
def iH:=@List.foldl_append
def iI:=@Bool.and_self
def iJ:=@List.range'_succ
def iK:=@List.flatMap_nil
def iL:=@Option.getD_some
def iM:=@Nat.beq_refl
def iP:=@Bool.true_or
def iQ:=@List.map_nil
def iR:=@List.take_left'
def iS:=@List.drop_left'
def iT:=@Option.map_none
def iU:=@Nat.min_le_left
def iV:=@List.find?_cons
def iW:=@List.length_zip
def iX:=@List.length_map
def iY:=@UInt8.toNat_lt
def iZ:=@Nat.mul_one
def jA:=@List.take_zero
def jB:=@List.Perm.refl
def jC:=@beq_iff_eq
def jD:=@not_or
inductive Ty where
 | int (k:IntKind)
 | bool
 | str
 | unit
 | pair (a b:Ty)
 | arr (n:Nat) (e:Ty)
 | aa (e:Ty)
 | ptr (e:Ty)
 | fn
 | map (k v:Ty)
 deriving DecidableEq
@[reducible] def D3:IntKind->Type
 | .u8=>UInt8
 | _=>Int
@[reducible] def Ty.den:Ty->Type
 | .int k=>D3 k
 | .bool=>Bool
 | .str=>List UInt8
 | .unit=>Unit
 | .pair a b=>a.den×b.den
 | .arr _ e=>List e.den
 | .aa e=>List e.den
 | .ptr e=>e.den
 | .fn=>Nat×Int
 | .map k v=>List (k.den×v.den)
def Ty.sz:Ty->Nat
 | .unit=>0
 | .pair a b=>a.sz+b.sz
 | .arr n e=>n*e.sz
 | _=>1
def Ty.flat:Ty->Bool
 | .pair a b=>a.flat&&b.flat
 | .arr _ e=>e.flat
 | .aa _ | .ptr _ | .map _ _=>false
 | _=>true
def qM:(k:IntKind)->D3 k->Int
 | .u8,n=>(n.toNat:Int)
 | .i8,n=>n
 | .i16,n=>n
 | .i32,n=>n
 | .i64,n=>n
 | .u16,n=>n
 | .u32,n=>n
 | .u64,n=>n
def F_:(k:IntKind)->Int->D3 k
 | .u8,n=>UInt8.ofInt n
 | .i8,n=>IntKind.wrap .i8 n
 | .i16,n=>IntKind.wrap .i16 n
 | .i32,n=>IntKind.wrap .i32 n
 | .i64,n=>IntKind.wrap .i64 n
 | .u16,n=>IntKind.wrap .u16 n
 | .u32,n=>IntKind.wrap .u32 n
 | .u64,n=>IntKind.wrap .u64 n
def inI:(k:IntKind)->Int->D3 k
 | .u8,n=>UInt8.ofInt n
 | .i8,n=>n
 | .i16,n=>n
 | .i32,n=>n
 | .i64,n=>n
 | .u16,n=>n
 | .u32,n=>n
 | .u64,n=>n
def Ty.zero:(t:Ty)->t.den
 | .int k=>inI k 0
 | .bool=>false
 | .str=>[]
 | .unit=>()
 | .pair a b=>(a.zero,b.zero)
 | .arr n e=>List.replicate n e.zero
 | .aa _=>[]
 | .ptr e=>e.zero
 | .fn=>(0,0)
 | .map _ _=>[]
def Ty.xj:Ty->Bool
 | .pair a b=>a.xj&&b.xj
 | .arr _ e=>e.xj
 | .ptr _ | .fn | .map _ _=>false
 | _=>true
def Ty.eq:(t:Ty)->t.den->t.den->Bool
 | .int .u8,a,b=>a == b
 | .int .i8,a,b=>decide (a=b)
 | .int .i16,a,b=>decide (a=b)
 | .int .i32,a,b=>decide (a=b)
 | .int .i64,a,b=>decide (a=b)
 | .int .u16,a,b=>decide (a=b)
 | .int .u32,a,b=>decide (a=b)
 | .int .u64,a,b=>decide (a=b)
 | .bool,a,b=>a == b
 | .str,a,b=>decide (a=b)
 | .pair x y,a,b=>x.eq a.1 b.1&&y.eq a.2 b.2
 | .arr _ e,a,b=>(a.zip b).all λp=>e.eq p.1 p.2
 | _,_,_=>true
def Ty.oZ:Ty->Bool
 | .int _ | .bool | .str | .unit=>true
 | .pair a b=>a.oZ&&b.oZ
 | .arr _ e=>e.oZ
 | _=>false
def Ty.sY:Ty->Bool
 | .pair a b=>a.sY&&b.sY
 | .arr _ e | .aa e | .ptr e=>e.sY
 | .map k v=>k.sY&&v.sY
 | .fn=>false
 | _=>true
inductive Md where
 | leaf
 | pair (a b:Md)
 | arr (e:Md)
 | aa (own:Bool) (e:Md)
 | ptr (own:Bool) (e:Md)
 deriving DecidableEq
def vT (own:Bool):Ty->Md
 | .pair a b=>.pair (vT own a) (vT own b)
 | .arr _ e=>.arr (vT own e)
 | .aa e=>.aa own (vT own e)
 | .ptr e=>.ptr own (vT own e)
 | .map _ _=>.aa own .leaf
 | _=>.leaf
abbrev ai:=vT false
abbrev ah:=vT true
def Md.l:Md->Md
 | .pair a _=>a
 | _=>.leaf
def Md.r:Md->Md
 | .pair _ b=>b
 | _=>.leaf
def Md.e:Md->Md
 | .arr e | .aa _ e | .ptr _ e=>e
 | _=>.leaf
def Md.own:Md->Bool
 | .aa o _ | .ptr o _=>o
 | _=>false
def Md.ld:Md->Bool
 | .leaf=>true
 | .pair a b=>a.ld&&b.ld
 | .arr e=>e.ld
 | .aa o e=>!o&&e.ld
 | .ptr o e=>!o&&e.ld
def fits:Md->Md->Bool
 | .leaf,.leaf=>true
 | .pair a b,.pair c d=>fits a c&&fits b d
 | .arr a,.arr b=>fits a b
 | .aa o a,.aa o' b=>(o||!o')&&(o'||b.ld)&&fits a b
 | .ptr o a,.ptr o' b=>(o||!o')&&(o'||b.ld)&&fits a b
 | _,_=>false
inductive Step where
 | fst
 | snd
 | idx (i:Nat)
 | rP (i:Nat)
abbrev Path:=List Step
def d_:Path->Nat
 | []=>0
 | .idx _::p=>d_ p+1
 | _::p=>d_ p
structure Kn where
 t:Ty
 m:Md
 v:t.den
inductive Slot where
 | dead
 | yo
 | val (t:Ty) (v:t.den)
 | cp (t:Ty) (v:t.den)
 | own (t:Ty) (m:Md) (H:List Path) (v:t.den)
 | box (t:Ty) (m:Md) (H:List Path) (v:t.den)
 | ref (r:Nat) (p:Path) (snap:List Nat)
 | sub (r:Nat) (p:Path) (snap:List Nat) (lo hi:Nat)
 | ptr (r:Nat) (p:Path) (snap:List Nat)
 | sR (xs:List Kn)
structure St where
 n:Nat
 sl:List (Nat×Slot)
 vr:List (Nat×List Nat)
 ay:List (Nat×Nat×Bool)
 gh:List (Nat×Nat×Path×List Nat):=[]
def oG {α:Type}:List (Nat×α)->Nat->Option α
 | [],_=>none
 | (k,x)::l,i=>if Nat.beq k i then some x else oG l i
def St.get (σ:St) (i:Nat):Slot:=if Nat.blt i σ.n then (match oG σ.sl i with | some s=>s | none=>.dead) else .dead
def St.lC (σ:St) (i:Nat):List Nat:=match oG σ.vr i with | some v=>v | none=>[0,0,0,0,0]
def tK:List Nat->List Nat:=λv=>v.map (·+1)
def vy (d:Nat):List Nat->List Nat
 | [b,x,y,z,w]=>match d with
  | 0=>[b,x+1,y,z,w+1]
  | 1=>[b,x,y+1,z,w+1]
  | 2=>[b,x,y,z+1,w+1]
  | _=>[b+1,x,y,z,w+1]
 | v=>tK v
def yp:List Nat->List Nat
 | [b,x,y,z,w]=>[b,x,y,z,w+1]
 | v=>tK v
def St.nv (σ:St) (i:Nat) (f:List Nat->List Nat):St:={ σ with vr:=(i,f (σ.lC i))::σ.vr }
def BJ:List (Nat×Nat×Bool)->Nat->List (Nat×Nat×Bool)
 | [],_=>[]
 | (k,b)::l,i=>if Nat.beq k i then BJ l i else (k,b)::BJ l i
def OV:List (Nat×Nat×Path×List Nat)->Nat->List (Nat×Nat×Path×List Nat)
 | [],_=>[]
 | (d,x)::l,i=>if Nat.beq d i then OV l i else (d,x)::OV l i
def BK:List (Nat×Nat×Bool)->Nat->List (Nat×Nat×Bool)
 | [],_=>[]
 | (k,n,b)::l,i=>if Nat.beq k i&&b then BK l i else (k,n,b)::BK l i
def D4:List (Nat×Nat×Bool)->Nat->Nat->Bool->Bool
 | [],_,_,_=>false
 | (k,n,b)::l,i,j,c=>(Nat.beq k i&&Nat.beq n j&&(b == c))||D4 l i j c
def Ew:List (Nat×Nat×Bool)->Nat->Bool
 | [],_=>false
 | (k,_,b)::l,i=>(Nat.beq k i&&!b)||Ew l i
def Ko:List (Nat×Nat×Bool)->Nat->Option Nat
 | [],_=>none
 | (k,n,b)::l,i=>if Nat.beq k i&&b then some n else Ko l i
def St.put (σ:St) (i:Nat) (s:Slot):St:={ n:=σ.n,sl:=(i,s)::σ.sl,vr:=(i,tK (σ.lC i))::σ.vr,ay:=BJ σ.ay i,gh:=OV σ.gh i }
def St.head (σ:St) (r d:Nat):St:=match d with
 | 0=>{ σ with ay:=BK σ.ay r }
 | _=>σ
def St.my (σ:St) (i:Nat) (s:Slot):St:={ σ with sl:=(i,s)::σ.sl }
def St.cb (σ:St) (d:Option Tmp) (s:Slot):St:=match d with
 | some i=>σ.put i s
 | none=>σ
def preB:List Nat->List Nat->Bool
 | [],_=>true
 | a::x,b::y=>Nat.beq a b&&preB x y
 | _::_,[]=>false
section
variable {R:Type}
def kh (t t':Ty) (v:t.den) (K:t'.den->Option R):Option R:=
 if h:t=t' then K (h ▸ v) else none
def xt:Path->Option Path
 | .fst::p=>some p
 | _=>none
def xu:Path->Option Path
 | .snd::p=>some p
 | _=>none
def zt (H:List Path) (i:Nat) (K:List Path->Option R):Option R:=
 match H with
 | []=>K []
 | [.idx j::q]=>if i=j then K [q] else none
 | _=>none
def o3:(p:Path)->(t:Ty)->Md->List Path->t.den->((t':Ty)->Md->List Path->t'.den->Option R)->Option R
 | [],t,m,H,v,K=>K t m H v
 | .fst::p,.pair a _,m,H,v,K=>if H.any (·.isEmpty) then none else o3 p a m.l (H.filterMap xt) v.1 K
 | .snd::p,.pair _ b,m,H,v,K=>if H.any (·.isEmpty) then none else o3 p b m.r (H.filterMap xu) v.2 K
 | .idx i::p,.aa e,m,H,v,K=>zt H i λH'=>(v[i]?).bind λx=>o3 p e m.e H' x K
 | .rP i::p,.arr _ e,m,H,v,K=>if H.isEmpty then (v[i]?).bind λx=>o3 p e m.e [] x K else none
 | _,_,_,_,_,_=>none
def st:(p:Path)->(t:Ty)->Md->List Path->t.den ->
    ((t':Ty)->Md->List Path->t'.den->(Md->List Path->t'.den->Option R)->Option R)->(Md->List Path->t.den->Option R)->Option R
 | [],t,m,H,v,f,K=>f t m H v K
 | .fst::p,.pair a _,m,H,v,f,K=>
  if H.any (·.isEmpty) then none else
  st p a m.l (H.filterMap xt) v.1 f λm' H' x=>K (.pair m' m.r) (H'.map (.fst::·)++(H.filterMap xu).map (.snd::·)) (x,v.2)
 | .snd::p,.pair _ b,m,H,v,f,K=>
  if H.any (·.isEmpty) then none else
  st p b m.r (H.filterMap xu) v.2 f λm' H' x=>K (.pair m.l m') ((H.filterMap xt).map (.fst::·)++H'.map (.snd::·)) (v.1,x)
 | .idx i::p,.aa e,m,H,v,f,K=>
  if m.own then
   zt H i λH0=>(v[i]?).bind λx=>
    st p e m.e H0 x f λm' H' y=>
     if m'=m.e then K (.aa true m.e) (H'.map (.idx i::·)) (v.set i y)
     else if H'.isEmpty then K (.aa true (ai e)) [] (v.set i y) else none
  else none
 | .rP i::p,.arr _ e,m,H,v,f,K=>
  if H.isEmpty then (v[i]?).bind λx=>
   st p e m.e [] x f λ_ H' y=>if H'.isEmpty then K m [] (v.set i y) else none
  else none
 | _,_,_,_,_,_,_=>none
def DF:Path->Ty->Option Ty
 | [],t=>some t
 | .fst::p,.pair a _=>DF p a
 | .snd::p,.pair _ b=>DF p b
 | .idx _::p,.aa e=>DF p e
 | .rP _::p,.arr _ e=>DF p e
 | _,_=>none
def yq (σ:St) (r:Nat) (K:(t:Ty)->Md->List Path->t.den->Option R):Option R:=
 match σ.get r with
 | .own t m H v | .box t m H v=>K t m H v
 | _=>none
def St.kU (σ:St) (r:Nat) (t:Ty) (m:Md) (H:List Path) (v:t.den):St:=
 match σ.get r with
 | .box ..=>σ.my r (.box t m H v)
 | _=>σ.my r (.own t m H v)
def St.ok (σ:St) (r:Nat) (snap:List Nat):Bool:=preB snap (σ.lC r)
def qA (σ:St) (r:Nat) (p:Path) (K:(t:Ty)->Md->List Path->t.den->Option R):Option R:=
 yq σ r λt m H v=>o3 p t m H v K
def xl (σ:St) (r:Nat) (p:Path) (t:Ty) (m:Md) (v:t.den) (K:St->Option R):Option R:=
 yq σ r λt0 m0 H0 v0=>
  st p t0 m0 H0 v0 (λt' _ _ _ k=>kh t t' v λx=>k m [] x) λm' H' v'=>
   K (((σ.kU r t0 m' H' v').nv r (if t.flat then yp else vy (d_ p))).head r (d_ p))
def vL:Ty->List Path
 | .pair a b=>(vL a).map (.fst::·)++(vL b).map (.snd::·)
 | .aa _ | .ptr _ | .map _ _=>[[]]
 | .arr _ e=>if e.flat then [] else [[]]
 | _=>[]
def Bg (σ:St) (r:Nat) (p:Path) (K:St->Option R):Option R:=
 yq σ r λt0 m0 H0 v0=>
  st p t0 m0 H0 v0 (λt' m' _ x k=>k m' (vL t') x) λm' H' v'=>
   K (((σ.kU r t0 m' H' v').nv r (vy (d_ p))).head r (d_ p))
def zu (σ:St) (r:Nat) (p:Path) (K:St->Option R):Option R:=
 yq σ r λt0 m0 H0 v0=>
  st p t0 m0 H0 v0 (λt' m H x k=>if H.isEmpty&&fits m (ai t') then k (ai t') [] x else none) λm' H' v'=>
   K (σ.kU r t0 m' H' v')
def xY (σ:St) (r:Nat) (p:Path) (m1:Md) (K:St->Option R):Option R:=
 yq σ r λt0 m0 H0 v0=>
  st p t0 m0 H0 v0 (λ_ m H x k=>if H.isEmpty&&fits m m1 then k m1 [] x else none) λm' H' v'=>
   K (σ.kU r t0 m' H' v')
def xZ (σ:St) (r:Nat) (p:Path):List Nat:=(σ.lC r).take (1+d_ p)
def wQ (σ:St) (r:Nat) (p:Path) (t:Ty):List Nat:=match t with
 | .aa _ | .map _ _=>(σ.lC r).take (2+d_ p)
 | _=>σ.lC r
def Al:Value->Slot
 | .int .u8 n=>if ((UInt8.ofInt n).toNat:Int)=n then .val (.int .u8) (UInt8.ofInt n) else .dead
 | .int .i64 n=>.val (.int .i64) n
 | .int .u64 n=>.val (.int .u64) n
 | .int .u32 n=>.val (.int .u32) n
 | .int .i32 n=>.val (.int .i32) n
 | .bool b=>.val .bool b
 | .string s=>.val .str s.data.toList
 | .slice none 0 0=>.yo
 | _=>.dead
def d7 (σ:St):Operand->Slot
 | .tmp i=>match σ.get i with
  | .own t _ _ _=>.ref i [] (wQ σ i [] t)
  | .box _ _ _ _=>.ptr i [] (xZ σ i [])
  | s=>s
 | .const v=>Al v
 | .func f=>.val .fn (f,0)
 | .global _=>.dead
def nJ (σ:St) (s:Slot) (mv:Bool) (t:Ty) (K:Md->t.den->St->Option R):Option R:=
 match s with
 | .val t' v=>kh t' t v λv=>K (ai t) v σ
 | .cp t' v=>kh (.ptr t') t v λv=>K (ai t) v σ
 | .yo=>match t with
  | .aa e=>K (ah (.aa e)) [] σ
  | _=>none
 | .ref r p snap=>
  if σ.ok r snap then
   qA σ r p λt' m H v=>
    if H.isEmpty then kh t' t v λv=>
     if m=ai t then K m v σ
     else if mv then Bg σ r p λσ=>K m v σ
     else zu σ r p λσ=>K (ai t) v σ
    else none
  else none
 | .sub r p snap lo hi=>
  if σ.ok r snap then
   qA σ r p λt' m H v=>
    if H.isEmpty then kh t' t v λv=>match t,v with
     | .aa e,v=>
      if m=ai (.aa e) then K m ((v.take hi).drop lo) σ
      else if mv then (if lo=0 then Bg σ r p λσ=>K m ((v.take hi).drop lo) σ else none)
      else zu σ r p λσ=>K (ai (.aa e)) ((v.take hi).drop lo) σ
     | _,_=>none
    else none
  else none
 | .ptr r [] snap=>
  if σ.ok r snap then
   match σ.get r with
   | .box t' m H v=>if H.isEmpty&&!Ew σ.ay r then kh (.ptr t') t v λv=>K (.ptr true m) v (σ.put r .dead) else none
   | _=>none
  else none
 | _=>none
def ua (σ:St) (s:Slot) (t:Ty) (K:t.den->Option R):Option R:=
 match s with
 | .val t' v=>kh t' t v K
 | .cp t' v=>kh (.ptr t') t v K
 | .yo=>match t with
  | .aa _=>K []
  | _=>none
 | .ref r p snap=>
  if σ.ok r snap then qA σ r p λt' _ H v=>if H.isEmpty then kh t' t v K else none
  else none
 | .sub r p snap lo hi=>
  if σ.ok r snap then
   qA σ r p λt' _ H v=>if H.isEmpty then kh t' t v λv=>match t,v with
    | .aa _,v=>K ((v.take hi).drop lo)
    | _,_=>none
   else none
  else none
 | .ptr r p snap=>
  if σ.ok r snap then qA σ r p λt' _ H v=>if H.isEmpty then kh (.ptr t') t v K else none
  else none
 | _=>none
def xN (s:Slot) (K:Int->Option R):Option R:=
 match s with
 | .val (.int k) n=>K (qM k n)
 | _=>none
def Kp (s:Slot) (K:Bool->Option R):Option R:=
 match s with
 | .val .bool b=>K b
 | _=>none
def laid (t:Ty) (m:Md) (v:t.den):Slot:=
 if m=ai t then .val t v else
 match t,m,v with
 | .ptr e,.ptr true m',v=>.box e m' [] v
 | t,m,v=>.own t m [] v
end
end OT
namespace OT
open Go
noncomputable section
inductive PM where
 | ro
 | jp (m m':Md)
 | lD (m:Md)
 | tc (m:Md)
 | pG (m:Md)
 | fix (f:Nat)
 deriving DecidableEq
def bu:List Ty->Ty
 | []=>.unit
 | t::ts=>.pair t (bu ts)
def lN:List (PM×Ty)->List Ty
 | []=>[]
 | (.jp _ _,t)::ps=>t::lN ps
 | (.lD _,t)::ps=>t::lN ps
 | _::ps=>lN ps
structure v6 where
 cap:Bool:=false
 ps:List (PM×Ty)
 rs:List (Ty×Md)
 F:(bu (ps.map (·.2))).den->Option (bu (rs.map (·.1)++lN ps)).den
 Ga:(bu (ps.map (·.2))).den->List Path->Bool:=λ_ H=>H.isEmpty
structure Env where
 TI:Nat->Option Ty
 G:Nat->Option v6
 fz:List (Nat×Nat×Nat):=[]
 lv:List (Nat×List Nat):=[]
 lx:List (Nat×List Nat):=[]
 lf:List (Nat×List (Nat×Md)):=[]
 od:List (Nat×List Nat):=[]
 ar:List (Nat×List Nat):=[]
 bx:List (Nat×List Nat):=[]
 pd:List (Nat×List Nat):=[]
 er:List (Nat×List (Nat×Nat)):=[]
def Y4:List (Nat×Nat×Nat)->Nat->Nat->Nat->Bool
 | [],_,_,_=>false
 | (a,b,c)::l,i,j,k=>(Nat.beq a i&&Nat.beq b j&&Nat.beq c k)||Y4 l i j k
def cg:Nat:=274877906944
section
variable {R:Type}
def q9 (E:Env) (t:Nat) (K:Ty->Option R):Option R:=
 match E.TI t with
 | some t=>K t
 | none=>none
def o4:Nat->Path
 | 0=>[.fst]
 | n+1=>.snd::o4 n
def v7:Nat->Ty->Option Ty
 | 0,.pair a _=>some a
 | n+1,.pair _ b=>v7 n b
 | _,_=>none
def Us:Nat->(t:Ty)->t.den->((t':Ty)->t'.den->Option R)->Option R
 | 0,.pair a _,v,K=>K a v.1
 | n+1,.pair _ b,v,K=>Us n b v.2 K
 | _,_,_,_=>none
def OW (σ:St) (r:Nat):Option Ty:=
 match σ.get r with
 | .own t _ _ _ | .box t _ _ _=>some t
 | _=>none
def Jp (σ:St) (r:Nat) (p:Path):Option Ty:=
 match OW σ r with
 | some t=>DF p t
 | none=>none
def Ey (E:Env) (σ:St) (T:Nat) (a:Slot) (mv:Bool) (d:Option Tmp) (K:St->Option R):Option R:=
 q9 E T λT=>
 match a with
 | .cp t v=>if t=T then K (σ.cb d (.val t v)) else none
 | .ptr r p snap=>
  if σ.ok r snap then
   qA σ r p λt m H v=>
    if t=T then
     if t.flat then (if H.isEmpty then K (σ.cb d (.val t v)) else none)
     else if m=ai t then (if H.isEmpty then (match mv with
      | true=>K (σ.cb d (.ref r p (wQ σ r p t)))
      | false=>K (σ.cb d (.val t v))) else none)
     else match mv with
      | false=>K (σ.cb d (.ref r p (wQ σ r p t)))
      | true=>if H.isEmpty then Bg σ r p λσ=>K (σ.cb d (laid t m v)) else none
    else none
  else none
 | _=>none
def Kq (E:Env) (σ:St) (T:Nat) (a:Operand) (mv fr:Bool) (d:Option Tmp) (K:St->Option R):Option R:=
 match fr with
 | false=>Ey E σ T (d7 σ a) mv d K
 | true=>match d7 σ a with
  | .ptr r p snap=>if σ.ok r snap then zu σ r p λσ=>Ey E σ T (d7 σ a) mv d K else none
  | _=>none
def OX (E:Env) (σ:St) (T:Nat) (a x:Slot) (mv:Bool) (K:St->Option R):Option R:=
 q9 E T λT=>
 match a with
 | .ptr r p snap=>
  if σ.ok r snap then
   if Jp σ r p=some T then nJ σ x mv T λm v σ=>xl σ r p T m v K else none
  else none
 | _=>none
def Ez (E:Env) (σ:St) (S:Nat) (x:Slot) (j:Nat) (d:Option Tmp) (K:St->Option R):Option R:=
 q9 E S λS=>
 match x with
 | .cp t v=>if t=S then Us j t v λt' v'=>K (σ.cb d (.cp t' v')) else none
 | .ptr r p snap=>if σ.ok r snap then (if Jp σ r p=some S then (if (v7 j S).isSome then K (σ.cb d (.ptr r (p++o4 j) snap)) else none) else none) else none
 | _=>none
def L8 (E:Env) (σ:St) (S:Nat) (x:Slot) (j:Nat) (d:Option Tmp) (K:St->Option R):Option R:=
 q9 E S λS=>
 match x with
 | .val t v=>if t=S then Us j t v λt' v'=>K (σ.cb d (.val t' v')) else none
 | .ref r p snap=>
  if σ.ok r snap then
   if Jp σ r p=some S then
    qA σ r (p++o4 j) λt m H v=>
     if t.flat||(m=ai t) then (if H.isEmpty then K (σ.cb d (.val t v)) else none)
     else K (σ.cb d (.ref r (p++o4 j) (wQ σ r (p++o4 j) t)))
   else none
  else none
 | _=>none
def WE (n:Int) (len:Nat) (K:Nat->Option R):Option R:=
 if 0<=n/\n < (len:Int) then K n.toNat else none
def EA (E:Env) (σ:St) (T:Nat) (x ix:Slot) (d:Option Tmp) (K:St->Option R):Option R:=
 q9 E T λT=>xN ix λn=>
 match x with
 | .val (.aa e) v=>if T=.aa e then (if 0<=n then (v[n.toNat]?).bind λy=>K (σ.cb d (.cp e y)) else none) else none
 | .cp (.arr m e) v=>if T=.arr m e then (if 0<=n then (v[n.toNat]?).bind λy=>K (σ.cb d (.cp e y)) else none) else none
 | .ref r p snap=>
  if σ.ok r snap then
   qA σ r p λt m H v=>
    if H.any (·.isEmpty) then none else
    if t=T then
     match t,v with
     | .aa e,v=>
      if m.own then WE n v.length λi=>K (σ.cb d (.ptr r (p++[.idx i]) (xZ σ r (p++[.idx i]))))
      else if 0<=n then (v[n.toNat]?).bind λy=>K (σ.cb d (.cp e y)) else none
     | _,_=>none
    else none
  else none
 | .sub r p snap lo hi=>
  if σ.ok r snap then
   qA σ r p λt _ H _=>if H.any (·.isEmpty) then none else if t=T then WE n (hi - lo) λi=>K (σ.cb d (.ptr r (p++[.idx (lo+i)]) (xZ σ r (p++[.idx (lo+i)])))) else none
  else none
 | .ptr r p snap=>
  if σ.ok r snap then
   qA σ r p λt _ _ v=>
    if t=T then
     match t,v with
     | .arr _ _,v=>WE n v.length λi=>K (σ.cb d (.ptr r (p++[.rP i]) snap))
     | _,_=>none
    else none
  else none
 | _=>none
def OY (E:Env) (σ:St) (T:Nat) (x ix:Slot) (d:Option Tmp) (K:St->Option R):Option R:=
 q9 E T λT=>xN ix λn=>
 match x with
 | .val .str s=>if T=.str then (if 0<=n then (s[n.toNat]?).bind λc=>K (σ.cb d (.val (.int .u8) c)) else none) else none
 | .val (.arr m e) v=>if T=.arr m e then (if 0<=n then (v[n.toNat]?).bind λy=>K (σ.cb d (.val e y)) else none) else none
 | _=>none
def vM (len:Nat) (lo hi:Option Slot) (K:Nat->Nat->Option R):Option R:=
 match lo,hi with
 | none,none=>K 0 len
 | some l,none=>xN l λl=>if 0<=l/\l<=(len:Int) then K l.toNat len else none
 | none,some h=>xN h λh=>if 0<=h/\h<=(len:Int) then K 0 h.toNat else none
 | some l,some h=>xN l λl=>xN h λh=>if 0<=l/\l<=h/\h<=(len:Int) then K l.toNat h.toNat else none
def OZ (E:Env) (σ:St) (T:Nat) (x:Slot) (lo hi:Option Slot) (d:Option Tmp) (K:St->Option R):Option R:=
 q9 E T λT=>
 match x with
 | .val .str s=>if T=.str then vM s.length lo hi λl h=>K (σ.cb d (.val .str ((s.take h).drop l))) else none
 | .val (.aa e) v=>if T=.aa e then vM v.length lo hi λl h=>K (σ.cb d (.val (.aa e) ((v.take h).drop l))) else none
 | .ref r p snap=>
  if σ.ok r snap then
   qA σ r p λt m H v=>
    if H.any (·.isEmpty) then none else
    if t=T then
     match t,v with
     | .aa e,v=>
      if m.own then vM v.length lo hi λl h=>K (σ.cb d (.sub r p snap l h))
      else vM v.length lo hi λl h=>K (σ.cb d (.val (.aa e) ((v.take h).drop l)))
     | _,_=>none
    else none
  else none
 | .sub r p snap l0 h0=>
  if σ.ok r snap then
   qA σ r p λt _ H _=>if H.any (·.isEmpty) then none else if t=T then vM (h0 - l0) lo hi λl h=>K (σ.cb d (.sub r p snap (l0+l) (l0+h))) else none
  else none
 | _=>none
def Y5 (E:Env) (σ:St) (t:Nat) (x:Slot) (K:Nat->Option R):Option R:=
 q9 E t λT=>
 match T with
 | .str=>match x with
  | .val .str s=>K s.length
  | _=>none
 | .aa _=>match x with
  | .val (.aa _) v=>K v.length
  | .yo=>K 0
  | .ref r p snap=>
   if σ.ok r snap then
    qA σ r p λt _ H v=>if H.any (·.isEmpty) then none else match t,v with
     | .aa _,v=>K v.length
     | _,_=>none
   else none
  | .sub r _ snap lo hi=>if σ.ok r snap then K (hi - lo) else none
  | _=>none
 | _=>none
def C0 (σ:St) (x:Slot) (e:Ty) (mv:Bool) (K:Md->List e.den->St->Option R):Option R:=
 match x with
 | .val .str s=>kh (.aa (.int .u8)) (.aa e) s λs=>K .leaf s σ
 | x=>nJ σ x mv (.aa e) λm v σ=>K m.e v σ
def L9 (E:Env) (σ:St) (T:Nat) (b:Slot) (x:Operand) (mv tf:Bool) (d:Option Tmp) (K:St->Option R):Option R:=
 q9 E T λT=>
 match T with
 | .aa e=>
  match tf&&(e.flat&&e.sY) with
  | true=>C0 σ (d7 σ x) e false λ_ y _=>nJ σ b true (.aa e) λm v σ=>
   if m.own then
    if v.length+y.length<=cg then K (σ.cb d (.own (.aa e) (.aa true (ai e)) [] (v++y))) else none
   else none
  | false=>
  nJ σ b true (.aa e) λm v σ=>
   if m.own then
    C0 σ (d7 σ x) e mv λme y σ=>
     if v.length+y.length<=cg then
      K (σ.cb d (.own (.aa e) (.aa true (if me=m.e then me else ai e)) [] (v++y)))
     else none
   else none
 | _=>none
def oM {α:Type} (v:List α) (lo n:Nat) (y:List α):List α:=v.take lo++y.take n++v.drop (lo+n)
def Ut (E:Env) (σ:St) (T:Nat) (b:Operand) (x:Slot) (d:Option Tmp) (K:St->Option R):Option R:=
 q9 E T λT=>
 match T with
 | .aa e=>
  if e.flat then
   C0 σ x e true λ_ y σ=>
    match d7 σ b with
    | .sub r p snap lo hi=>
     if σ.ok r snap then
      qA σ r p λt m H v=>
       if m.own&&H.isEmpty then kh t (.aa e) v λv=>
        xl σ r p (.aa e) m (oM v lo (min y.length (hi - lo)) y) λσ'=>
         K (({ σ' with vr:=(σ.nv r yp).vr,ay:=σ.ay }).cb d (.val (.int .i64) ((min y.length (hi - lo):Nat):Int)))
       else none
     else none
    | .ref r p snap=>
     if σ.ok r snap then
      qA σ r p λt m H v=>
       if m.own&&H.isEmpty then kh t (.aa e) v λv=>
        xl σ r p (.aa e) m (oM v 0 (min y.length v.length) y) λσ'=>
         K (({ σ' with vr:=(σ.nv r yp).vr,ay:=σ.ay }).cb d (.val (.int .i64) ((min y.length v.length:Nat):Int)))
       else none
     else none
    | _=>none
  else none
 | _=>none
def Gu:Nat->(t:Ty)->Md->t.den->(t':Ty)->Md->t'.den->(Md->t.den->Option R)->Option R
 | 0,.pair a _,m,v,t',m',x,K=>kh t' a x λx=>K (.pair m' m.r) (x,v.2)
 | n+1,.pair _ b,m,v,t',m',x,K=>Gu n b m.r v.2 t' m' x λm'' y=>K (.pair m.l m'') (v.1,y)
 | _,_,_,_,_,_,_,_=>none
def Gv (E:Env) (σ:St) (t:Ty) (fz:Nat->Bool):List (Nat×Operand)->Nat->Md->t.den->(Md->t.den->St->Option R)->Option R
 | [],_,m,v,K=>K m v σ
 | (j,x)::ps,n,m,v,K=>
  match v7 j t with
  | some t'=>nJ σ (d7 σ x) (!fz n) t' λm' y σ'=>Gu j t m v t' m' y λm v=>Gv E σ' t fz ps (n+1) m v K
  | none=>none
def Jq (σ:St) (e:Ty) (fz:Nat->Bool):List (Nat×Operand)->Nat->Md->List e.den->(Md->List e.den->St->Option R)->Option R
 | [],_,m,v,K=>K m v σ
 | (j,x)::ps,n,m,v,K=>
  if Nat.beq j n then
   nJ σ (d7 σ x) (!fz n) e λm' y σ'=>Jq σ' e fz ps (n+1) (if m'=m then m else ai e) (v++[y]) K
  else none
def O0 (σ:St) (e:Ty) (fz:Nat->Bool):List (Nat×Operand)->Nat->List e.den->(List e.den->St->Option R)->Option R
 | [],_,v,K=>K v σ
 | (j,x)::ps,n,v,K=>
  nJ σ (d7 σ x) (!fz n) e λ_ y σ'=>if j < v.length then O0 σ' e fz ps (n+1) (v.set j y) K else none
def O1 (op:BinOp) (k:IntKind) (a b:Int) (K:(t:Ty)->t.den->Option R):Option R:=
 match op with
 | .add=>K (.int k) (F_ k (a+b))
 | .sub=>K (.int k) (F_ k (a - b))
 | .mul=>K (.int k) (F_ k (a*b))
 | .quo=>if b=0 then none else K (.int k) (F_ k (a.tdiv b))
 | .rem=>if b=0 then none else K (.int k) (inI k (a.tmod b))
 | .and=>K (.int k) (F_ k ((BitVec.ofInt k.bits a &&& BitVec.ofInt k.bits b).toNat:Int))
 | .or=>K (.int k) (F_ k ((BitVec.ofInt k.bits a ||| BitVec.ofInt k.bits b).toNat:Int))
 | .xor=>K (.int k) (F_ k ((BitVec.ofInt k.bits a ^^^ BitVec.ofInt k.bits b).toNat:Int))
 | .shl=>if b < 0 then none else K (.int k) (F_ k (a*2 ^ (min b.toNat k.bits)))
 | .shr=>if b < 0 then none else K (.int k) (inI k (a.fdiv (2 ^ (min b.toNat k.bits))))
 | .eql=>K .bool (decide (a=b))
 | .neq=>K .bool (!decide (a=b))
 | .lss=>K .bool (decide (a < b))
 | .leq=>K .bool (decide (a<=b))
 | .gtr=>K .bool (decide (b < a))
 | .geq=>K .bool (decide (b<=a))
 | _=>none
def Y6 (op:BinOp) (a b:List UInt8) (K:(t:Ty)->t.den->Option R):Option R:=
 match op with
 | .add=>if a.length+b.length<=cg then K .str (a++b) else none
 | .eql=>K .bool (decide (a=b))
 | .neq=>K .bool (!decide (a=b))
 | _=>none
def both (a b:Option R):Option R:=open Classical in if a=b then a else none
def BL {α:Type} (v:List α) (a b:Option R):Option R:=match v with
 | []=>both a b
 | _::_=>b
def ab9 {α:Type} (op:BinOp) (v:List α) (K:(t:Ty)->t.den->Option R):Option R:=match op with
 | .eql=>BL v (K .bool true) (K .bool false)
 | .neq=>BL v (K .bool false) (K .bool true)
 | _=>none
def O2 (E:Env) (tid:Nat) (op:BinOp) (x y:Slot) (K:(t:Ty)->t.den->Option R):Option R:=
 match x,y with
 | .val (.int k) a,.val (.int k') b=>
  match op with
  | .shl | .shr=>O1 op k (qM k a) (qM k' b) K
  | _=>if k=k' then O1 op k (qM k a) (qM k' b) K else none
 | .val .str a,.val .str b=>Y6 op a b K
 | .val t a,.val t' b=>
  match op with
  | .eql=>if t.oZ then q9 E tid λT=>if T=t then kh t' t b λb=>K .bool (t.eq a b) else none else none
  | .neq=>if t.oZ then q9 E tid λT=>if T=t then kh t' t b λb=>K .bool (!t.eq a b) else none else none
  | _=>none
 | .val (.aa e) v,.yo=>q9 E tid λT=>if T=.aa e then ab9 op v K else none
 | _,_=>none
def EB (E:Env) (σ:St) (S T:Nat) (x:Slot) (d:Option Tmp) (K:St->Option R):Option R:=
 q9 E S λS=>q9 E T λT=>
 match T with
 | .int k=>match x with
  | .val (.int k') n=>if S=.int k' then K (σ.cb d (.val (.int k) (F_ k (qM k' n)))) else none
  | _=>none
 | .str=>match S with
  | .str=>match x with
   | .val .str s=>K (σ.cb d (.val .str s))
   | _=>none
  | .aa (.int .u8)=>ua σ x (.aa (.int .u8)) λv=>K (σ.cb d (.val .str v))
  | _=>none
 | .aa (.int .u8)=>match x with
  | .val .str s=>if S=.str then (if s.length<=cg then K (σ.cb d (.own (.aa (.int .u8)) (ah (.aa (.int .u8))) [] s)) else none) else none
  | _=>none
 | _=>none
def O3 (σ:St) (s:Slot) (t:Ty) (K:t.den->Option R):Option R:=
 match s with
 | .val t' v=>kh t' t v K
 | .cp t' v=>kh (.ptr t') t v K
 | .yo=>match t with
  | .aa _=>K []
  | _=>none
 | .ref r p snap=>
  if σ.ok r snap then qA σ r p λt' m H v=>if H.isEmpty&&(t'.flat||decide (m=ai t')) then kh t' t v K else none
  else none
 | .sub r p snap lo hi=>
  if σ.ok r snap then
   qA σ r p λt' m H v=>if H.isEmpty&&decide (m=ai t') then kh t' t v λv=>match t,v with
    | .aa _,v=>K ((v.take hi).drop lo)
    | _,_=>none
   else none
  else none
 | _=>none
def BM (σ:St) (ow:Bool) (pm:PM) (t:Ty) (s:Slot) (K:t.den->Option (Nat×Path)->Option R):Option R:=
 match pm with
 | .ro=>match ow with
  | true=>ua σ s t λv=>K v none
  | false=>O3 σ s t λv=>K v none
 | .fix f=>match s with
  | .val .fn v=>if Nat.beq v.1 f then kh .fn t v λv=>K v none else none
  | _=>none
 | .jp m _=>match s with
  | .ptr r p snap=>
   if σ.ok r snap then qA σ r p λt' m' H v=>if H.isEmpty&&decide (m'=m) then kh t' t v λv=>K v (some (r,p)) else none
   else none
  | _=>none
 | .tc m=>match s with
  | .ptr r p snap=>
   if σ.ok r snap then qA σ r p λt' m' H v=>if H.isEmpty&&decide (m'=m) then kh t' t v λv=>K v (some (r,p)) else none
   else none
  | _=>none
 | .lD m=>match s with
  | .ref r p snap=>
   if σ.ok r snap then qA σ r p λt' m' H v=>if H.isEmpty&&decide (m'=m) then kh t' t v λv=>K v (some (r,p)) else none
   else none
  | _=>none
 | .pG m=>match s with
  | .ref r p snap=>
   if σ.ok r snap then qA σ r p λt' m' _ v=>if m'=m then kh t' t v λv=>K v (some (r,p)) else none
   else none
  | _=>none
def nO:Slot->List Nat
 | .ref r _ _ | .sub r _ _ _ _ | .ptr r _ _=>[r]
 | _=>[]
def Ow (σ:St) (ow:Bool):(ps:List (PM×Ty))->List Slot->((bu (ps.map (·.2))).den->List (Nat×Path)->Option R)->Option R
 | [],[],K=>K () []
 | (pm,t)::ps,s::ss,K=>BM σ ow pm t s λv w=>Ow σ ow ps ss λvs ws=>K (v,vs) (match w with | some x=>x::ws | none=>ws)
 | _,_,_=>none
def td (σ:St):List (PM×Ty)->List Operand->(St->Option R)->Option R
 | (.jp m _,_)::ps,x::xs,K=>match d7 σ x with
  | .ptr r p snap=>if σ.ok r snap then qA σ r p λ_ m' _ _=>if m'=m then td σ ps xs K else xY σ r p m λσ=>td σ ps xs K else none
  | _=>none
 | (.tc m,_)::ps,x::xs,K=>match d7 σ x with
  | .ptr r p snap=>if σ.ok r snap then qA σ r p λ_ m' _ _=>if m'=m then td σ ps xs K else xY σ r p m λσ=>td σ ps xs K else none
  | _=>none
 | (.lD m,_)::ps,x::xs,K=>match d7 σ x with
  | .ref r p snap=>if σ.ok r snap then qA σ r p λ_ m' _ _=>if m'=m then td σ ps xs K else xY σ r p m λσ=>td σ ps xs K else none
  | _=>none
 | (.pG m,_)::ps,x::xs,K=>match d7 σ x with
  | .ref r p snap=>if σ.ok r snap then qA σ r p λ_ m' _ _=>if m'=m then td σ ps xs K else xY σ r p m λσ=>td σ ps xs K else none
  | _=>none
 | _::ps,_::xs,K=>td σ ps xs K
 | _,_,K=>K σ
def ab_ (x:Operand) (r:Nat) (t:Ty) (v:t.den) (σ:St):St:=match x with
 | .tmp i=>match Nat.beq i r||!Nat.blt i σ.n with
  | true=>σ
  | false=>(σ.put i .dead).put i (.cp t v)
 | _=>σ
def BN (σ:St):List (PM×Ty)->List Operand->(St->Option R)->Option R
 | (.ro,t)::ps,x::xs,K=>
  if t.flat then BN σ ps xs K else
  match d7 σ x with
  | .ref r p snap=>if σ.ok r snap then zu σ r p λσ=>BN σ ps xs K else none
  | .sub r p snap _ _=>if σ.ok r snap then zu σ r p λσ=>BN σ ps xs K else none
  | .ptr r p snap=>if σ.ok r snap then
    match p,σ.get r with
    | [],.box t m H v=>if H.isEmpty&&fits m (ai t) then BN (ab_ x r t v ((σ.put r .dead).put r (.cp t v))) ps xs K else none
    | _,_=>none
   else none
  | _=>BN σ ps xs K
 | _::ps,_::xs,K=>BN σ ps xs K
 | _,_,K=>K σ
def apart:List Nat->List (Nat×Path)->Bool
 | _,[]=>true
 | all,(r,_)::ws=>Nat.ble (all.count r) 1&&apart all ws
def th (σ:St):(ps:List (PM×Ty))->List (Nat×Path)->(bu (lN ps)).den->(St->Option R)->Option R
 | [],[],_,K=>K σ
 | (.ro,_)::ps,ws,v,K=>th σ ps ws v K
 | (.fix _,_)::ps,ws,v,K=>th σ ps ws v K
 | (.jp _ m,t)::ps,(r,p)::ws,v,K=>xl σ r p t m v.1 λσ=>th σ ps ws v.2 K
 | (.tc m,t)::ps,(r,p)::ws,v,K=>match xl σ r p t m t.zero (λ_=>some ()) with
  | some _=>th (σ.put r .dead) ps ws v K
  | none=>none
 | (.pG _,_)::ps,(r,p)::ws,v,K=>Bg σ r p λσ=>th σ ps ws v K
 | (.lD m,t)::ps,(r,p)::ws,v,K=>xl σ r p t m v.1 λσ'=>th { σ' with vr:=(σ.nv r (vy (d_ p+1))).vr,ay:=σ.ay } ps ws v.2 K
 | _,_,_,_=>none
def lO:(rs:List (Ty×Md))->{ts:List Ty}->(bu (rs.map (·.1)++ts)).den->List Kn×(bu ts).den
 | [],_,v=>([],v)
 | (t,m)::rs,_,v=>(⟨t,m,v.1⟩::(lO rs v.2).1,(lO rs v.2).2)
def wR:List Kn->Slot
 | []=>.dead
 | [x]=>laid x.t x.m x.v
 | xs=>.sR xs
def BO:List (Ty×Md)->Bool
 | []=>true
 | (t,m)::rs=>(t.flat||decide (m=ah t))&&t.sY&&BO rs
def o_:List (PM×Ty)->Bool
 | []=>true
 | (.jp m m',t)::ps=>(t.flat||decide (m=ah t))&&t.sY&&((t.flat||decide (m'=ah t))&&o_ ps)
 | (.lD m,t)::ps=>(t.flat||decide (m=ah t))&&t.sY&&o_ ps
 | (.tc m,t)::ps=>(t.flat||decide (m=ah t))&&t.sY&&o_ ps
 | (.pG m,t)::ps=>(t.flat||decide (m=ah t))&&t.sY&&o_ ps
 | _::ps=>o_ ps
def Uu:List (PM×Ty)->Bool
 | []=>false
 | (.pG _,_)::_=>true
 | _::ps=>Uu ps
def Y7 (σ:St) (hv:Bool) (ho:List Path->Bool) (ws:List (Nat×Path)) (K:Option R):Option R:=
 match hv,ws with
 | true,(r,p)::_=>qA σ r p λ_ _ H _=>match ho H with
  | true=>K
  | false=>none
 | _,_=>K
def Kr (g:v6) (ow:Bool) (σ:St) (xs:List Operand) (ex:List Slot) (d:Option Tmp) (K:St->Option R):Option R:=
 td σ g.ps xs λσ=>
  Ow σ ow g.ps (xs.map (d7 σ)++ex) λv ws=>
   if Nat.ble ws.length 1&&apart ((xs.map (d7 σ)++ex).flatMap nO) ws then
    Y7 σ (Uu g.ps) (g.Ga v) ws ((g.F v).bind λout=>
     th σ g.ps ws (lO g.rs out).2 λσ=>K (σ.cb d (wR (lO g.rs out).1)))
   else none
def EC (g:v6) (σ:St) (xs:List Operand) (ex:List Slot) (d:Option Tmp) (K:St->Option R):Option R:=
 match BO g.rs&&o_ g.ps with
 | true=>Kr g true σ xs ex d K
 | false=>BN σ g.ps xs λσ=>Kr g false σ xs ex d K
def L_ (E:Env) (σ:St) (T:Nat) (x:Operand) (mv:Bool) (d:Option Tmp) (K:St->Option R):Option R:=
 match d7 σ x with
 | .dead=>K (σ.cb d .dead)
 | .yo=>q9 E T λT=>match T with
  | .aa e=>K (σ.cb d (.own (.aa e) (ah (.aa e)) [] []))
  | _=>none
 | .sR []=>K (σ.cb d (.sR []))
 | .sR _=>none
 | .ref r p snap=>
  if σ.ok r snap then
   match Jp σ r p with
   | some t=>nJ σ (.ref r p snap) mv t λm v σ=>K (σ.cb d (laid t m v))
   | none=>none
  else none
 | .sub r p snap lo hi=>
  if σ.ok r snap then
   match Jp σ r p with
   | some t=>nJ σ (.sub r p snap lo hi) mv t λm v σ=>K (σ.cb d (laid t m v))
   | none=>none
  else none
 | .ptr r p snap=>
  match p,σ.get r with
  | [],.box t m H v=>if σ.ok r snap&&mv&&!Ew σ.ay r then (match d with | some i=>K ((σ.put r .dead).put i (.box t m H v)) | none=>none) else K (σ.cb d (.ptr r [] snap))
  | p,_=>K (σ.cb d (.ptr r p snap))
 | s=>K (σ.cb d s)
def Uv (σ:St) (x:Operand) (d:Option Tmp) (K:St->Option R):Option R:=
 match d7 σ x,x with
 | .sR xs,.tmp i=>K ((σ.put i .dead).cb d (.sR xs))
 | .sR _,_=>none
 | s,_=>K (σ.cb d s)
def O4 (σ:St) (x:Operand) (d:Option Tmp) (σ':St):St:=
 match x,d with
 | .tmp i,some d=>match σ.get i with
  | .own _ _ _ _=>match Ko σ.ay i with
   | some n=>{ σ' with ay:=(d,n,true)::σ'.ay }
   | none=>σ'
  | _=>σ'
 | _,_=>σ'
def O5:Slot->Option (Nat×Int)
 | .val .fn f=>some f
 | _=>none
def ko {α:Type} (k:Ty) (m:List (k.den×α)) (x:k.den):Option α:=(m.find? λe=>k.eq x e.1).map (·.2)
def nP {α:Type} (k:Ty) (m:List (k.den×α)) (x:k.den) (y:α):List (k.den×α):=match m.findIdx? (λe=>k.eq x e.1) with
 | some i=>m.set i (x,y)
 | none=>m++[(x,y)]
def C3 {α:Type} (o:Option α) (z:α):α:=match o with
 | some x=>x
 | none=>z
def Ma (E:Env) (σ:St) (T:Nat) (x ix:Slot) (ok:Bool) (d:Option Tmp) (K:St->Option R):Option R:=
 q9 E T λT=>
 match T with
 | .map k v=>
  if v.xj then
   match x with
   | .ref r p snap=>
    if σ.ok r snap then
     qA σ r p λt _ H y=>
      if H.isEmpty then kh t (.map k v) y λy=>
       match ix with
       | .val t2 i=>kh t2 k i λi=>
        match ok with
        | true=>K (σ.cb d (.sR [⟨v,ai v,C3 (ko k y i) v.zero⟩,⟨.bool,.leaf,(ko k y i).isSome⟩]))
        | false=>K (σ.cb d (.val v (C3 (ko k y i) v.zero)))
       | _=>none
      else none
    else none
   | _=>none
  else none
 | _=>none
def Mb (E:Env) (σ:St) (T:Nat) (x ix y:Slot) (K:St->Option R):Option R:=
 q9 E T λT=>
 match T with
 | .map k v=>
  match x with
  | .ref r p snap=>
   if σ.ok r snap then
    qA σ r p λt m H z=>
     if m.own&&H.isEmpty then kh t (.map k v) z λz=>
      match ix,y with
      | .val t2 i,.val t3 w=>kh t2 k i λi=>kh t3 v w λw=>
       xl σ r p (.map k v) m (nP k z i w) λσ'=>K { σ' with vr:=(σ.nv r yp).vr,ay:=σ.ay }
      | _,_=>none
     else none
   else none
  | _=>none
 | _=>none
def WF:Option Ty->Bool
 | some (.map _ _)=>true
 | _=>false
def Mc (E:Env) (σ:St) (T:Nat) (x:Slot) (K:Nat->Option R):Option R:=
 q9 E T λT=>
 match T with
 | .map k v=>
  match x with
  | .ref r p snap=>
   if σ.ok r snap then
    qA σ r p λt _ H y=>if H.isEmpty then kh t (.map k v) y λy=>K (List.length y) else none
   else none
  | _=>none
 | _=>none
def sL (E:Env) (ip i:Nat) (o:Oper) (σ:St) (K:St->Option R):Option R:=
 let fz:=Y4 E.fz ip i
 let d:=o.dst
 match o.op with
 | .move x=>Uv σ x d K
 | .assign x=>L_ E σ o.type x (!fz 0) d K
 | .pick c a b=>Kp (d7 σ c) λc=>match d7 σ (bif c then a else b) with
  | .val .bool x=>K (σ.cb d (.val .bool x))
  | _=>none
 | .alloc t=>q9 E t λt=>if t.xj then K (σ.cb d (.box t (ah t) [] t.zero)) else none
 | .box t x=>q9 E t λt=>nJ σ (d7 σ x) (!fz 0) t λm v σ'=>K (O4 σ x d (σ'.cb d (.box t m [] v)))
 | .build t ps=>q9 E t λt=>match t with
  | .arr n e=>if e.xj then O0 σ e fz ps.toList 0 (Ty.arr n e).zero λv σ=>K (σ.cb d (laid (.arr n e) (ah (.arr n e)) v)) else none
  | .pair t1 t2=>if (Ty.pair t1 t2).xj then Gv E σ (.pair t1 t2) fz ps.toList 0 (ah (.pair t1 t2)) (Ty.pair t1 t2).zero λm v σ=>K (σ.cb d (laid (.pair t1 t2) m v)) else none
  | _=>none
 | .buildSlice t n ps=>q9 E t λt=>match t with
  | .aa e=>if Nat.beq n ps.size&&e.xj&&Nat.ble (n*e.sz) 16777216 then Jq σ e fz ps.toList 0 (ah e) [] λm v σ=>K (σ.cb d (.own (.aa e) (.aa true m) [] v)) else none
  | _=>none
 | .load t a=>Kq E σ t a (fz 7) (fz 8) d K
 | .store t a x=>match d with
  | none=>OX E σ t (d7 σ a) (d7 σ x) (!fz 1) K
  | some _=>none
 | .nilCheck x=>match d7 σ x with
  | .ptr r p snap=>if σ.ok r snap then K (σ.cb d (.ptr r p snap)) else none
  | .cp t v=>K (σ.cb d (.cp t v))
  | .val .fn f=>K (σ.cb d (.val .fn f))
  | _=>none
 | .binOp op t x y _=>O2 E t op (d7 σ x) (d7 σ y) λt v=>K (σ.cb d (.val t v))
 | .unOp op _ x=>match op,d7 σ x with
  | .not,.val .bool b=>K (σ.cb d (.val .bool (!b)))
  | .neg,.val (.int k) n=>K (σ.cb d (.val (.int k) (F_ k (0 - qM k n))))
  | _,_=>none
 | .convert s t x=>EB E σ s t (d7 σ x) d K
 | .fieldAddr t x j=>Ez E σ t (d7 σ x) j d K
 | .field t x j=>L8 E σ t (d7 σ x) j d K
 | .indexAddr t x ix=>EA E σ t (d7 σ x) (d7 σ ix) d K
 | .index t x ix=>OY E σ t (d7 σ x) (d7 σ ix) d K
 | .slice t x lo hi none=>OZ E σ t (d7 σ x) (lo.map (d7 σ)) (hi.map (d7 σ)) d K
 | .makeSlice t n c=>q9 E t λt=>match t with
  | .aa e=>xN (d7 σ n) λn=>xN (d7 σ c) λc=>
   if e.xj then (if 0<=n/\n<=c/\c<=(cg:Int) then K (σ.cb d (.own (.aa e) (ah (.aa e)) [] (List.replicate n.toNat e.zero))) else none) else none
  | _=>none
 | .extract x j=>match x with
  | .tmp i=>match σ.get i with
   | .sR xs=>match xs[j]? with
    | some x=>if x.t=.unit then none else K ((σ.put i (.sR (xs.set j ⟨.unit,.leaf,()⟩))).cb d (laid x.t x.m x.v))
    | none=>none
   | _=>none
  | _=>none
 | .makeFunc (.func f) first cs=>
  if first.size=0 then
   match cs.toList with
   | []=>K (σ.cb d (.val .fn (f,0)))
   | [.tmp i]=>match σ.get i with
    | .box (.int .i64) _ _ n=>K (((σ.put i .dead).put i (.cp (.int .i64) n)).cb d (.val .fn (f,n)))
    | _=>none
   | _=>none
  else none
 | .makeMap t none=>q9 E t λt=>match t with
  | .map k v=>if k.flat&&v.flat then K (σ.cb d (.own (.map k v) (ah (.map k v)) [] [])) else none
  | _=>none
 | .lookup t x ix ok=>Ma E σ t (d7 σ x) (d7 σ ix) ok d K
 | .mapUpdate t x ix y=>match d with
  | none=>Mb E σ t (d7 σ x) (d7 σ ix) (d7 σ y) K
  | some _=>none
 | .call c=>match c.callee with
  | .builtin .len=>match c.args.toList,c.argTypes.toList with
   | [x],[t]=>match WF (E.TI t) with
    | false=>Y5 E σ t (d7 σ x) λn=>K (σ.cb d (.val (.int .i64) (n:Int)))
    | true=>Mc E σ t (d7 σ x) λn=>K (σ.cb d (.val (.int .i64) (n:Int)))
   | _,_=>none
  | .builtin .append=>match c.args.toList,c.argTypes.toList with
   | [b,x],t::_=>L9 E σ t (d7 σ b) x (!fz 1) (fz 2) d K
   | _,_=>none
  | .builtin .copy=>match c.args.toList,c.argTypes.toList with
   | [b,x],t::_=>Ut E σ t b (d7 σ x) d K
   | _,_=>none
  | .value (.func f)=>match E.G f with
   | some g=>match g.cap with
    | false=>EC g σ c.args.toList [] d K
    | true=>none
   | none=>none
  | .value (.tmp i)=>match O5 (σ.get i) with
   | some (f,n)=>match E.G f with
    | some g=>match g.cap with
     | true=>EC g σ c.args.toList [.cp (.int .i64) n] d K
     | false=>EC g σ c.args.toList [] d K
    | none=>none
   | none=>none
  | _=>none
 | _=>none
def pa (l:List (Nat×List Nat)) (i:Nat):List Nat:=match oG l i with | some x=>x | none=>[]
def Gw (ops:List Oper) (σ:St) (g:Option (Nat×Bool)) (K:Bool->St->Option R):Option R:=
 match g with
 | none=>K true σ
 | some (j,want)=>match (ops[j]?).bind (·.dst) with
  | none=>none
  | some t=>match σ.get t with
   | .val .bool b=>match b with
    | true=>K (want == true) (σ.my t (.val .bool true))
    | false=>K (want == false) (σ.my t (.val .bool false))
   | .sR []=>K false σ
   | _=>none
def Me (E:Env) (ip:Nat) (ops:List Oper):List Oper->Nat->St->(St->Option R)->Option R
 | [],_,σ,K=>K σ
 | o::rest,i,σ,K=>Gw ops σ o.guard λb σ=>
  match b with
  | true=>sL E ip i o σ λσ=>Me E ip ops rest (i+1) σ K
  | false=>Me E ip ops rest (i+1) (σ.cb o.dst (.sR [])) K
def O6 (σ:St) (o:Oper):Bool:=match o.op with
 | .load _ x=>match d7 σ x with
  | .cp _ _=>true
  | _=>false
 | .convert _ _ x=>match d7 σ x with
  | .val (.int _) _=>true
  | .val .str _=>true
  | .val (.aa (.int .u8)) _=>true
  | _=>false
 | _=>false
def O7 (E:Env) (ip i:Nat):Bool:=(pa E.ar ip).any (Nat.beq i)
def Ie:Op->Bool
 | .store .. | .mapUpdate .. | .call ..=>true
 | _=>false
def yr:Path->Path->Bool
 | [],[]=>true
 | .fst::p,.fst::q=>yr p q
 | .snd::p,.snd::q=>yr p q
 | .idx i::p,.idx j::q=>Nat.beq i j&&yr p q
 | .rP i::p,.rP j::q=>Nat.beq i j&&yr p q
 | _,_=>false
def aaE (σ:St) (r:Nat) (p:Path) (v:Int):Bool:=
 match qA σ r p λt _ _ x=>kh t (.int .i64) x λy=>some (decide ((y:Int)=v)) with
 | some b=>b
 | none=>false
def Y8 (σ:St) (o:Oper):Bool:=match o.op,o.dst with
 | .load _ (.tmp i),some d=>match σ.get i with
  | .ptr r p s=>match σ.get d with
   | .ref r' p' s'=>Nat.beq r r'&&(σ.ok r s&&σ.ok r s')&&yr p p'
   | .val (.int .i64) v=>σ.ok r s&&aaE σ r p v
   | _=>false
  | .box ..=>match σ.get d with
   | .ref r' p' s'=>Nat.beq i r'&&σ.ok i s'&&yr [] p'
   | _=>false
  | _=>false
 | _,_=>false
def Ks (l:List (Nat×List (Nat×Nat))) (i:Nat):List (Nat×Nat):=match oG l i with | some x=>x | none=>[]
def Uw (E:Env) (ip i:Nat):Bool:=(Ks E.er ip).any λe=>Nat.beq i e.1
def Ux (E:Env) (ip:Nat) (ops:List Oper) (is:List Nat) (σ:St):Bool:=(Ks E.er ip).all λe=>is.any (Nat.beq e.1)||!(is.any (Nat.beq e.2)||Nat.ble ops.length e.2)||(match ops[e.1]? with
 | some o=>Y8 σ o
 | none=>false)
def Kt (E:Env) (ip:Nat) (ops:List Oper) (i:Nat) (o:Oper) (is:List Nat) (σ:St):Bool:=!(Ie o.op||Uw E ip i)||Ux E ip ops is σ
def S4 (σ:St):List Nat->(St->Option R)->Option R
 | [],K=>K σ
 | i::is,K=>match σ.get i with
  | .box t m H v=>if H.isEmpty&&fits m (ai t) then S4 ((σ.put i .dead).put i (.cp t v)) is K else none
  | _=>none
def Mf (σ:St) (d:Nat):Bool:=Nat.blt d σ.n&&(match σ.get d with
 | .dead=>true
 | _=>false)&&!Ew σ.ay d&&!σ.gh.any λe=>Nat.beq e.1 d
def Uy (E:Env) (ip:Nat) (ops:List Oper) (is:List Nat) (σ:St):Bool:=(pa E.pd ip).all λj=>!is.any (Nat.beq j)||(match (ops[j]?).bind (·.dst) with
 | some d=>Mf σ d
 | none=>false)
def WG (ops:List Oper) (σ:St):List Nat->(St->Option R)->Option R
 | [],K=>K σ
 | j::js,K=>match (ops[j]?).bind (·.dst) with
  | some d=>WG ops (σ.put d .dead) js K
  | none=>none
def Gx (E:Env) (ip:Nat) (ops:List Oper):List Nat->St->(St->Option R)->Option R
 | [],σ,K=>K σ
 | i::is,σ,K=>
  match Uy E ip ops (i::is) σ with
  | false=>none
  | true=>
  match ops[i]? with
  | none=>none
  | some o=>Gw ops σ o.guard λb σ=>
   match b with
   | true=>match O7 E ip i&&!O6 σ o with
    | true=>none
    | false=>sL E ip i o σ λσ=>match Kt E ip ops i o is σ with
     | true=>Gx E ip ops is σ K
     | false=>none
   | false=>Gx E ip ops is (σ.cb o.dst (.sR [])) K
def tL:Code->Nat
 | .region id _ _=>id
 | .seq a _=>tL a
 | .block _ b=>tL b
 | .loop b=>tL b
 | .scope b=>tL b
 | _=>0
def Gy (live:List Nat) (fr:List (Nat×Md)) (r:Nat):Bool:=live.any (Nat.beq r)&&(match oG fr r with
 | none=>true
 | some _=>false)
def lE (live:List Nat) (fr:List (Nat×Md)) (σ:St) (i:Nat):Slot:=
 match σ.get i with
 | .ptr r p snap=>if σ.ok r snap&&Gy live fr r then .ptr r p (snap.map λ_=>0) else .dead
 | .ref r p snap=>if σ.ok r snap&&Gy live fr r then .ref r p (snap.map λ_=>0) else .dead
 | .sub r p snap lo hi=>if σ.ok r snap&&Gy live fr r then .sub r p (snap.map λ_=>0) lo hi else .dead
 | s=>s
def AS (live:List Nat) (σ:St):St:={ n:=σ.n,sl:=live.map λi=>(i,lE live [] σ i),vr:=[],ay:=σ.ay }
def C4 (fr:List (Nat×Md)) (i:Nat) (s:Slot):Slot:=
 match oG fr i with
 | none=>s
 | some m1=>
  match s with
  | .own t m H v=>if H.isEmpty&&fits m m1 then (if m1=ai t then .val t v else .own t m1 [] v) else .dead
  | .box t m H v=>if H.isEmpty&&fits m m1 then .box t m1 [] v else .dead
  | s=>s
def gv (live:List Nat) (fr:List (Nat×Md)) (σ:St):St:={ n:=σ.n,sl:=live.map λi=>(i,C4 fr i (lE live fr σ i)),vr:=[],ay:=σ.ay }
def Uz (l:List (Nat×List (Nat×Md))) (i:Nat):List (Nat×Md):=match oG l i with | some x=>x | none=>[]
inductive Ex where
 | normal
 | exit (id:Nat)
def jY (rec:St->Option R) (kp:St->St) (K:Ex->St->Option R):Ex->St->Option R
 | .normal,σ=>rec (kp σ)
 | .exit j,σ=>K (.exit j) σ
def av (B:St->(Ex->St->Option R)->Option R) (K:Ex->St->Option R):Ex->St->Option R
 | .normal,σ=>B σ K
 | .exit j,σ=>K (.exit j) σ
def ak (id:Nat) (K:Ex->St->Option R):Ex->St->Option R
 | .normal,σ=>K .normal σ
 | .exit j,σ=>if Nat.beq j id then K .normal σ else K (.exit j) σ
def If (F:St->(Ex->St->Option R)->Option R) (kp:St->St) (K:Ex->St->Option R):Nat->St->Option R
 | 0,_=>none
 | k+1,σ=>F σ (jY (If F kp K k) kp K)
def v_ (E:Env) (k:Nat) (fin:St->Option R):Code->St->(Ex->St->Option R)->Option R
 | .skip,σ,K=>K .normal σ
 | .region id ops d,σ,K=>match d with
  | false=>Me E id ops.toList ops.toList 0 σ λσ=>S4 σ (pa E.bx id) λσ=>K .normal σ
  | true=>S4 σ (pa E.bx id) λσ=>WG ops.toList σ (pa E.pd id) λσ=>Gx E id ops.toList (pa E.od id) σ λσ=>K .normal σ
 | .seq a b,σ,K=>v_ E k fin a σ (av (v_ E k fin b) K)
 | .cond c a b,σ,K=>Kp (d7 σ c) λc=>match c with
  | true=>v_ E k fin a σ K
  | false=>v_ E k fin b σ K
 | .block id b,σ,K=>v_ E k fin b σ (ak id K)
 | .loop b,σ,K=>If (v_ E k fin b) (gv (pa E.lv (tL b)) (Uz E.lf (tL b))) K k (gv (pa E.lv (tL b)) (Uz E.lf (tL b)) σ)
 | .scope b,σ,K=>v_ E k fin b σ K
 | .exit id,σ,K=>K (.exit id) (AS (pa E.lx id) σ)
 | .ret,σ,_=>fin σ
 | _,_,_=>none
end
def sub:List Nat->Code->Code
 | [],c=>c
 | i::p,.seq a b=>match i with
  | 0=>sub p a
  | _=>sub p b
 | i::p,.cond _ a b=>match i with
  | 0=>sub p a
  | _=>sub p b
 | _::p,.block _ b=>sub p b
 | _::p,.loop b=>sub p b
 | _::p,.scope b=>sub p b
 | _,c=>c
def al {V R:Type} (B:(V->Option R)->V->Option R):Nat->V->Option R
 | 0,_=>none
 | k+1,v=>B (al B k) v
theorem ap {V R:Type} (F:St->(Ex->St->Option R)->Option R) (kp:St->St) (K:Ex->St->Option R) (σ:V->St) (B:(V->Option R)->V->Option R)
  (h:∀ (rec:St->Option R) (v:V),F (σ v) (jY rec kp K)=B (λv'=>rec (σ v')) v):∀ (n:Nat) (v:V),If F kp K n (σ v)=al B n v:=by
 intro n
 induction n with
 | zero=>intro v;rfl
 | succ n ih=>
  intro v;show F (σ v) (jY (If F kp K n) kp K)=B (al B n) v;simp_all
end
end OT
namespace OT
open Go
noncomputable section
def jl:(ps:List (PM×Ty))->(bu (ps.map (·.2))).den->List Slot
 | [],_=>[]
 | (.ro,.ptr e)::ps,v=>.cp e v.1::jl ps v.2
 | (.fix f,.fn)::ps,v=>.val .fn (f,v.1.2)::jl ps v.2
 | (.fix _,_)::ps,v=>.dead::jl ps v.2
 | (.ro,t)::ps,v=>.val t v.1::jl ps v.2
 | (.jp m _,t)::ps,v=>.box t m [] v.1::jl ps v.2
 | (.lD m,t)::ps,v=>.own t m [] v.1::jl ps v.2
 | (.pG m,t)::ps,v=>.own t m [] v.1::jl ps v.2
 | (.tc m,t)::ps,v=>.box t m [] v.1::jl ps v.2
def BP:Nat->List Slot->List (Nat×Slot)
 | _,[]=>[]
 | i,s::ss=>(i,s)::BP (i+1) ss
def wh:Nat->List (PM×Ty)->List (Nat×Nat×Bool)
 | _,[]=>[]
 | i,(.jp _ _,_)::ps=>(i,i,false)::wh (i+1) ps
 | i,(.lD _,_)::ps=>(i,i,true)::wh (i+1) ps
 | i,(.tc _,_)::ps=>(i,i,false)::wh (i+1) ps
 | i,_::ps=>wh (i+1) ps
def D5 (ps:List (PM×Ty)) (v:(bu (ps.map (·.2))).den) (n:Nat):St:={ n:=n,sl:=BP 0 (jl ps v),vr:=[],ay:=wh 0 ps }
section
variable {R:Type}
def yt (σ:St):Nat->(ps:List (PM×Ty))->List Nat->((bu (lN ps)).den->Option R)->Option R
 | _,[],_,K=>K ()
 | j,(.ro,_)::ps,es,K=>yt σ (j+1) ps es K
 | j,(.fix _,_)::ps,es,K=>yt σ (j+1) ps es K
 | j,(.tc _,_)::ps,es,K=>yt σ (j+1) ps es K
 | j,(.pG _,_)::ps,es,K=>yt σ (j+1) ps es K
 | j,(.jp _ m,t)::ps,i::es,K=>match σ.get i with
  | .box t' m' H v=>if H.isEmpty&&(decide (m'=m)||fits m' m)&&D4 σ.ay i j false then kh t' t v λv=>yt σ (j+1) ps es λvs=>K (v,vs) else none
  | _=>none
 | j,(.lD m,t)::ps,i::es,K=>match σ.get i with
  | .own t' m' H v | .box t' m' H v=>if H.isEmpty&&(decide (m'=m)||fits m' m)&&D4 σ.ay i j true then kh t' t v λv=>yt σ (j+1) ps es λvs=>K (v,vs) else none
  | _=>none
 | _,_,_,_=>none
def Ku (σ:St):ResultVar->Slot
 | .tmp i=>d7 σ (.tmp i)
 | .cell a _=>match σ.get a with
  | .box _ _ _ _=>.ref a [] (σ.lC a)
  | _=>.dead
def UA (σ:St) (ts:List Ty) (mv:Nat->Bool) (fin:St->((bu ts).den->Option R)->Option R) :
    (rs:List (Ty×Md))->List ResultVar->Nat->((bu (rs.map (·.1)++ts)).den->Option R)->Option R
 | [],[],_,K=>fin σ K
 | (t,m)::rs,x::xs,j,K=>nJ σ (Ku σ x) (mv j) t λm' v σ'=>
  if m'=m\/fits m' m=true then UA σ' ts mv fin rs xs (j+1) λvs=>K (v,vs) else none
 | _,_,_,_=>none
end
def O8 (ps:List (PM×Ty)) (rs:List (Ty×Md)) (es:List Nat) (D6:List ResultVar) (mv:Nat->Bool) (σ:St):Option (bu (rs.map (·.1)++lN ps)).den:=
 UA σ (lN ps) mv (λσ K=>yt σ 0 ps es K) rs D6 0 some
def mvs (fr:List Nat) (j:Nat):Bool:=!(fr.any (Nat.beq j))
def aca {R:Type} (fin:St->Option R):Ex->St->Option R
 | .normal,σ=>fin σ
 | .exit _,_=>none
def Gz (fn:Func):Code:=match fn.body with
 | some c=>c
 | none=>.refuse ""
abbrev PQ:Type:=List (PM×Ty)
abbrev RQ:Type:=List (Ty×Md)
abbrev TL:Type:=List (Nat×Ty)
abbrev GL:Type:=List (Nat×v6)
abbrev KT (R:Type):Type:=Ex->St->Option R
abbrev RT (R:Type):Type:=St->Option R
def Ox (E:Env) (k:Nat) (fn:Func) (ps:List (PM×Ty)) (rs:List (Ty×Md)) (es fr:List Nat) (v:(bu (ps.map (·.2))).den):Option (bu (rs.map (·.1)++lN ps)).den:=
 v_ E k (O8 ps rs es fn.results.toList (mvs fr)) (Gz fn) (D5 ps v fn.ntmps) (aca (O8 ps rs es fn.results.toList (mvs fr)))
def lift {R:Type} (f:Nat->Option R):Option R:=open Classical in if h:∃ out,∃ k,∀ k',k<=k'->f k'=some out then some h.choose else none
theorem ag {R:Type} {f:Nat->Option R} {out:R} {k:Nat} (h:∀ k',k<=k'->f k'=some out):lift f=some out:=by
 have hex:∃ out,∃ k,∀ k',k<=k'->f k'=some out:=⟨out,k,h⟩
 unfold lift;rw[dif_pos hex];obtain ⟨k2,h2⟩:=hex.choose_spec;have e1:=h (max k k2) (Nat.le_max_left _ _);grind
theorem WH {R:Type} {f:Nat->Option R} {out:R} (h:lift f=some out):∃ k,f k=some out:=by
 unfold lift at h;split at h
 ·rename_i hex;obtain ⟨k,hk⟩:=hex.choose_spec;injection h with h;exact ⟨k,by grind⟩
 ·cases h
abbrev i64:Ty:=.int .i64
abbrev u8:Ty:=.int .u8
def af (n:Int):Int:=IntKind.wrap .i64 n
end
end OT
set_option linter.unusedVariables false
set_option linter.unusedSimpArgs false
namespace OT
open Go
abbrev FP:=Nat->Nat->Nat
abbrev Cells:=Nat->Nat->Prop
def isAgg:Ty->Bool
 | .unit | .pair _ _ | .arr _ _=>true
 | _=>false
def c_ (t:Ty) (cs:List Value):Value:=if isAgg t then .agg cs.toArray else cs.headD undef
def ED (vz:List (Value×Value)):Value:=.tuple (vz.map λkv=>Value.tuple #[kv.1,kv.2]).toArray
def entriesOf (es:Array MapEntry):List (Value×Value):=es.toList.map λe=>(e.key,e.val)
def UB (u:Value):Option Value:=if u.oneCell' then some u else none
def ce (w:World) (b i:Nat):Option Value:=match w.heap[b]? with
 | some (.map es _)=>if i=0 then some (ED (entriesOf es)) else none
 | _=>(w.cell? ⟨b,i,none⟩).bind UB
theorem BQ {w w2:World} {b:Nat} (h:w2.heap[b]?=w.heap[b]?) (i:Nat):ce w2 b i=ce w b i:=by grind [ce,World.cell?]
theorem GA {u v:Value} (h:UB u=some v):v=u/\u.oneCell'=true:=by
 grind [UB]
theorem vN {w:World} {b i:Nat} {u:Value} (h:ce w b i=some u) (hu:u.oneCell'=true):w.cell? ⟨b,i,none⟩=some u:=by
 unfold ce at h;split at h
 ·split at h
  ·injection h with h;subst h;cases hu
  ·cases h
 ·cases hc:w.cell? ⟨b,i,none⟩ with
  | none=>grind
  | some v=>
   rw[hc] at h;have:=GA h;rw[this.1]
theorem Ig {w:World} {b i:Nat} {u:Value} (h:w.cell? ⟨b,i,none⟩=some u) (hu:u.oneCell'=true):ce w b i=some u:=by
 grind [World.cell?,ce,UB]
theorem Y9:∀ {a b:List (Value×Value)},ED a=ED b->a=b:=by
 have main:∀ (a b:List (Value×Value)),(a.map λkv=>Value.tuple #[kv.1,kv.2])=(b.map λkv=>Value.tuple #[kv.1,kv.2])->a=b:=by
  intro a
  induction a with
  | nil=>simp_all
  | cons x a ih=>
   intro b h;cases b <;> grind
 grind [ED]
theorem WI {w:World} {r:Nat} {vz:List (Value×Value)} (h:ce w r 0=some (ED vz)):∃ es clock,w.heap[r]?=some (.map es clock)/\entriesOf es=vz:=by
 unfold ce at h;split at h
 ·grind [Y9]
 ·cases hc:w.cell? ⟨r,0,none⟩ with
  | none=>grind
  | some v=>
   rw[hc] at h;have:=GA h;have h2:=this.2;rw[<-this.1] at h2;cases h2
theorem WJ {w:World} {r:Nat} {es:Array MapEntry} {clock:Nat} (h:w.heap[r]?=some (.map es clock)):ce w r 0=some (ED (entriesOf es)):=by
 grind [ce]
def Has (w:World) (b o:Nat) (L:List Value):Prop:=∀ j u,L[j]?=some u->ce w b (o+j)=some u
def Jr:Ty->Bool
 | .int .u8=>true
 | _=>false
def jj (w:World) (b:Nat) (n:Nat×Bool):Prop:=∃ c e fr,w.heap[b]?=some (.cells c e fr)/\c.size=n.1/\(∀ i,i < n.1->¬ (fr.1<=i/\i < fr.2))/\(n.2=false->¬ (fr.1<=n.1/\n.1 < fr.2))
def dt (b o n:Nat):FP:=λb' i=>if b'=b/\o<=i/\i < o+n then 1 else 0
def bf:Nat->(Nat->FP)->FP
 | 0,_=>λ_ _=>0
 | n+1,f=>λb i=>bf n f b i+f n b i
def gf (f:Nat->FP) (j:Nat) (g:FP):Nat->FP:=λi=>if i=j then g else f i
theorem yu {n:Nat} {f g:Nat->FP} (h:∀ j,j < n->f j=g j):bf n f=bf n g:=by
 induction n with
 | zero=>rfl
 | succ n ih=>
  funext b i;simp only[bf];rw[ih (λj hj=>h j Bys),h n Bys]
theorem uO {n:Nat} (f:Nat->FP) {j:Nat} (hj:j < n) (g:FP) (b i:Nat):bf n (gf f j g) b i+f j b i=bf n f b i+g b i:=by
 induction n with
 | zero=>omega
 | succ n ih=>
  simp only[bf];by_cases h:j=n
  ·subst h;have:bf j (gf f j g)=bf j f:=yu λk hk=>by grind [gf]
   rw[this];simp[gf];omega
  ·have:=ih Bys;have e:gf f j g n=f n:=by grind [gf]
   rw[e];omega
theorem O9 {n:Nat} (f:Nat->FP) {j:Nat} (hj:n<=j) (g:FP):bf n (gf f j g)=bf n f:=
 yu λk hk=>by grind [gf]
theorem dj {n:Nat} (f:Nat->FP) {j:Nat} (hj:j < n) (b i:Nat):f j b i<=bf n f b i:=by
 induction n <;> grind [bf]
theorem wi {n:Nat} (f:Nat->FP) {j k:Nat} (hj:j < n) (hk:k < n) (je:j≠k) (b i:Nat):f j b i+f k b i<=bf n f b i:=by
 have h1:=uO f hj (λ_ _=>0) b i;have h2:=dj (gf f j λ_ _=>0) hk b i;have e:gf f j (λ_ _=>0) k=f k:=by grind [gf]
 rw[e] at h2;grind
theorem nQ (n:Nat) (b i:Nat):bf n (λ_ _ _=>0) b i=0:=by
 induction n <;> grind [bf]
theorem wj (n m:Nat) (f:Nat->FP) (b i:Nat):bf (n+m) f b i=bf n f b i+bf m (λj=>f (n+j)) b i:=by
 induction m <;> grind [bf]
theorem Mg {n:Nat} {f g:Nat->FP} (b i:Nat) (h:∀ j,j < n->f j b i<=g j b i):bf n f b i<=bf n g b i:=by
 induction n <;> grind [bf]
theorem M5 (n:Nat) (f:Nat->FP) (k m:Nat) (h:k+m<=n) (b i:Nat):bf m (λj=>f (k+j)) b i<=bf n f b i:=by
 have e:n=k+(m+(n - k - m)):=by omega
 grind [wj]
theorem O_ {n:Nat} {f:Nat->FP} {b i:Nat} (h:1<=bf n f b i):∃ j,j < n/\1<=f j b i:=by
 induction n <;> grind [bf]
section
variable (P:Program) (w:World) (A:Cells)
def Ro:(t:Ty)->t.den->List Value->Prop
 | .int k,v,cs=>cs=[.int k (qM k v)]
 | .bool,v,cs=>cs=[.bool v]
 | .str,v,cs=>cs=[.string ⟨List.toArray v⟩]
 | .unit,_,cs=>cs=[]
 | .pair a b,v,cs=>Ro a v.1 (cs.take a.sz)/\Ro b v.2 (cs.drop a.sz)
 | .arr n e,v,cs=>e.flat=true/\List.length v=n/\cs.length=n*e.sz/\∀ (i:Nat) (x:e.den),v[i]?=some x->Ro e x ((cs.drop (i*e.sz)).take e.sz)
 | .aa e,v,cs=>∃ a cap,cs=[.slice a (List.length v) cap]/\List.length v<=cap/\(a=none->List.length v=0)/\∀ ad,a=some ad->(0 < cap->ad.spot=none) /\
   ∀ (i:Nat) (x:e.den),v[i]?=some x->∃ L:List Value,L.length=e.sz/\(∀ j u,L[j]?=some u->ce w ad.block (ad.off+i*e.sz+j)=some u/\A ad.block (ad.off+i*e.sz+j))/\Ro e x L
 | .ptr e,v,cs=>∃ ad,cs=[.pointer (some ad)]/\ad.spot=none /\
   ∃ L:List Value,L.length=e.sz/\(∀ j u,L[j]?=some u->ce w ad.block (ad.off+j)=some u/\A ad.block (ad.off+j))/\Ro e v L
 | .fn,v,cs=>∃ AT,cs=[.func (.func v.1) #[] AT]/\∃ fn,P.funcs[v.1]?=some fn /\
   ((fn.nfree=0/\AT=#[])\/(fn.nfree=1/\∃ ad:Addr,AT=#[.pointer (some ad)]/\ad.spot=none/\ce w ad.block ad.off=some (.int .i64 v.2)/\A ad.block ad.off))
 | .map k v,x,cs=>k.flat=true/\v.flat=true/\∃ (r:Nat) (vz:List (Value×Value)),cs=[.map (some r)]/\ce w r 0=some (ED vz)/\A r 0/\vz.length=List.length x /\
   ∀ (i:Nat) (y:k.den×v.den),x[i]?=some y->∃ (kc vc:List Value),vz[i]?=some (c_ k kc,c_ v vc)/\Ro k y.1 kc/\Ro v y.2 vc
def hole (H:List Path):Bool:=H.any (·.isEmpty)
def lk (i:Nat):Path->Option Path
 | .idx j::p=>if i=j then some p else none
 | _=>none
def an:(t:Ty)->Md->List Path->t.den->List Value->FP->Prop
 | .pair a b,m,H,v,cs,F=>hole H=false/\∃ F1 F2:FP,(∀ x i,F1 x i+F2 x i<=F x i) /\
   an a m.l (H.filterMap xt) v.1 (cs.take a.sz) F1/\an b m.r (H.filterMap xu) v.2 (cs.drop a.sz) F2
 | .aa e,m,H,v,cs,F=>
   if hole H then ∃ x:Value,cs=[x]/\x.oneCell'=true
   else if m.own then ∃ a cap,cs=[.slice a (List.length v) cap]/\List.length v<=cap/\cap<=maxLen/\(a=none->cap=0)/\∀ ad,a=some ad->ad.off=0/\ad.spot=none /\
    jj w ad.block (cap*e.sz,Jr e)/\∃ Fi:Nat->FP,(∀ x i,dt ad.block 0 (cap*e.sz) x i+bf (List.length v) Fi x i<=F x i) /\
    ∀ (i:Nat) (x:e.den),v[i]?=some x->∃ L:List Value,L.length=e.sz/\Has w ad.block (i*e.sz) L/\an e m.e (H.filterMap (lk i)) x L (Fi i)
   else H=[]/\m.e.ld=true/\Ro P w A (.aa e) v cs
 | .ptr e,m,H,v,cs,F=>
   if hole H then ∃ x:Value,cs=[x]/\x.oneCell'=true
   else if m.own then ∃ b,cs=[.pointer (some ⟨b,0,none⟩)]/\jj w b (e.sz,false)/\∃ (L:List Value) (F1:FP),L.length=e.sz/\Has w b 0 L /\
    (∀ x i,dt b 0 e.sz x i+F1 x i<=F x i)/\an e m.e [] v L F1
   else H=[]/\m.e.ld=true/\Ro P w A (.ptr e) v cs
 | .int k,_,_,v,cs,_=>Ro P w A (.int k) v cs
 | .bool,_,_,v,cs,_=>Ro P w A .bool v cs
 | .str,_,_,v,cs,_=>Ro P w A .str v cs
 | .unit,_,_,v,cs,_=>Ro P w A .unit v cs
 | .arr n e,_,H,v,cs,_=>H=[]/\Ro P w A (.arr n e) v cs
 | .fn,_,_,v,cs,_=>Ro P w A .fn v cs
 | .map k v,m,H,x,cs,F=>
   if hole H then ∃ x:Value,cs=[x]/\x.oneCell'=true
   else if m.own then k.flat=true/\v.flat=true/\∃ (r:Nat) (vz:List (Value×Value)),cs=[.map (some r)]/\ce w r 0=some (ED vz)/\1<=F r 0/\vz.length=List.length x /\
    ∀ (i:Nat) (y:k.den×v.den),x[i]?=some y->∃ (kc vc:List Value),vz[i]?=some (c_ k kc,c_ v vc)/\Ro P w A k y.1 kc/\Ro P w A v y.2 vc
   else H=[]/\m.e.ld=true/\Ro P w A (.map k v) x cs
end
theorem Ro.length {P:Program} {w:World} {A:Cells}:∀ (t:Ty) {v:t.den} {cs:List Value},Ro P w A t v cs->cs.length=t.sz:=by
 intro t
 induction t <;> grind [Ty.sz,Ro]
theorem an.length {P:Program} {w:World} {A:Cells}:∀ (t:Ty) {m:Md} {H:List Path} {v:t.den} {cs:List Value} {F:FP},an P w A t m H v cs F->cs.length=t.sz:=by
 intro t
 induction t <;> grind [Ty.sz,an,Ro.length]
structure Agr (w w':World) (S:Nat->Nat->Prop):Prop where
 cell:∀ b i,S b i->∀ u,ce w b i=some u->ce w' b i=some u
 x_:∀ b n,jj w b n->jj w' b n
theorem Ro.mono {P:Program} {w w':World} {A A':Cells} (hc:∀ b i,A b i->∀ u,ce w b i=some u->ce w' b i=some u) (hA:∀ b i,A b i->A' b i) :
  ∀ (t:Ty) {v:t.den} {cs:List Value},Ro P w A t v cs->Ro P w' A' t v cs:=by
 intro t
 induction t with
 | pair a b nL nw=>intro v cs h;exact ⟨nL h.1,nw h.2⟩
 | arr n e ih=>intro v cs h;exact ⟨h.1,h.2.1,h.2.2.1,λi x hx=>ih (h.2.2.2 i x hx)⟩
 | aa e ih=>
  rintro v cs ⟨a,cap,h1,h2,h3,h4⟩;refine ⟨a,cap,h1,h2,h3,λad lP=>⟨(h4 ad lP).1,λi x hx=>?_⟩⟩
  grind
 | ptr e ih=>
  rintro v cs ⟨ad,h1,h2,L,hl,hL,hr⟩;exact ⟨ad,h1,h2,L,hl,λj u hu=>⟨hc _ _ (hL j u hu).2 u (hL j u hu).1,hA _ _ (hL j u hu).2⟩,ih hr⟩
 | fn=>
  rintro v cs ⟨AT,h1,fn,h2,h3⟩;refine ⟨AT,h1,fn,h2,?_⟩
  grind
 | map k v ihk ihv=>
  rintro x cs ⟨h1,h2,r,vz,h3,h4,h5,h6,h7⟩;refine ⟨h1,h2,r,vz,h3,hc _ _ h5 _ h4,hA _ _ h5,h6,λi y hy=>?_⟩
  grind
 | _=>intro v cs h;exact h
theorem an.mono {P:Program} {w w':World} {A A':Cells} (hA:∀ b i,A b i->A' b i) (hc:∀ b i,A b i->∀ u,ce w b i=some u->ce w' b i=some u) (hb:∀ b n,jj w b n->jj w' b n) :
  ∀ (t:Ty) {m:Md} {H:List Path} {v:t.den} {cs:List Value} {F F':FP},an P w A t m H v cs F->(∀ b i,F b i<=F' b i)->(∀ b i,1<=F b i->∀ u,ce w b i=some u->ce w' b i=some u)->an P w' A' t m H v cs F':=by
 intro t
 induction t with
 | pair a b nL nw=>
  intro m H v cs F F' h hF BR;obtain ⟨h0,F1,F2,hs,h1,h2⟩:=h
  exact ⟨h0,F1,F2,λx i=>bI (hs x i) (hF x i),nL h1 (λ_ _=>aH _) (λb i hp=>BR b i (by grind)),
   nw h2 (λ_ _=>aH _) (λb i hp=>BR b i (by grind))⟩
 | aa e ih=>
  intro m H v cs F F' h hF BR;simp only[an] at h ⊢;split at h
  ·grind
  ·rename_i hh;rw[aL hh];split at h
   ·rename_i hm;rw[aG hm];obtain ⟨a,cap,h1,h2,h3,h4,h5⟩:=h;refine ⟨a,cap,h1,h2,h3,h4,λad lP=>?_⟩
    obtain ⟨g1,g2,g3,Fi,g4,g5⟩:=h5 ad lP;refine ⟨g1,g2,hb _ _ g3,Fi,λx i=>bI (g4 x i) (hF x i),λi x hx=>?_⟩
    obtain ⟨L,hl,hL,hr⟩:=g5 i x hx;have hi:i < List.length v:=(aM.1 hx).1;refine ⟨L,hl,λj u hu=>BR _ _ ?_ u (hL j u hu),ih hr (λ_ _=>aH _) (λb k hp=>BR b k ?_)⟩
    ·have:=g4 ad.block (i*e.sz+j);have hj:j < e.sz:=hl ▸ (aM.1 hu).1
     have:i*e.sz+j < cap*e.sz:=by
      have h1:(i+1)*e.sz<=cap*e.sz:=bC _ Bys;grind
     grind [dt]
    grind [dj]
   grind [Ro.mono]
 | ptr e ih=>
  intro m H v cs F F' h hF BR;simp only[an] at h ⊢;split at h
  ·grind
  ·rename_i hh;rw[aL hh];split at h
   ·rename_i hm;rw[aG hm];obtain ⟨b,h1,h2,L,F1,h3,h4,h5,h6⟩:=h;refine ⟨b,h1,hb _ _ h2,L,F1,h3,λj u hu=>BR _ _ ?_ u (h4 j u hu),λx i=>bI (h5 x i) (hF x i),ih h6 (λ_ _=>aH _) (λb' k hp=>BR b' k ?_)⟩
    all_goals grind [dt]
   grind [Ro.mono]
 | arr n e ih=>intro m H v cs F F' h hF BR;exact ⟨h.1,Ro.mono hc hA _ h.2⟩
 | map k v ihk ihv=>
  grind [an,Ro.mono]
 | _=>intro m H v cs F F' h hF BR;exact Ro.mono hc hA _ h
theorem an.le {P:Program} {w:World} {A:Cells} {t:Ty} {m:Md} {H:List Path} {v:t.den} {cs:List Value} {F F':FP} (h:an P w A t m H v cs F) (hF:∀ b i,F b i<=F' b i):an P w A t m H v cs F':=
 an.mono (λ_ _ h=>h) (λ_ _ _ _ h=>h) (λ_ _ h=>h) t h hF (λ_ _ _ _ h=>h)
theorem an.yw {P:Program} {w:World} {A A':Cells} (hA:∀ b i,A b i->A' b i) :
  ∀ (t:Ty) {m:Md} {v:t.den} {cs:List Value} {F:FP},an P w A t m [] v cs F->(∀ b i,1<=F b i->A' b i)->Ro P w A' t v cs:=by
 intro t
 induction t with
 | pair a b nL nw=>
  intro m v cs F h hF;obtain ⟨h0,F1,F2,hs,h1,h2⟩:=h;exact ⟨nL h1 (λb i hp=>hF b i (by grind)),nw h2 (λb i hp=>hF b i (by grind))⟩
 | aa e ih=>
  intro m v cs F h hF;simp only[an,hole,bX,aE,aR] at h;split at h
  ·obtain ⟨a,cap,h1,h2,h3,h4,h5⟩:=h;refine ⟨a,cap,h1,h2,λhn=>by grind,λad lP=>?_⟩
   obtain ⟨g1,g2,g3,Fi,g4,g5⟩:=h5 ad lP;refine ⟨λ_=>g2,λi x hx=>?_⟩
   obtain ⟨L,hl,hL,hr⟩:=g5 i x hx;have hi:i < List.length v:=(aM.1 hx).1;refine ⟨L,hl,λj u hu=>?_,ih hr λb k hp=>hF b k ?_⟩
   ·rw[g1,bZ];refine ⟨hL j u hu,hF _ _ ?_⟩
    have:=g4 ad.block (i*e.sz+j);have hj:j < e.sz:=hl ▸ (aM.1 hu).1
    have:i*e.sz+j < cap*e.sz:=by
     have h1:(i+1)*e.sz<=cap*e.sz:=bC _ Bys;grind
    grind [dt]
   grind [dj]
  grind [Ro.mono]
 | ptr e ih=>
  intro m v cs F h hF;simp only[an,hole,bX,aE,aR] at h;split at h
  ·obtain ⟨b,h1,h2,L,F1,h3,h4,h5,h6⟩:=h;refine ⟨_,h1,rfl,L,h3,λj u hu=>⟨h4 j u hu,hF _ _ ?_⟩,ih h6 λb' k hp=>hF _ _ ?_⟩
   all_goals grind [dt]
  grind [Ro.mono]
 | arr n e ih=>intro m v cs F h hF;exact Ro.mono (λ_ _ _ _ h=>h) hA _ h.2
 | map k v ihk ihv=>
  intro m x cs F h hF;simp only[an,hole,bX,aE,aR] at h;split at h
  ·obtain ⟨h1,h2,r,vz,h3,h4,h5,h6,h7⟩:=h;refine ⟨h1,h2,r,vz,h3,h4,hF _ _ h5,h6,λi y hy=>?_⟩
   grind [Ro.mono]
  grind [Ro.mono]
 | _=>intro m v cs F h hF;exact Ro.mono (λ_ _ _ _ h=>h) hA _ h
end OT
set_option linter.unusedVariables false
set_option linter.unusedSimpArgs false
namespace OT
open Go
theorem S5 {m:Md} (h:m.ld=true):m.l.ld=true:=by cases m <;> simp_all [Md.ld,Md.l]
theorem S6 {m:Md} (h:m.ld=true):m.r.ld=true:=by cases m <;> simp_all [Md.ld,Md.r]
theorem Mh {m:Md} (h:m.ld=true):m.e.ld=true:=by cases m <;> simp_all [Md.ld,Md.e]
theorem ya {m:Md} (h:m.ld=true):m.own=false:=by cases m <;> simp_all [Md.ld,Md.own]
theorem it (t:Ty):(ai t).ld=true:=by
 induction t <;> simp_all [ai,vT,Md.ld]
theorem acb {m m1:Md} (h:fits m m1=true):fits m.l m1.l=true:=by cases m <;> cases m1 <;> simp_all [fits,Md.l]
theorem acd {m m1:Md} (h:fits m m1=true):fits m.r m1.r=true:=by cases m <;> cases m1 <;> simp_all [fits,Md.r]
theorem WK {m m1:Md} (h:fits m m1=true):fits m.e m1.e=true:=by cases m <;> cases m1 <;> simp_all [fits,Md.e]
theorem Js {m m1:Md} (h:fits m m1=true):m1.own=true->m.own=true:=by
 intro h1;cases m <;> cases m1 <;> simp_all [fits,Md.own]
theorem Mi {m m1:Md} (h:fits m m1=true) (h1:m1.own=false):m1.e.ld=true\/∃ e,m1=.arr e:=by
 cases m <;> cases m1 <;> simp_all [fits,Md.own,Md.e,Md.ld]
theorem EE:∀ {m m1:Md},fits m m1=true->m.ld=true->m1.ld=true:=by
 intro m
 induction m with
 | leaf=>grind [fits]
 | pair a b nL nw=>
  intro m1 h hn;cases m1 <;> grind [fits,Md.ld]
 | arr e ih=>
  intro m1 h hn;cases m1 <;> grind [fits,Md.ld]
 | aa o e ih=>
  intro m1 h hn;cases m1 <;> grind [fits,Md.ld]
 | ptr o e ih=>
  intro m1 h hn;cases m1 <;> grind [fits,Md.ld]
section
variable {P:Program} {w:World} {A:Cells}
theorem Ro.rep:∀ (t:Ty) {m:Md} {v:t.den} {cs:List Value} (F:FP),m.ld=true->Ro P w A t v cs->an P w A t m [] v cs F:=by
 intro t
 induction t with
 | pair a b nL nw=>
  intro m v cs F hm h;exact ⟨rfl,λ_ _=>0,λ_ _=>0,λ_ _=>aW _,nL _ (S5 hm) h.1,nw _ (S6 hm) h.2⟩
 | aa e ih=>grind [an,hole,ya,Mh]
 | ptr e ih=>grind [an,hole,ya,Mh]
 | arr n e ih=>intro m v cs F hm h;exact ⟨rfl,h⟩
 | map k v=>grind [an,hole,ya,Mh]
 | _=>intro m v cs F hm h;exact h
theorem an.ro:∀ (t:Ty) {m:Md} {v:t.den} {cs:List Value} {F:FP},m.ld=true->an P w A t m [] v cs F->Ro P w A t v cs:=by
 intro t
 induction t with
 | pair a b nL nw=>
  intro m v cs F hm h;obtain ⟨_,F1,F2,_,h1,h2⟩:=h;exact ⟨nL (S5 hm) h1,nw (S6 hm) h2⟩
 | aa e ih=>grind [an,hole,ya]
 | ptr e ih=>grind [an,hole,ya]
 | arr n e ih=>intro m v cs F hm h;exact h.2
 | map k v=>grind [an,hole,ya]
 | _=>intro m v cs F hm h;exact h
theorem Ro.flat:∀ (t:Ty) {m:Md} {v:t.den} {cs:List Value} (F:FP),t.flat=true->Ro P w A t v cs->an P w A t m [] v cs F:=by
 intro t
 induction t with
 | pair a b nL nw=>
  intro m v cs F hm h;simp only[Ty.flat,aD] at hm;exact ⟨rfl,λ_ _=>0,λ_ _=>0,λ_ _=>aW _,nL _ hm.1 h.1,nw _ hm.2 h.2⟩
 | aa e ih=>grind [Ty.flat]
 | ptr e ih=>grind [Ty.flat]
 | arr n e ih=>intro m v cs F hm h;exact ⟨rfl,h⟩
 | map k v=>grind [Ty.flat]
 | _=>intro m v cs F hm h;exact h
theorem an.flat:∀ (t:Ty) {m:Md} {H:List Path} {v:t.den} {cs:List Value} {F:FP},t.flat=true->an P w A t m H v cs F->Ro P w A t v cs:=by
 intro t
 induction t with
 | pair a b nL nw=>
  intro m H v cs F hm h;simp only[Ty.flat,aD] at hm;obtain ⟨_,F1,F2,_,h1,h2⟩:=h;exact ⟨nL hm.1 h1,nw hm.2 h2⟩
 | aa e ih=>grind [Ty.flat]
 | ptr e ih=>grind [Ty.flat]
 | arr n e ih=>intro m H v cs F hm h;exact h.2
 | map k v=>grind [Ty.flat]
 | _=>intro m H v cs F hm h;exact h
theorem an.fits:∀ (t:Ty) {m m1:Md} {v:t.den} {cs:List Value} {F:FP},fits m m1=true->an P w A t m [] v cs F->(∀ b i,F b i<=1) ->
  ∃ F1:FP,(∀ b i,F1 b i<=F b i)/\∀ A':Cells,(∀ b i,A b i->A' b i)->(∀ b i,1<=F b i->F1 b i=0->A' b i)->an P w A' t m1 [] v cs F1:=by
 intro t
 induction t with
 | pair a b nL nw=>
  intro m m1 v cs F hf h hF;obtain ⟨_,Fa,Fb,hs,h1,h2⟩:=h;obtain ⟨G1,hG1,k1⟩:=nL (acb hf) h1 (λb i=>by grind);obtain ⟨G2,hG2,k2⟩:=nw (acd hf) h2 (λb i=>by grind);refine ⟨λb i=>G1 b i+G2 b i,λb i=>by grind,λA' hA oq=>⟨rfl,G1,G2,λ_ _=>aH _,k1 A' hA λb i hp hz=>?_,k2 A' hA λb i hp hz=>?_⟩⟩
  ·have:=hs b i;have:=hF b i;have:=hG2 b i
   exact oq b i Bys (by grind)
  ·have:=hs b i;have:=hF b i;have:=hG1 b i
   exact oq b i Bys (by grind)
 | aa e ih=>
  intro m m1 v cs F hf h hF;by_cases D7:m1.own=true
  ·have hm:=Js hf D7;simp only[an,hole,bX,aE,aR,hm,aK] at h;obtain ⟨a,cap,h1,h2,h3,h4,h5⟩:=h
   cases a with
   | none=>
    refine ⟨λ_ _=>0,λ_ _=>aW _,λA' hA oq=>?_⟩
    grind [an,hole]
   | some ad=>
    obtain ⟨g1,g2,g3,Fi,g4,g5⟩:=h5 ad rfl
    have each:∀ i,∃ Gi:FP,(∀ b k,Gi b k<=Fi i b k)/\∀ A':Cells,(∀ b i,A b i->A' b i)->(∀ b k,1<=Fi i b k->Gi b k=0->A' b k) ->
      ∀ x,v[i]?=some x->∃ L:List Value,L.length=e.sz/\Has w ad.block (i*e.sz) L/\an P w A' e m1.e (([]:List Path).filterMap (lk i)) x L Gi:=by
     intro i
     cases hx:(v:List e.den)[i]? with
     | none=>exact ⟨λ_ _=>0,λ_ _=>aW _,λA' _ _ x WL=>by cases WL⟩
     | some x=>
      obtain ⟨L,hl,hL,hr⟩:=g5 i x hx;have hi:i < List.length v:=(aM.1 hx).1;obtain ⟨G,hG,k⟩:=ih (WK hf) hr (λb k=>by have:=dj Fi hi b k;grind);exact ⟨G,hG,λA' hA oq x' WL=>by injection WL with WL;subst WL;exact ⟨L,hl,hL,k A' hA oq⟩⟩
    have ⟨Gi,hGi⟩:=fW each;refine ⟨λb k=>dt ad.block 0 (cap*e.sz) b k+bf (List.length v) Gi b k,λb k=>?_,λA' hA oq=>?_⟩
    ·have:=g4 b k;have:=Mg b k (f:=Gi) (g:=Fi) (n:=List.length v) λj _=>(hGi j).1 b k
     grind
    ·simp only[an,hole,bX,aE,aR,D7,aK];refine ⟨some ad,cap,h1,h2,h3,h4,λde UC=>?_⟩
     injection UC with UC;subst UC;refine ⟨g1,g2,g3,Gi,λ_ _=>aH _,λi x hx=>(hGi i).2 A' hA (λb k hp hz=>?_) x hx⟩
     have hi:i < List.length v:=(aM.1 hx).1;have h1:=g4 b k;have h2:=hF b k;have h3:=dj Fi hi b k
     refine oq b k Bys ?_;show dt ad.block 0 (cap*e.sz) b k+bf (List.length v) Gi b k=0
     have:bf (List.length v) Gi b k=0:=by
      rcases bM (bf (List.length v) Gi b k) with h0 | h0
      ·exact h0
      ·obtain ⟨j,hj,hp'⟩:=O_ h0;have:=(hGi j).1 b k;by_cases pc:j=i
       all_goals grind [wi]
     omega
  ·have Pa:m1.own=false:=by simpa using D7
   have rQ:m1.e.ld=true:=by
    rcases Mi hf Pa with h | ⟨e',rfl⟩
    ·exact h
    ·cases m <;> simp[OT.fits] at hf;simp only[an,hole,bX,aE,aR,Md.own] at h;exact EE hf h.2.1
   refine ⟨λ_ _=>0,λ_ _=>aW _,λA' hA oq=>?_⟩
   grind [an.yw,an]
 | ptr e ih=>
  intro m m1 v cs F hf h hF;by_cases D7:m1.own=true
  ·have hm:=Js hf D7;simp only[an,hole,bX,aE,aR,hm,aK] at h;obtain ⟨b,h1,h2,L,F1,h3,h4,h5,h6⟩:=h;obtain ⟨G,hG,k⟩:=ih (WK hf) h6 (λb' i=>by grind);refine ⟨λb' k=>dt b 0 e.sz b' k+G b' k,λb' k=>by grind,λA' hA oq=>?_⟩
   simp only[an,hole,bX,aE,aR,D7,aK];refine ⟨b,h1,h2,L,G,h3,h4,λ_ _=>aH _,k A' hA λb' i hp hz=>oq b' i ?_ ?_⟩
   all_goals grind
  ·have Pa:m1.own=false:=by simpa using D7
   have rQ:m1.e.ld=true:=by
    rcases Mi hf Pa with h | ⟨e',rfl⟩
    ·exact h
    ·cases m <;> simp[OT.fits] at hf;simp only[an,hole,bX,aE,aR,Md.own] at h;exact EE hf h.2.1
   refine ⟨λ_ _=>0,λ_ _=>aW _,λA' hA oq=>?_⟩
   grind [an.yw,an]
 | arr n e ih=>intro m m1 v cs F hf h hF;exact ⟨λ_ _=>0,λ_ _=>aW _,λA' hA oq=>⟨rfl,Ro.mono (λ_ _ _ _ h=>h) hA _ h.2⟩⟩
 | map k v ihk ihv=>
  intro m m1 x cs F hf h hF;by_cases D7:m1.own=true
  ·have hm:=Js hf D7;simp only[an,hole,bX,aE,aR,hm,aK] at h;obtain ⟨h1,h2,r,vz,h3,h4,h5,h6,h7⟩:=h;refine ⟨F,λ_ _=>aH _,λA' hA oq=>?_⟩
   grind [an,hole,Ro.mono]
  ·have Pa:m1.own=false:=by simpa using D7
   have rQ:m1.e.ld=true:=by
    rcases Mi hf Pa with h | ⟨e',rfl⟩
    ·exact h
    ·cases m <;> simp[OT.fits] at hf;simp only[an,hole,bX,aE,aR,Md.own] at h;exact EE hf h.2.1
   refine ⟨λ_ _=>0,λ_ _=>aW _,λA' hA oq=>?_⟩
   grind [an.yw,an]
 | _=>intro m m1 v cs F hf h hF;exact ⟨λ_ _=>0,λ_ _=>aW _,λA' hA oq=>Ro.mono (λ_ _ _ _ h=>h) hA _ h⟩
end
end OT
set_option linter.unusedVariables false
set_option linter.unusedSimpArgs false
namespace OT
open Go
def rd (w:World) (b o n:Nat):List Value:=(List.range n).map λj=>(ce w b (o+j)).getD undef
theorem Am (w:World) (b o n:Nat):(rd w b o n).length=n:=by simp[rd]
theorem fe {w:World} {b o:Nat} {L:List Value} {n:Nat} (h:Has w b o L) (hn:L.length=n):rd w b o n=L:=by
 subst hn;apply dT;intro j;unfold rd;rw[eM];by_cases hj:j < L.length
 ·rw[gR hj];have:=h j L[j] (aB hj);grind
 grind
structure Pl where
 t:Ty
 H:List Path
 cs:List Value
 ad:Option (Nat×Nat)
def iu (ad:Option (Nat×Nat)) (k:Nat):Option (Nat×Nat):=ad.map λx=>(x.1,x.2+k)
def bv (w:World):Path->Ty->List Path->List Value->Option (Nat×Nat)->Option Pl
 | [],t,H,cs,ad=>some ⟨t,H,cs,ad⟩
 | .fst::p,.pair a _,H,cs,ad=>if hole H then none else bv w p a (H.filterMap xt) (cs.take a.sz) ad
 | .snd::p,.pair a b,H,cs,ad=>if hole H then none else bv w p b (H.filterMap xu) (cs.drop a.sz) (iu ad a.sz)
 | .idx i::p,.aa e,H,cs,_=>if hole H then none else match cs with
  | [.slice (some a) n _]=>if i < n then bv w p e (H.filterMap (lk i)) (rd w a.block (a.off+i*e.sz) e.sz) (some (a.block,a.off+i*e.sz)) else none
  | _=>none
 | .rP i::p,.arr n e,H,cs,ad=>if H.isEmpty then (if i < n then bv w p e [] ((cs.drop (i*e.sz)).take e.sz) (iu ad (i*e.sz)) else none) else none
 | _,_,_,_,_=>none
def yx:Ty->Bool
 | .aa _ | .map _ _=>true
 | _=>false
def sZ (d:Nat) (full:Prop) (w:World) (t:Ty) (H:List Path) (cs:List Value) (ad:Option (Nat×Nat)) (w2:World) (H2:List Path) (du:List Value):Prop:=
 ∀ q pl,d_ q<=d->bv w q t H cs ad=some pl->∃ H' ca,bv w2 q t H2 du ad=some ⟨pl.t,H',ca,pl.ad⟩/\((d_ q < d/\yx pl.t=true)\/full->ca=pl.cs)
theorem GB {R:Type} {H:List Path} {i:Nat} {K:List Path->Option R} {r:R} (h:zt H i K=some r) :
  K (H.filterMap (lk i))=some r/\(∀ j,j≠i->H.filterMap (lk j)=[])/\hole H=false:=by
 unfold zt at h;split at h
 ·exact ⟨h,λ_ _=>rfl,rfl⟩
 ·rename_i j q;split at h
  ·rename_i qN;subst qN;refine ⟨by simpa [lk] using h,λj hj=>by simp[lk,hj],rfl⟩
  ·cases h
 ·cases h
theorem EF {R S:Type} {H:List Path} {i:Nat} {K:List Path->Option R} {r:R} (h:zt H i K=some r) (K2:List Path->Option S) :
  zt H i K2=K2 (H.filterMap (lk i)):=by
 unfold zt at h ⊢;grind [lk]
theorem vA (H:List Path):(H.map (.fst::·)).filterMap xt=H:=by
 induction H <;> simp_all [xt]
theorem vB (H:List Path):(H.map (.snd::·)).filterMap xu=H:=by
 induction H <;> simp_all [xu]
theorem wk (H:List Path):(H.map (.snd::·)).filterMap xt=[]:=by
 simp_all [xt]
theorem wl (H:List Path):(H.map (.fst::·)).filterMap xu=[]:=by
 simp_all [xu]
theorem Gb (i:Nat) (H:List Path):(H.map (.idx i::·)).filterMap (lk i)=H:=by
 induction H <;> simp_all [lk]
theorem BS {i j:Nat} (h:j≠i) (H:List Path):(H.map (.idx i::·)).filterMap (lk j)=[]:=by
 simp_all [lk]
theorem su (s:Step) (H:List Path):hole (H.map (s::·))=false:=by
 grind [hole]
theorem tM (H1 H2:List Path):hole (H1++H2)=(hole H1||hole H2):=by simp[hole]
theorem adh {w:World}:∀ (q:Path) (t:Ty) {H H2:List Path} {cs:List Value} {ad:Option (Nat×Nat)} {pl M6:Pl},bv w q t H cs ad=some pl->bv w q t H2 cs ad=some M6->M6.t=pl.t/\M6.cs=pl.cs/\M6.ad=pl.ad:=by
 intro q
 induction q with
 | nil=>grind [bv]
 | cons s q ih=>
  intro t H H2 cs ad pl M6 h h2
  cases t with
  | pair a b=>
   cases s <;> grind [bv]
  | aa e=>
   cases s with
   | idx i=>
    simp only[bv] at h h2;grind
   | _=>simp[bv] at h
  | arr n e=>
   cases s <;> grind [bv]
  | _=>grind [bv]
section
variable {P:Program}
theorem yc {w w2:World} {A:Cells} (hA:∀ b i,A b i->∀ u,ce w b i=some u->ce w2 b i=some u) :
  ∀ (q:Path) (t:Ty) {m:Md} {H:List Path} {v:t.den} {cs:List Value} {F:FP} {ad:Option (Nat×Nat)} {pl:Pl},an P w A t m H v cs F->(∀ b i,1<=F b i->∀ u,ce w b i=some u->ce w2 b i=some u) ->
  bv w q t H cs ad=some pl->bv w2 q t H cs ad=some pl:=by
 intro q
 induction q with
 | nil=>intro t m H v cs F ad pl _ _ h;exact h
 | cons s q ih=>
  intro t m H v cs F ad pl hr hF h
  cases t with
  | pair a b=>
   obtain ⟨h0,F1,F2,hs,h1,h2⟩:=hr;cases s <;> grind [bv]
  | aa e=>
   cases s with
   | fst=>simp[bv] at h
   | snd=>simp[bv] at h
   | rP i=>simp[bv] at h
   | idx i=>
    simp only[an] at hr;simp only[bv] at h ⊢;split at h
    ·cases h
    ·rename_i hh;rw[aL hh];rw[aL hh] at hr;split at hr
     ·obtain ⟨a,cap,rfl,h2,h3,h4,h5⟩:=hr
      cases a with
      | none=>cases h
      | some ig=>
       obtain ⟨g1,g2,g3,Fi,g4,g5⟩:=h5 ig rfl;simp only at h ⊢;split at h
       ·rename_i hi;rw[aG hi];obtain ⟨L,hl,hL,jb⟩:=g5 i _ (aB hi);have a7:(i+1)*e.sz<=cap*e.sz:=bC _ Bys;rw[dC] at a7
        have hL2:Has w2 ig.block (i*e.sz) L:=λj u hu=>by
         have hj:j < e.sz:=hl ▸ (aM.1 hu).1;refine hF _ _ ?_ u (hL j u hu);grind [dt]
        rw[g1,bZ,fe hL hl] at h;grind [fe,dj]
       ·cases h
     ·obtain ⟨rfl,rQ,a,cap,rfl,h2,h3,h4⟩:=hr
      cases a with
      | none=>cases h
      | some ig=>
       simp only at h ⊢;split at h
       ·rename_i hi;rw[aG hi];obtain ⟨L,hl,hL,jb⟩:=(h4 ig rfl).2 i _ (aB hi);rw[fe (λj u hu=>(hL j u hu).1) hl] at h;rw[fe (λj u hu=>hA _ _ (hL j u hu).2 u (hL j u hu).1) hl];exact ih e (Ro.rep e (λ_ _=>0) rQ jb) (λb k hp=>by simp at hp) h
       ·cases h
  | arr n e=>
   cases s with
   | fst=>simp[bv] at h
   | snd=>simp[bv] at h
   | idx i=>simp[bv] at h
   | rP i=>
    obtain ⟨rfl,hf,hl,hlen,hr⟩:=hr;simp only[bv,cQ,aK] at h ⊢;split at h
    ·rename_i hi;rw[aG hi];exact ih e (Ro.flat e (m:=.leaf) (λ_ _=>0) hf (hr i _ (aB (by grind)))) (λb k hp=>by simp at hp) h
    ·cases h
  | _=>grind [bv]
theorem WM {w:World} {A:Cells} {S:Nat->Nat->Prop} (hA:∀ b i,A b i->S b i) :
  ∀ (q:Path) (t:Ty) {m:Md} {H:List Path} {v:t.den} {cs:List Value} {F:FP} {ad:Option (Nat×Nat)} {pl:Pl},an P w A t m H v cs F->(∀ b i,1<=F b i->S b i) ->
  (∀ b o,ad=some (b,o)->∀ j,j < t.sz->S b (o+j))->bv w q t H cs ad=some pl->∀ b o,pl.ad=some (b,o)->∀ j,j < pl.t.sz->S b (o+j):=by
 intro q
 induction q with
 | nil=>grind [bv]
 | cons s q ih=>
  intro t m H v cs F ad pl hr hF lP h
  cases t with
  | pair a b=>
   obtain ⟨h0,F1,F2,hs,h1,h2⟩:=hr
   cases s with
   | fst=>grind [bv,Ty.sz]
   | snd=>
    simp only[bv,h0,aR] at h;refine ih b h2 (λb i hp=>hF b i (by grind)) (λb' o e j hj=>?_) h
    cases ad with
    | none=>cases e
    | some y=>
     simp only[iu,bV,aP,bO] at e;obtain ⟨rfl,rfl⟩:=e;grind [Ty.sz]
   | idx i=>simp[bv] at h
   | rP i=>simp[bv] at h
  | aa e=>
   cases s with
   | fst=>simp[bv] at h
   | snd=>simp[bv] at h
   | rP i=>simp[bv] at h
   | idx i=>
    simp only[an] at hr;simp only[bv] at h;split at h
    ·cases h
    ·rename_i hh;rw[aL hh] at hr;split at hr
     ·obtain ⟨a,cap,rfl,h2,h3,h4,h5⟩:=hr
      cases a with
      | none=>cases h
      | some ig=>
       obtain ⟨g1,g2,g3,Fi,g4,g5⟩:=h5 ig rfl;simp only at h;split at h
       ·rename_i hi;obtain ⟨L,hl,hL,jb⟩:=g5 i _ (aB hi);have a7:(i+1)*e.sz<=cap*e.sz:=bC _ Bys;rw[dC] at a7;rw[g1,bZ,fe hL hl] at h;grind [dj,dt]
       ·cases h
     ·obtain ⟨rfl,rQ,a,cap,rfl,h2,h3,h4⟩:=hr
      cases a with
      | none=>cases h
      | some ig=>
       simp only at h;split at h
       ·rename_i hi;obtain ⟨L,hl,hL,jb⟩:=(h4 ig rfl).2 i _ (aB hi);rw[fe (λj u hu=>(hL j u hu).1) hl] at h;refine ih e (Ro.rep e (λ_ _=>0) rQ jb) (λb k hp=>by simp at hp) (λb' o e' j hj=>?_) h;simp only[aP,bO] at e';obtain ⟨rfl,rfl⟩:=e';exact hA _ _ (hL j _ (aB Bys)).2
       ·cases h
  | arr n e=>
   cases s with
   | fst=>simp[bv] at h
   | snd=>simp[bv] at h
   | idx i=>simp[bv] at h
   | rP i=>
    obtain ⟨rfl,hf,hl,hlen,hr⟩:=hr;simp only[bv,cQ,aK] at h;split at h
    ·rename_i hi;refine ih e (Ro.flat e (m:=.leaf) (λ_ _=>0) hf (hr i _ (aB (by grind)))) (λb k hp=>by simp at hp) (λb' o e' j hj=>?_) h
     cases ad with
     | none=>cases e'
     | some y=>
      simp only[iu,bV,aP,bO] at e';obtain ⟨rfl,rfl⟩:=e';have a7:(i+1)*e.sz<=n*e.sz:=bC _ hi;rw[dC] at a7;have:=lP y.1 y.2 rfl (i*e.sz+j) (by grind [Ty.sz])
      rwa [cU]
    ·cases h
  | _=>grind [bv]
theorem S7 {w:World} {A:Cells} :
  ∀ (q:Path) (t:Ty) {m:Md} {H:List Path} {v:t.den} {cs:List Value} {F:FP} {ad:Option (Nat×Nat)} {pl:Pl},an P w A t m H v cs F ->
  (∀ b o,ad=some (b,o)->Has w b o cs)->bv w q t H cs ad=some pl->(∀ b o,pl.ad=some (b,o)->Has w b o pl.cs)/\∃ (m':Md) (v':pl.t.den) (F':FP),an P w A pl.t m' pl.H v' pl.cs F':=by
 intro q
 induction q with
 | nil=>grind [bv]
 | cons s q ih=>
  intro t m H v cs F ad pl hr lP h
  cases t with
  | pair a b=>
   obtain ⟨h0,F1,F2,hs,h1,h2⟩:=hr
   cases s with
   | fst=>
    simp only[bv,h0,aR] at h;exact ih a h1 (λb' o e j u hu=>lP b' o e j u (by grind)) h
   | snd=>
    simp only[bv,h0,aR] at h;refine ih b h2 (λb' o e j u hu=>?_) h
    cases ad with
    | none=>cases e
    | some y=>
     simp only[iu,bV,aP,bO] at e;obtain ⟨rfl,rfl⟩:=e;rw[bP] at hu;have:=lP y.1 y.2 rfl (a.sz+j) u hu
     rwa [cU]
   | idx i=>simp[bv] at h
   | rP i=>simp[bv] at h
  | aa e=>
   cases s with
   | fst=>simp[bv] at h
   | snd=>simp[bv] at h
   | rP i=>simp[bv] at h
   | idx i=>
    simp only[an] at hr;simp only[bv] at h;split at h
    ·cases h
    ·rename_i hh;rw[aL hh] at hr;split at hr
     ·obtain ⟨a,cap,rfl,h2,h3,h4,h5⟩:=hr
      cases a with
      | none=>cases h
      | some ig=>
       obtain ⟨g1,g2,g3,Fi,g4,g5⟩:=h5 ig rfl;simp only at h;split at h
       ·rename_i hi;obtain ⟨L,hl,hL,jb⟩:=g5 i _ (aB hi);grind [fe]
       ·cases h
     ·obtain ⟨rfl,rQ,a,cap,rfl,h2,h3,h4⟩:=hr
      cases a with
      | none=>cases h
      | some ig=>
       simp only at h;split at h
       ·rename_i hi;obtain ⟨L,hl,hL,jb⟩:=(h4 ig rfl).2 i _ (aB hi);rw[fe (λj u hu=>(hL j u hu).1) hl] at h;refine ih e (Ro.rep e (λ_ _=>0) rQ jb) (λb' o e'=>?_) h;simp only[aP,bO] at e';obtain ⟨rfl,rfl⟩:=e';exact λj u hu=>(hL j u hu).1
       ·cases h
  | arr n e=>
   cases s with
   | fst=>simp[bv] at h
   | snd=>simp[bv] at h
   | idx i=>simp[bv] at h
   | rP i=>
    obtain ⟨rfl,hf,hl,hlen,hr⟩:=hr;simp only[bv,cQ,aK] at h;split at h
    ·rename_i hi;refine ih e (Ro.flat e (m:=.leaf) (λ_ _=>0) hf (hr i _ (aB (by grind)))) (λb' o e' j u hu=>?_) h
     cases ad with
     | none=>cases e'
     | some y=>
      simp only[iu,bV,aP,bO] at e';obtain ⟨rfl,rfl⟩:=e';rw[bS] at hu;split at hu
      ·rw[bP] at hu;have:=lP y.1 y.2 rfl (i*e.sz+j) u hu
       rwa [cU]
      ·cases hu
    ·cases h
  | _=>grind [bv]
theorem C5 {w w2:World} {A A2:Cells} :
  ∀ (q:Path) (t:Ty) {m m2:Md} {H H2:List Path} {v v2:t.den} {cs du:List Value} {F F2:FP} {ad:Option (Nat×Nat)} {pl:Pl},
  an P w2 A2 t m2 H2 v2 du F2->(d_ q=0\/t.flat=true) ->
  bv w q t H cs ad=some pl->∃ H' ca,bv w2 q t H2 du ad=some ⟨pl.t,H',ca,pl.ad⟩/\(t.flat=true->yx pl.t=false):=by
 intro q
 induction q with
 | nil=>
  intro t m m2 H H2 v v2 cs du F F2 ad pl hr hq h;simp only[bv,aP] at h;subst h;exact ⟨_,_,rfl,λhf=>by cases t <;> simp_all [Ty.flat,yx]⟩
 | cons s q ih=>
  intro t m m2 H H2 v v2 cs du F F2 ad pl hr hq h
  cases t with
  | pair a b=>
   obtain ⟨h0,F1,F2,hs,h1,h2⟩:=hr;simp only[Ty.flat,aD] at hq ⊢
   cases s with
   | fst=>
    simp only[bv,h0,aR] at h ⊢;split at h
    ·cases h
    ·obtain ⟨H',ca,h3,h4⟩:=ih a (v:=v.1) (m:=.leaf) (F:=F) h1 (hq.imp (λh=>by simpa [d_] using h) (·.1)) h;grind
   | snd=>
    simp only[bv,h0,aR] at h ⊢;split at h
    ·cases h
    ·obtain ⟨H',ca,h3,h4⟩:=ih b (v:=v.2) (m:=.leaf) (F:=F) h2 (hq.imp (λh=>by simpa [d_] using h) (·.2)) h;grind
   | idx i=>simp[bv] at h
   | rP i=>simp[bv] at h
  | aa e=>
   cases s <;> grind [bv,d_,Ty.flat]
  | arr n e=>
   cases s with
   | fst=>simp[bv] at h
   | snd=>simp[bv] at h
   | idx i=>simp[bv] at h
   | rP i=>
    obtain ⟨rfl,hf,hl,hlen,hr⟩:=hr;simp only[bv,cQ,aK] at h ⊢;split at h
    ·split at h
     ·rename_i hi;rw[aG hi];obtain ⟨H',ca,h3,h4⟩:=ih e (v:=e.zero) (m:=.leaf) (F:=F) (Ro.flat e (m:=.leaf) (λ_ _=>0) hf (hr i _ (aB (by grind)))) (.inr hf) h;grind
     ·cases h
    ·cases h
  | _=>grind [bv]
theorem sZ.zero {w w2:World} {A A2:Cells} {t:Ty} {m2:Md} {H H2:List Path} {v2:t.den} {cs du:List Value} {F2:FP} (ad:Option (Nat×Nat)) (h:an P w2 A2 t m2 H2 v2 du F2):sZ 0 False w t H cs ad w2 H2 du:=by
 intro q pl hq hp;obtain ⟨H',ca,h1,_⟩:=C5 (A:=A) (m:=m2) (v:=v2) (F:=F2) q t h (.inl Bys) hp;grind
theorem sZ.flat {w w2:World} {A A2:Cells} {t:Ty} {m2:Md} {H H2:List Path} {v2:t.den} {cs du:List Value} {F2:FP} (ad:Option (Nat×Nat)) (h:an P w2 A2 t m2 H2 v2 du F2) (hf:t.flat=true) (d:Nat):sZ d False w t H cs ad w2 H2 du:=by
 intro q pl hq hp;obtain ⟨H',ca,h1,h2⟩:=C5 (A:=A) (m:=m2) (v:=v2) (F:=F2) q t h (.inr hf) hp;grind
theorem sZ.same {w w2:World} {A:Cells} {t:Ty} {m:Md} {H:List Path} {v:t.den} {cs:List Value} {F:FP} (ad:Option (Nat×Nat)) (h:an P w A t m H v cs F)
  (hA:∀ b i,A b i->∀ u,ce w b i=some u->ce w2 b i=some u) (hF:∀ b i,1<=F b i->∀ u,ce w b i=some u->ce w2 b i=some u) (d:Nat) (full:Prop):sZ d full w t H cs ad w2 H cs:=by
 intro q pl hq hp;exact ⟨pl.H,pl.cs,yc hA q t h hF hp,λ_=>rfl⟩
end
end OT
set_option linter.unusedVariables false
set_option linter.unusedSimpArgs false
namespace OT
open Go
def BT (cs:List Value) (off:Nat) (n:Nat) (c2:List Value):List Value:=cs.take off++c2++cs.drop (off+n)
def lT (loc:Option Nat) (cs:List Value) (n:Nat) (c2:List Value):List Value:=match loc with
 | some off=>BT cs off n c2
 | none=>cs
theorem wS {cs c2:List Value} {off n:Nat} (h:off+n<=cs.length) (h2:c2.length=n):(BT cs off n c2).length=cs.length:=by
 simp[BT];omega
theorem BU {cs:List Value} {off n:Nat} (h:off+n<=cs.length):BT cs off n ((cs.drop off).take n)=cs:=by
 unfold BT;rw[bT]
 have:(cs.drop off).take n++cs.drop (off+n)=cs.drop off:=by
  rw[<-dD];exact cE n (cs.drop off)
 rw[this];exact cE off cs
theorem D8 {cs c2:List Value} {off n:Nat} (h:off+n<=cs.length) (h2:c2.length=n) (j:Nat):(BT cs off n c2)[j]?=if off<=j/\j < off+n then c2[j - off]? else cs[j]?:=by
 unfold BT;rw[eY,eY];simp only[bK,cO];have h1:min off cs.length=off:=by omega
 rw[h1,h2];split
 ·split
  ·rw[aL Bys,bS,aG Bys]
  ·rw[aG Bys]
 ·rw[aL Bys,bP];congr 1;omega
theorem abb {cs c2:List Value} {k n' off n:Nat} (h:off+n<=n') (h':k+n'<=cs.length) (h2:c2.length=n) :
  BT cs k n' (BT ((cs.drop k).take n') off n c2)=BT cs (k+off) n c2:=by
 have hl:((cs.drop k).take n').length=n':=by simp;omega
 apply dT;intro j;rw[D8 h' (by rw[wS Bys h2,hl]),D8 Bys h2,D8 Bys h2];by_cases h3:k<=j/\j < k+n'
 ·rw[aG h3];by_cases h4:off<=j - k/\j - k < off+n
  ·rw[aG h4,aG Bys];congr 1;omega
  ·rw[aL h4,aL Bys,bS,aG Bys,bP];congr 1;omega
 ·rw[aL h3,aL Bys]
theorem S8 {w2:World} {b o:Nat} {cs c2:List Value} {off n:Nat} (h:off+n<=cs.length) (h2:c2.length=n)
  (hc:Has w2 b (o+off) c2) (hk:∀ j u,cs[j]?=some u->¬ (off<=j/\j < off+n)->ce w2 b (o+j)=some u):Has w2 b o (BT cs off n c2):=by
 intro j u hu;rw[D8 h h2] at hu;split at hu
 ·have:=hc _ u hu;rw[show o+off+(j - off)=o+j by omega] at this;exact this
 ·exact hk j u hu (by assumption)
section
variable {P:Program} {R:Type}
theorem ace {w:World} {A:Cells} {r:R}:∀ (p:Path) (t:Ty) {m:Md} {H:List Path} {v:t.den} {cs:List Value} {F:FP} {ad:Option (Nat×Nat)} {K:(t':Ty)->Md->List Path->t'.den->Option R},
  o3 p t m H v K=some r->an P w A t m H v cs F->(∀ b o,ad=some (b,o)->Has w b o cs) ->
  ∃ (t':Ty) (m':Md) (H':List Path) (v':t'.den) (ca:List Value) (de:Option (Nat×Nat)) (F':FP),K t' m' H' v'=some r/\(∀ {S:Type} (K0:(t:Ty)->Md->List Path->t.den->Option S),o3 p t m H v K0=K0 t' m' H' v')/\bv w p t H cs ad=some ⟨t',H',ca,de⟩/\an P w A t' m' H' v' ca F' /\
   (∀ b i,F' b i<=F b i)/\(∀ b o,de=some (b,o)->Has w b o ca)/\(ad.isSome=true->de.isSome=true):=by
 intro p
 induction p with
 | nil=>intro t m H v cs F ad K h hr lP;exact ⟨t,m,H,v,cs,ad,F,h,λ_=>rfl,rfl,hr,λ_ _=>aH _,lP,λh=>h⟩
 | cons s p ih=>
  intro t m H v cs F ad K h hr lP
  cases t with
  | pair a b=>
   obtain ⟨h0,F1,F2,hs,h1,h2⟩:=hr;have hle:=an.length a h1;have Pb:=an.length b h2;simp only[cO,bU] at hle Pb
   cases s with
   | fst=>
    have IF:H.any (·.isEmpty)=false:=h0;simp only[o3,IF] at h
    obtain ⟨t',m',H',v',ca,de,F',k1,kn,k2,k3,k4,k5,k6⟩:=ih a h h1 (ad:=ad) (λb o hb j u hu=>by
     rw[bS] at hu;split at hu;exact lP b o hb j u hu;cases hu)
    exact ⟨t',m',H',v',ca,de,F',k1,λK0=>by simp only[o3,IF];exact kn K0,by simp only[bv,h0];exact k2,k3,λb i=>by have:=hs b i;have:=k4 b i;omega,k5,k6⟩
   | snd=>
    have IF:H.any (·.isEmpty)=false:=h0;simp only[o3,IF] at h
    obtain ⟨t',m',H',v',ca,de,F',k1,kn,k2,k3,k4,k5,k6⟩:=ih b h h2 (ad:=iu ad a.sz) (λb' o hb j u hu=>by
     cases ad with
     | none=>cases hb
     | some x=>
      simp only[iu,bV,aP,bO] at hb;obtain ⟨rfl,rfl⟩:=hb;rw[bP] at hu;have:=lP x.1 x.2 rfl _ u hu
      rwa [cU])
    exact ⟨t',m',H',v',ca,de,F',k1,λK0=>by simp only[o3,IF];exact kn K0,by simp only[bv,h0];exact k2,k3,λb i=>by have:=hs b i;have:=k4 b i;omega,k5,λh=>k6 (by cases ad <;> simp_all [iu])⟩
   | idx i=>simp[o3] at h
   | rP i=>simp[o3] at h
  | aa e=>
   cases s with
   | fst=>simp[o3] at h
   | snd=>simp[o3] at h
   | rP i=>simp[o3] at h
   | idx i=>
    simp only[o3] at h;obtain ⟨h1,h2,h3⟩:=GB h
    cases hx:(v:List e.den)[i]? with
    | none=>rw[hx] at h1;cases h1
    | some x=>
     rw[hx] at h1;simp only[aA] at h1;have hi:i < List.length v:=(aM.1 hx).1;simp only[an,h3,aE,aR] at hr;split at hr
     ·obtain ⟨a,cap,rfl,g2,g3,g4,g5⟩:=hr
      cases a with
      | none=>have:=g4 rfl;omega
      | some ig=>
       obtain ⟨q1,q2,q3,Fi,q4,q5⟩:=g5 ig rfl;obtain ⟨L,hl,hL,jb⟩:=q5 i x hx
       obtain ⟨t',m',H',v',ca,de,F',k1,kn,k2,k3,k4,k5,k6⟩:=ih e h1 jb (ad:=some (ig.block,i*e.sz)) (λb o hb=>by
        simp only[aP,bO] at hb;obtain ⟨rfl,rfl⟩:=hb;exact hL)
       refine ⟨t',m',H',v',ca,de,F',k1,λK0=>by simp only[o3];rw[EF h,hx];exact kn K0,?_,k3,λb k=>?_,k5,λ_=>k6 rfl⟩
       ·simp only[bv,h3,aE,aR,hi,aK,q1,bZ,fe hL hl];exact k2
       ·have:=k4 b k;have:=q4 b k;have:=dj Fi hi b k;omega
     ·obtain ⟨rfl,rQ,a,cap,rfl,g2,g3,g4⟩:=hr
      cases a with
      | none=>have:=g3 rfl;omega
      | some ig=>
       obtain ⟨L,hl,hL,jb⟩:=(g4 ig rfl).2 i x hx;have hL':Has w ig.block (ig.off+i*e.sz) L:=λj u hu=>(hL j u hu).1
       obtain ⟨t',m',H',v',ca,de,F',k1,kn,k2,k3,k4,k5,k6⟩:=ih e h1 (Ro.rep e (λ_ _=>0) rQ jb) (ad:=some (ig.block,ig.off+i*e.sz)) (λb o hb=>by
        simp only[aP,bO] at hb;obtain ⟨rfl,rfl⟩:=hb;exact hL')
       refine ⟨t',m',H',v',ca,de,F',k1,λK0=>by simp only[o3];rw[EF h,hx];exact kn K0,?_,k3,λb k=>?_,k5,λ_=>k6 rfl⟩
       ·simp only[bv,h3,aE,aR,hi,aK,fe hL' hl];exact k2
       ·have:=k4 b k;omega
  | arr n e=>
   cases s with
   | fst=>simp[o3] at h
   | snd=>simp[o3] at h
   | idx i=>simp[o3] at h
   | rP i=>
    obtain ⟨rfl,hf,hl,hlen,hr⟩:=hr;simp only[o3,cQ,aK] at h
    cases hx:(v:List e.den)[i]? with
    | none=>rw[hx] at h;cases h
    | some x=>
     rw[hx] at h;simp only[aA] at h;have hi:i < n:=hl ▸ (aM.1 hx).1
     obtain ⟨t',m',H',v',ca,de,F',k1,kn,k2,k3,k4,k5,k6⟩:=ih e h (Ro.flat e (λ_ _=>0) hf (hr i x hx)) (ad:=iu ad (i*e.sz)) (λb' o hb j u hu=>by
      cases ad with
      | none=>cases hb
      | some y=>
       simp only[iu,bV,aP,bO] at hb;obtain ⟨rfl,rfl⟩:=hb;rw[bS] at hu;split at hu
       ·rw[bP] at hu;have:=lP y.1 y.2 rfl _ u hu
        rwa [cU]
       ·cases hu)
     exact ⟨t',m',H',v',ca,de,F',k1,λK0=>by simp only[o3,cQ,aK,hx,aA];exact kn K0,by simp only[bv,cQ,aK,hi];exact k2,k3,λb k=>by have:=k4 b k;omega,k5,λh=>k6 (by cases ad <;> simp_all [iu])⟩
  | _=>cases s <;> simp[o3] at h
structure adi (P:Program) (w:World) (A:Cells) {R:Type} (r:R) (p:Path) (t:Ty) (m:Md) (H:List Path) (v:t.den) (cs:List Value) (F:FP) (ad:Option (Nat×Nat))
  (f:(t':Ty)->Md->List Path->t'.den->(Md->List Path->t'.den->Option R)->Option R) (K:Md->List Path->t.den->Option R)
  (t':Ty) (m':Md) (H':List Path) (v':t'.den) (ca:List Value) (de:Option (Nat×Nat)) (F' G:FP) (kk:Md->List Path->t'.den->Option R) (loc:Option Nat):Prop where
 run:f t' m' H' v' kk=some r
 WN:∀ {S:Type} (K0:(t':Ty)->Md->List Path->t'.den->Option S),o3 p t m H v K0=K0 t' m' H' v'
 place:bv w p t H cs ad=some ⟨t',H',ca,de⟩
 rep:an P w A t' m' H' v' ca F'
 sum:∀ b i,F' b i+G b i<=F b i
 has:∀ b o,de=some (b,o)->Has w b o ca
 vC:∀ off,loc=some off->off+t'.sz<=t.sz/\ca=(cs.drop off).take t'.sz/\de=iu ad off
 UD:1<=d_ p->loc=none
 out:loc=none->∃ b o,de=some (b,o)/\∀ j,j < t'.sz->1<=G b (o+j)/\w.frozen? ⟨b,o+j,none⟩=false
 back:∀ m2 H2 (v2:t'.den),kk m2 H2 v2=some r->∀ (w2:World) (A2:Cells) (du:List Value) (F2:FP),
  (∀ b n,jj w b n->jj w2 b n)->(∀ b i,A b i->A2 b i)->(∀ b i,A b i->∀ u,ce w b i=some u->ce w2 b i=some u) ->
  (∀ b i,1<=G b i->(∀ o,de=some (b,o)->¬ (o<=i/\i < o+t'.sz))->∀ u,ce w b i=some u->ce w2 b i=some u) ->
  (∀ b o,de=some (b,o)->Has w2 b o du)->an P w2 A2 t' m2 H2 v2 du F2->(∀ b i,F2 b i+G b i<=1) ->
  ∃ m3 H3 v3 F3,K m3 H3 v3=some r/\(∀ b i,F3 b i<=F2 b i+G b i) /\
   (∀ A3:Cells,(∀ b i,A2 b i->A3 b i)->(∀ b i,1<=F2 b i+G b i->F3 b i=0->A3 b i)->an P w2 A3 t m3 H3 v3 (lT loc cs t'.sz du) F3) /\
   (∀ d full,sZ d full w t' H' ca de w2 H2 du->sZ (d+d_ p) full w t H cs ad w2 H3 (lT loc cs t'.sz du))
theorem jj.frozen {w:World} {b:Nat} {n:Nat×Bool} (h:jj w b n) {i:Nat} (hi:i < n.1):w.frozen? ⟨b,i,none⟩=false:=by
 obtain ⟨c,e,fr,h1,h2,h3,_⟩:=h;obtain ⟨lo,sS⟩:=fr;have:=h3 i hi;simp only[World.frozen?,h1];simp only[Bool.and_eq_false_iff,dW];simp only at this;omega
theorem acf {w:World} {A:Cells} {r:R}:∀ (p:Path) (t:Ty) {m:Md} {H:List Path} {v:t.den} {cs:List Value} {F:FP} {ad:Option (Nat×Nat)}
  {f:(t':Ty)->Md->List Path->t'.den->(Md->List Path->t'.den->Option R)->Option R} {K:Md->List Path->t.den->Option R},
  st p t m H v f K=some r->an P w A t m H v cs F->(∀ b i,F b i<=1)->(∀ b o,ad=some (b,o)->Has w b o cs)->(∀ b o,ad=some (b,o)->∀ j,j < t.sz->F b (o+j)=0) ->
  ∃ t' m' H' v' ca de F' G kk loc,adi P w A r p t m H v cs F ad f K t' m' H' v' ca de F' G kk loc:=by
 intro p
 induction p with
 | nil=>
  intro t m H v cs F ad f K h hr hF lP zw;have hlen:=an.length t hr;refine ⟨t,m,H,v,cs,ad,F,λ_ _=>0,K,some 0,h,λ_=>rfl,rfl,hr,λ_ _=>by simp,lP,?_,(λh=>by simp[d_] at h),(λh=>by cases h),?_⟩
  ·intro off ho;injection ho with ho;subst ho;refine ⟨by omega,?_,?_⟩
   ·rw[eK,<- hlen,eS]
   ·cases ad <;> simp[iu]
  ·intro m2 H2 v2 hk w2 A2 du F2 hb hA um hG EG wm hs;have An:=an.length t wm
   have aec:lT (some 0) cs t.sz du=du:=by
    simp[lT,BT,fZ (show cs.length<=t.sz by omega)]
   rw[aec];refine ⟨m2,H2,v2,F2,hk,λ_ _=>by simp,λA3 sv _=>an.mono sv (λ_ _ _ _ h=>h) (λ_ _ h=>h) t wm (λ_ _=>aH _) (λ_ _ _ _ h=>h),λd full hd=>hd⟩
 | cons s p ih=>
  intro t m H v cs F ad f K h hr hF lP zw
  cases t with
  | pair a b=>
   obtain ⟨h0,F1,F2,hs,h1,h2⟩:=hr;have hle:=an.length a h1;have Pb:=an.length b h2;simp only[cO,bU] at hle Pb;have IF:H.any (·.isEmpty)=false:=h0
   have adj:∀ b o,ad=some (b,o)->Has w b o (cs.take a.sz):=λb o hb j u hu=>by
    rw[bS] at hu;split at hu;exact lP b o hb j u hu;cases hu
   have adk:∀ b' o,iu ad a.sz=some (b',o)->Has w b' o (cs.drop a.sz):=λb' o hb j u hu=>by
    cases ad with
    | none=>cases hb
    | some x=>
     simp only[iu,bV,aP,bO] at hb;obtain ⟨rfl,rfl⟩:=hb;rw[bP] at hu;have:=lP x.1 x.2 rfl _ u hu
     rwa [cU]
   cases s with
   | fst=>
    simp only[st,IF] at h
    obtain ⟨t',m',H',v',ca,de,F',G,kk,loc,M⟩:=ih a h h1 (λb i=>by have:=hs b i;have:=hF b i;omega) adj (λb' o hb j hj=>by
     have:=zw b' o hb j (by simp only[Ty.sz];omega);have:=hs b' (o+j);omega)
    refine ⟨t',m',H',v',ca,de,F',λb i=>G b i+F2 b i,kk,loc,M.run,λK0=>by simp only[o3,IF];exact M.WN K0,by simp only[bv,h0];exact M.place,M.rep,λb i=>by have:=hs b i;have:=M.sum b i;omega,M.has,?_,(λh=>M.UD (by simpa [d_] using h)),?_,?_⟩
    ·intro off ho;obtain ⟨q1,q2,q3⟩:=M.vC off ho;refine ⟨by simp only[Ty.sz];omega,?_,q3⟩
     rw[q2,fA,fB];congr 1;omega
    ·intro ho;obtain ⟨b',o,q1,q2⟩:=M.out ho;exact ⟨b',o,q1,λj hj=>⟨by have:=(q2 j hj).1;omega,(q2 j hj).2⟩⟩
    ·intro m2 H2 v2 hk w2 A2 du M7 hb hA um hG EG wm q_;obtain ⟨m3,H3,v3,F3,k1,k2,k3,k4⟩:=M.back m2 H2 v2 hk w2 A2 du M7 hb hA um (λb' i hp hn=>hG b' i Bys hn) EG wm (λb' i=>by have:=q_ b' i;omega);have An:=an.length t' wm
     have pA:lT loc cs t'.sz du=lT loc (cs.take a.sz) t'.sz du++cs.drop a.sz:=by
      cases loc with
      | none=>simp[lT]
      | some off=>
       have:=(M.vC off rfl).1;simp only[lT,BT];rw[fB,show min off a.sz=off by omega,bT,bT,bT];congr 2;rw[fA];have e:cs.drop a.sz=(cs.drop (off+t'.sz)).drop (a.sz - (off+t'.sz)):=by rw[dD];congr 1;omega
       rw[e,cE]
     have xk:(lT loc (cs.take a.sz) t'.sz du).length=a.sz:=by
      cases loc with
      | none=>simp[lT];omega
      | some off=>have:=(M.vC off rfl).1;simp only[lT];rw[wS (by simp;omega) An];simp;omega
     have Bh:∀ d full,sZ d full w t' H' ca de w2 H2 du->full->lT loc cs t'.sz du=cs:=λd full hd yy=>by
      obtain ⟨H5,c5,e1,e2⟩:=hd [] ⟨t',H',ca,de⟩ (aW _) rfl;simp only[bv,aP,Pl.mk.injEq] at e1;have e3:du=ca:=e1.2.2.1.trans (e2 (.inr yy))
      cases loc with
      | none=>rfl
      | some off=>
       have:=M.vC off rfl;rw[e3,this.2.1,fA,fB,show min t'.sz (a.sz - off)=t'.sz by omega];exact BU Bys
     have rt:(lT loc cs t'.sz du).take a.sz=lT loc (cs.take a.sz) t'.sz du:=by rw[pA];exact iR xk
     have Kv:(lT loc cs t'.sz du).drop a.sz=cs.drop a.sz:=by rw[pA];exact iS xk
     have M8:∀ b' i,1<=F2 b' i->∀ u,ce w b' i=some u->ce w2 b' i=some u:=λb' i hp u hu=>by
      refine hG b' i Bys (λo mW BV=>?_) u hu;have hsb:=hs b' i;have hFb:=hF b' i
      cases loc with
      | none=>
       obtain ⟨b0,o0,q1,q2⟩:=M.out rfl;rw[q1] at mW;simp only[aP,bO] at mW;obtain ⟨rfl,rfl⟩:=mW;have:=(q2 (i - o0) Bys).1;rw[show o0+(i - o0)=i by omega] at this;have:=M.sum b0 i;omega
      | some off=>
       obtain ⟨q1,q2,q3⟩:=M.vC off rfl
       cases ad with
       | none=>rw[q3] at mW;cases mW
       | some x=>
        rw[q3] at mW;simp only[iu,bV,aP,bO] at mW;obtain ⟨rfl,rfl⟩:=mW;have:=zw x.1 x.2 rfl (i - x.2) (by simp only[Ty.sz];omega);rw[show x.2+(i - x.2)=i by omega] at this;omega
     refine ⟨_,_,_,λb' i=>F3 b' i+F2 b' i,k1,λb' i=>by have:=k2 b' i;show F3 b' i+F2 b' i<=_;omega,λA3 sv oq=>?_,λd full hd=>?_⟩
     ·refine ⟨by rw[tM,su,su];rfl,F3,F2,λ_ _=>aH _,?_,?_⟩
      ·rw[rt,cS,vA,wk,cV];refine k3 A3 sv λb' i hp hz=>oq b' i Bys ?_;have:=q_ b' i;show F3 b' i+F2 b' i=0;omega
      ·rw[Kv,cS,wl,vB,cK];exact an.mono (λb' i ha=>sv b' i (hA b' i ha)) um hb b h2 (λ_ _=>aH _) M8
     ·intro q pl hq hp
      cases q with
      | nil=>
       simp only[bv,aP] at hp;subst hp;refine ⟨_,_,rfl,λh=>?_⟩
       rcases h with ⟨_,hs⟩ | yy
       ·simp[yx] at hs
       ·exact Bh d full hd yy
      | cons s q=>
       cases s with
       | fst=>
        simp only[bv,h0,aE,aR] at hp;obtain ⟨H4,cs4,e1,e2⟩:=k4 d full hd q pl (by simpa [d_] using hq) hp;refine ⟨H4,cs4,?_,λun=>e2 (by simpa [d_] using un)⟩
        simp only[bv,tM,su,gW,aE,aR];rw[rt,cS,vA,wk,cV];exact e1
       | snd=>
        simp only[bv,h0,aE,aR] at hp;refine ⟨pl.H,pl.cs,?_,λ_=>rfl⟩
        simp only[bv,tM,su,gW,aE,aR];rw[Kv,cS,wl,vB,cK];exact yc um q b h2 M8 hp
       | idx i=>simp[bv] at hp
       | rP i=>simp[bv] at hp
   | snd=>
    simp only[st,IF] at h
    obtain ⟨t',m',H',v',ca,de,F',G,kk,loc,M⟩:=ih b h h2 (λb i=>by have:=hs b i;have:=hF b i;omega) adk (λb' o hb j hj=>by
     cases ad with
     | none=>cases hb
     | some x=>
      simp only[iu,bV,aP,bO] at hb;obtain ⟨rfl,rfl⟩:=hb;have:=zw x.1 x.2 rfl (a.sz+j) (by simp only[Ty.sz];omega);have:=hs x.1 (x.2+(a.sz+j))
      rw[cU];omega)
    refine ⟨t',m',H',v',ca,de,F',λb i=>G b i+F1 b i,kk,loc.map (a.sz+·),M.run,λK0=>by simp only[o3,IF];exact M.WN K0,by simp only[bv,h0];exact M.place,M.rep,λb i=>by have:=hs b i;have:=M.sum b i;omega,M.has,?_,(λh=>by rw[M.UD (by simpa [d_] using h)];rfl),?_,?_⟩
    ·intro acg ho;obtain ⟨off,WO,rfl⟩:=Option.map_eq_some_iff.1 ho;obtain ⟨q1,q2,q3⟩:=M.vC off WO;refine ⟨by simp only[Ty.sz];omega,by rw[q2,dD],?_⟩
     rw[q3];cases ad <;> simp[iu,cU]
    ·intro ho;obtain ⟨b',o,q1,q2⟩:=M.out (by simpa using ho);exact ⟨b',o,q1,λj hj=>⟨by have:=(q2 j hj).1;omega,(q2 j hj).2⟩⟩
    ·intro m2 H2 v2 hk w2 A2 du M7 hb hA um hG EG wm q_;obtain ⟨m3,H3,v3,F3,k1,k2,k3,k4⟩:=M.back m2 H2 v2 hk w2 A2 du M7 hb hA um (λb' i hp hn=>hG b' i Bys hn) EG wm (λb' i=>by have:=q_ b' i;omega);have An:=an.length t' wm
     have pA:lT (loc.map (a.sz+·)) cs t'.sz du=cs.take a.sz++lT loc (cs.drop a.sz) t'.sz du:=by
      cases loc with
      | none=>simp[lT]
      | some off=>
       have:=(M.vC off rfl).1;simp only[lT,BT,bV];rw[List.take_add,dD,bT,bT,bT,cU]
     have xk:(cs.take a.sz).length=a.sz:=by simp;omega
     have Bh:∀ d full,sZ d full w t' H' ca de w2 H2 du->full->lT (loc.map (a.sz+·)) cs t'.sz du=cs:=λd full hd yy=>by
      obtain ⟨H5,c5,e1,e2⟩:=hd [] ⟨t',H',ca,de⟩ (aW _) rfl;simp only[bv,aP,Pl.mk.injEq] at e1;have e3:du=ca:=e1.2.2.1.trans (e2 (.inr yy))
      cases loc with
      | none=>rfl
      | some off=>
       have:=M.vC off rfl;rw[e3,this.2.1,dD];exact BU (show a.sz+off+t'.sz<=cs.length by omega)
     have rt:(lT (loc.map (a.sz+·)) cs t'.sz du).take a.sz=cs.take a.sz:=by rw[pA];exact iR xk
     have Kv:(lT (loc.map (a.sz+·)) cs t'.sz du).drop a.sz=lT loc (cs.drop a.sz) t'.sz du:=by rw[pA];exact iS xk
     have M8:∀ b' i,1<=F1 b' i->∀ u,ce w b' i=some u->ce w2 b' i=some u:=λb' i hp u hu=>by
      refine hG b' i Bys (λo mW BV=>?_) u hu;have hsb:=hs b' i;have hFb:=hF b' i
      cases loc with
      | none=>
       obtain ⟨b0,o0,q1,q2⟩:=M.out rfl;rw[q1] at mW;simp only[aP,bO] at mW;obtain ⟨rfl,rfl⟩:=mW;have:=(q2 (i - o0) Bys).1;rw[show o0+(i - o0)=i by omega] at this;have:=M.sum b0 i;omega
      | some off=>
       obtain ⟨q1,q2,q3⟩:=M.vC off rfl
       cases ad with
       | none=>rw[q3] at mW;cases mW
       | some x=>
        rw[q3] at mW;simp only[iu,bV,aP,bO] at mW;obtain ⟨rfl,rfl⟩:=mW;have:=zw x.1 x.2 rfl (i - x.2) (by simp only[Ty.sz];omega);rw[show x.2+(i - x.2)=i by omega] at this;omega
     refine ⟨_,_,_,λb' i=>F3 b' i+F1 b' i,k1,λb' i=>by have:=k2 b' i;show F3 b' i+F1 b' i<=_;omega,λA3 sv oq=>?_,λd full hd=>?_⟩
     ·refine ⟨by rw[tM,su,su];rfl,F1,F3,λb' i=>by show F1 b' i+F3 b' i<=F3 b' i+F1 b' i;omega,?_,?_⟩
      ·rw[rt,cS,vA,wk,cV];exact an.mono (λb' i ha=>sv b' i (hA b' i ha)) um hb a h1 (λ_ _=>aH _) M8
      ·rw[Kv,cS,wl,vB,cK];refine k3 A3 sv λb' i hp hz=>oq b' i Bys ?_;have:=q_ b' i;show F3 b' i+F1 b' i=0;omega
     ·intro q pl hq hp
      cases q with
      | nil=>
       simp only[bv,aP] at hp;subst hp;refine ⟨_,_,rfl,λh=>?_⟩
       rcases h with ⟨_,hs⟩ | yy
       ·simp[yx] at hs
       ·exact Bh d full hd yy
      | cons s q=>
       cases s with
       | snd=>
        simp only[bv,h0,aE,aR] at hp;obtain ⟨H4,cs4,e1,e2⟩:=k4 d full hd q pl (by simpa [d_] using hq) hp;refine ⟨H4,cs4,?_,λun=>e2 (by simpa [d_] using un)⟩
        simp only[bv,tM,su,gW,aE,aR];rw[Kv,cS,wl,vB,cK];exact e1
       | fst=>
        simp only[bv,h0,aE,aR] at hp;refine ⟨pl.H,pl.cs,?_,λ_=>rfl⟩
        simp only[bv,tM,su,gW,aE,aR];rw[rt,cS,vA,wk,cV];exact yc um q a h1 M8 hp
       | idx i=>simp[bv] at hp
       | rP i=>simp[bv] at hp
   | idx i=>simp[st] at h
   | rP i=>simp[st] at h
  | aa e=>
   cases s with
   | fst=>simp[st] at h
   | snd=>simp[st] at h
   | rP i=>simp[st] at h
   | idx i=>
    simp only[st] at h;split at h
    ·rename_i jI;obtain ⟨h1,h2,h3⟩:=GB h
     cases hx:(v:List e.den)[i]? with
     | none=>rw[hx] at h1;cases h1
     | some x=>
      rw[hx] at h1;simp only[aA] at h1;have hi:i < List.length v:=(aM.1 hx).1;simp only[an,h3,aE,aR,jI,aK] at hr;obtain ⟨a,cap,rfl,g2,g3,g4,g5⟩:=hr
      cases a with
      | none=>have:=g4 rfl;omega
      | some ig=>
       obtain ⟨q1,q2,q3,Fi,q4,q5⟩:=g5 ig rfl;obtain ⟨L,hl,hL,jb⟩:=q5 i x hx
       have a7:∀ k,k < List.length v->∀ j,j < e.sz->k*e.sz+j < cap*e.sz:=λk hk j hj=>by
        have a7:(k+1)*e.sz<=cap*e.sz:=bC _ Bys;rw[dC] at a7;omega
       have Pc:∀ k,k < cap*e.sz->dt ig.block 0 (cap*e.sz) ig.block k=1:=λk hk=>by simp[dt,hk]
       obtain ⟨t',m',H',v',ca,de,F',G,kk,loc,M⟩:=ih e h1 jb (λb k=>by have:=q4 b k;have:=hF b k;have:=dj Fi hi b k;omega)
        (ad:=some (ig.block,i*e.sz)) (λb o hb=>by simp only[aP,bO] at hb;obtain ⟨rfl,rfl⟩:=hb;exact hL)
        (λb o hb j hj=>by
         simp only[aP,bO] at hb;obtain ⟨rfl,rfl⟩:=hb;have:=q4 ig.block (i*e.sz+j);have:=hF ig.block (i*e.sz+j);have:=dj Fi hi ig.block (i*e.sz+j)
         have:=Pc _ (a7 i hi j hj);omega)
       have EH:∀ b k,bf (List.length v) (gf Fi i G) b k+Fi i b k=bf (List.length v) Fi b k+G b k:=uO Fi hi G
       have DG:∀ b k,G b k<=bf (List.length v) (gf Fi i G) b k:=λb k=>by
        have:=dj (gf Fi i G) hi b k;simpa [gf] using this
       refine ⟨t',m',H',v',ca,de,F',λb k=>dt ig.block 0 (cap*e.sz) b k+bf (List.length v) (gf Fi i G) b k,kk,none,M.run,λK0=>by simp only[o3];rw[EF h,hx];exact M.WN K0,?_,M.rep,λb k=>by have:=EH b k;have:=M.sum b k;have:=q4 b k;omega,M.has,(λoff ho=>by cases ho),(λ_=>rfl),?_,?_⟩
       ·simp only[bv,h3,aE,aR,hi,aK,q1,bZ,fe hL hl];exact M.place
       ·intro _
        cases loc with
        | none=>
         obtain ⟨b',o,e1,e2⟩:=M.out rfl;exact ⟨b',o,e1,λj hj=>⟨by have:=(e2 j hj).1;have:=DG b' (o+j);omega,(e2 j hj).2⟩⟩
        | some off=>
         obtain ⟨e1,e2,e3⟩:=M.vC off rfl;refine ⟨ig.block,i*e.sz+off,e3,λj hj=>?_⟩
         have Ba:=a7 i hi (off+j) Bys;rw[<-cU] at Ba;exact ⟨by have:=Pc _ Ba;omega,q3.frozen Ba⟩
       ·intro m2 H2 v2 hk w2 A2 du M7 hb hA um hG EG wm q_
        obtain ⟨m3,H3,v3,F3,k1,k2,k3,k4⟩:=M.back m2 H2 v2 hk w2 A2 du M7 hb hA um (λb' i hp hn=>hG b' i (by have:=DG b' i;omega) hn) EG wm
         (λb' i=>by have:=q_ b' i;have:=DG b' i;omega)
        have An:=an.length t' wm
        have apart:∀ b' k,(∀ o,de=some (b',o)->o<=k/\k < o+t'.sz->1<=Fi i b' k\/(b'=ig.block/\i*e.sz<=k/\k < i*e.sz+e.sz)):=λb' k o mW BV=>by
         cases loc with
         | none=>
          obtain ⟨b0,o0,e1,e2⟩:=M.out rfl;rw[e1] at mW;simp only[aP,bO] at mW;obtain ⟨rfl,rfl⟩:=mW;have:=(e2 (k - o0) Bys).1;rw[show o0+(k - o0)=k by omega] at this;have:=M.sum b0 k;left;omega
         | some off=>
          obtain ⟨e1,e2,e3⟩:=M.vC off rfl;rw[e3] at mW;simp only[iu,bV,aP,bO] at mW;obtain ⟨rfl,rfl⟩:=mW;exact .inr ⟨rfl,by omega,by omega⟩
        have M8:∀ j,j < List.length v->j≠i->∀ b' k,1<=Fi j b' k->∀ u,ce w b' k=some u->ce w2 b' k=some u:=λj hj pc b' k hp u hu=>by
         have h1:=dj (gf Fi i G) hj b' k;have e1:gf Fi i G j=Fi j:=by simp[gf,pc]
         rw[e1] at h1;refine hG b' k Bys (λo mW BV=>?_) u hu;have h2:=q4 b' k;have h3:=hF b' k;have h4:=wi Fi hj hi pc b' k
         rcases apart b' k o mW BV with h | ⟨rfl,hb1,WP⟩
         ·omega
         ·have:=Pc (i*e.sz+(k - i*e.sz)) (a7 i hi _ Bys);rw[show i*e.sz+(k - i*e.sz)=k by omega] at this;omega
        have cell:∀ j,j < List.length v->j≠i->∀ k,k < e.sz->∀ u,ce w ig.block (j*e.sz+k)=some u->ce w2 ig.block (j*e.sz+k)=some u:=λj hj pc k hk u hu=>by
         have xv:=Pc _ (a7 j hj k hk);refine hG _ _ Bys (λo mW BV=>?_) u hu;have h2:=q4 ig.block (j*e.sz+k);have h3:=hF ig.block (j*e.sz+k)
         rcases apart _ _ o mW BV with h | ⟨_,hb1,WP⟩
         ·have:=dj Fi hi ig.block (j*e.sz+k);omega
         ·have je:j < i\/i < j:=by omega
          rcases je with EI | EI
          ·have:(j+1)*e.sz<=i*e.sz:=bC _ EI;rw[dC] at this;omega
          ·have:(i+1)*e.sz<=j*e.sz:=bC _ EI;rw[dC] at this;omega
        have hL3:Has w2 ig.block (i*e.sz) (lT loc L t'.sz du):=by
         have AS:∀ j u,L[j]?=some u->(∀ off,loc=some off->¬ (off<=j/\j < off+t'.sz))->ce w2 ig.block (i*e.sz+j)=some u:=λj u hu hn=>by
          have hj:j < e.sz:=hl ▸ (aM.1 hu).1;have xv:=Pc _ (a7 i hi j hj);refine hG _ _ Bys (λo mW BV=>?_) u (hL j u hu)
          cases loc with
          | none=>
           obtain ⟨b0,o0,e1,e2⟩:=M.out rfl;rw[e1] at mW;simp only[aP,bO] at mW;obtain ⟨rfl,rfl⟩:=mW;have:=(e2 (i*e.sz+j - o0) Bys).1;rw[show o0+(i*e.sz+j - o0)=i*e.sz+j by omega] at this;have h2:=q4 ig.block (i*e.sz+j);have h3:=hF ig.block (i*e.sz+j);have:=DG ig.block (i*e.sz+j);have:=EH ig.block (i*e.sz+j);have:=M.sum ig.block (i*e.sz+j)
           have:=dj Fi hi ig.block (i*e.sz+j);omega
          | some off=>
           obtain ⟨e1,e2,e3⟩:=M.vC off rfl;rw[e3] at mW;simp only[iu,bV,aP,bO] at mW;obtain ⟨_,rfl⟩:=mW;exact hn off rfl Bys
         cases loc with
         | none=>exact λj u hu=>AS j u hu (λoff ho=>by cases ho)
         | some off=>
          obtain ⟨e1,e2,e3⟩:=M.vC off rfl;exact S8 Bys An (EG _ _ e3) (λj u hu hn=>AS j u hu (λacg ho=>by injection ho with ho;subst ho;exact hn))
        have WQ:(lT loc L t'.sz du).length=e.sz:=by
         cases loc with
         | none=>exact hl
         | some off=>have:=(M.vC off rfl).1;simp only[lT];rw[wS Bys An,hl]
        have BW:∀ (j:Nat) (y:e.den),(List.set v i v3)[j]?=some y->(j=i/\y=v3)\/(j≠i/\(v:List e.den)[j]?=some y):=λj y hy=>by
         rw[eZ] at hy;split at hy
         ·rename_i qN;subst qN;injection hy with hy;exact .inl ⟨rfl,hy.symm⟩
         ·rename_i qN;exact .inr ⟨λh=>qN h.symm,hy⟩
        have others:∀ A3:Cells,(∀ b i,A2 b i->A3 b i)->∀ (j:Nat) (y:e.den),j≠i->(v:List e.den)[j]?=some y->∃ L:List Value,L.length=e.sz/\Has w2 ig.block (j*e.sz) L/\Has w ig.block (j*e.sz) L/\an P w A e m.e [] y L (Fi j)/\an P w2 A3 e m.e [] y L (Fi j):=λA3 sv j y pc hy=>by
         have hj:j < List.length v:=(aM.1 hy).1;obtain ⟨Lj,Kw,hLj,WR⟩:=q5 j y hy;rw[h2 j pc] at WR;exact ⟨Lj,Kw,λk u hu=>cell j hj pc k (Kw ▸ (aM.1 hu).1) u (hLj k u hu),hLj,WR,an.mono (λb' i ha=>sv b' i (hA b' i ha)) um hb e WR (λ_ _=>aH _) (M8 j hj pc)⟩
        have ach:∀ H4:List Path,hole H4=false->H4.filterMap (lk i)=H3->(∀ j,j≠i->H4.filterMap (lk j)=[])->∀ d full,sZ d full w t' H' ca de w2 H2 du->sZ (d+d_ (.idx i::p)) full w (.aa e) H [.slice (some ig) (List.length v) cap] ad w2 H4 [.slice (some ig) (List.length v) cap]:=by
         intro H4 hH4 hHi hHj d full hd q pl hq hp
         cases q with
         | nil=>
          simp only[bv,aP] at hp;subst hp;exact ⟨_,_,rfl,λ_=>rfl⟩
         | cons s q=>
          cases s with
          | fst=>simp[bv] at hp
          | snd=>simp[bv] at hp
          | rP j=>simp[bv] at hp
          | idx j=>
           simp only[bv,h3,aE,aR] at hp;split at hp
           ·rename_i hj;by_cases pc:j=i
            ·subst pc;rw[q1,bZ,fe hL hl] at hp;obtain ⟨H5,cs5,e1,e2⟩:=k4 d full hd q pl (by simp only[d_] at hq;omega) hp;refine ⟨H5,cs5,?_,λun=>e2 (un.imp (λh=>⟨by have:=h.1;simp only[d_] at this;omega,h.2⟩) id)⟩
             simp only[bv,hH4,aE,aR,hj,aK,q1,bZ,fe hL3 WQ,hHi];exact e1
            ·obtain ⟨Lj,Kw,Pd,hLj,WR,_⟩:=others A2 (λ_ _ h=>h) j _ pc (aB hj);rw[q1,bZ,fe hLj Kw,h2 j pc] at hp;refine ⟨pl.H,pl.cs,?_,λ_=>rfl⟩
             simp only[bv,hH4,aE,aR,hj,aK,q1,bZ,fe Pd Kw,hHj j pc];exact yc um q e WR (M8 j hj pc) hp
           ·cases hp
        simp only[lT];by_cases C6:m3=m.e
        ·rw[aG C6] at k1;subst C6;refine ⟨_,_,_,λb' k=>dt ig.block 0 (cap*e.sz) b' k+bf (List.length v) (gf Fi i F3) b' k,k1,λb' k=>?_,λA3 sv oq=>?_,ach _ (su _ _) (Gb _ _) (λj hj=>BS hj _)⟩
         ·have:=uO Fi hi F3 b' k;have:=EH b' k;have:=k2 b' k
          show dt ig.block 0 (cap*e.sz) b' k+bf (List.length v) (gf Fi i F3) b' k<=_;omega
         ·simp only[an,su,aE,aR,Md.own,aK];refine ⟨some ig,cap,by simp,by simpa using g2,g3,(λhn=>by cases hn),λIG Jt=>?_⟩
          injection Jt with Jt;subst Jt;refine ⟨q1,q2,hb _ _ q3,gf Fi i F3,λb' k=>by simp,λj y hy=>?_⟩
          rcases BW j y hy with ⟨rfl,rfl⟩ | ⟨pc,IH⟩
          ·refine ⟨_,WQ,hL3,?_⟩
           rw[Gb];simp only[Md.e,gf,aK];refine k3 A3 sv λb' k hp hz=>oq b' k ?_ ?_
           ·have:=DG b' k;omega
           ·have h5:=q_ b' k;have h6:=uO Fi hi F3 b' k;have h7:=EH b' k;have:=DG b' k
            have h8:=q4 b' k;have h9:=M.sum b' k
            have:=k2 b' k;show dt ig.block 0 (cap*e.sz) b' k+bf (List.length v) (gf Fi j F3) b' k=0;omega
          ·obtain ⟨Lj,Kw,Pd,_,_,Y_⟩:=others A3 sv j y pc IH;refine ⟨Lj,Kw,Pd,?_⟩
           rw[BS pc];simp only[gf,aL pc];exact Y_
        ·rw[aL C6] at k1;split at k1
         ·rename_i GC;have GC:H3=[]:=bH.1 GC;refine ⟨_,_,_,λb' k=>dt ig.block 0 (cap*e.sz) b' k,k1,λb' k=>by show dt ig.block 0 (cap*e.sz) b' k<=_;omega,λA3 sv oq=>?_,ach _ rfl (by rw[GC];rfl) (λj hj=>rfl)⟩
          simp only[an,hole,bX,aE,aR,Md.own,aK];refine ⟨some ig,cap,by simp,by simpa using g2,g3,(λhn=>by cases hn),λIG Jt=>?_⟩
          injection Jt with Jt;subst Jt;refine ⟨q1,q2,hb _ _ q3,λ_ _ _=>0,λb' k=>by rw[nQ];simp,λj y hy=>?_⟩
          have fz:∀ b' k,1<=M7 b' k+(dt ig.block 0 (cap*e.sz) b' k+bf (List.length v) (gf Fi i G) b' k)->dt ig.block 0 (cap*e.sz) b' k=0->A3 b' k:=oq
          rcases BW j y hy with ⟨rfl,rfl⟩ | ⟨pc,IH⟩
          ·refine ⟨_,WQ,hL3,?_⟩
           have hr3:=k3 A3 sv λb' k hp hz=>fz b' k (by have:=DG b' k;omega) (by
            have h5:=q_ b' k;have:=DG b' k;omega)
           rw[GC] at hr3;refine Ro.rep e _ (it e) (an.yw (λ_ _ h=>h) e hr3 λb' k hp=>fz b' k ?_ ?_)
           ·have:=k2 b' k;have:=DG b' k;omega
           ·have h5:=q_ b' k;have:=DG b' k;have:=k2 b' k;omega
          ·obtain ⟨Lj,Kw,Pd,_,_,Y_⟩:=others A3 sv j y pc IH;have hj:j < List.length v:=(aM.1 IH).1;refine ⟨Lj,Kw,Pd,Ro.rep e _ (it e) (an.yw (λ_ _ h=>h) e Y_ λb' k hp=>?_)⟩
           have h1:=dj (gf Fi i G) hj b' k;have e1:gf Fi i G j=Fi j:=by simp[gf,pc]
           rw[e1] at h1;have h5:=q_ b' k;exact fz b' k Bys Bys
         ·cases k1
    ·cases h
  | arr n e=>
   cases s with
   | fst=>simp[st] at h
   | snd=>simp[st] at h
   | idx i=>simp[st] at h
   | rP i=>
    obtain ⟨rfl,hf,hl,hlen,hr⟩:=hr;simp only[st,cQ,aK] at h
    cases hx:(v:List e.den)[i]? with
    | none=>rw[hx] at h;cases h
    | some x=>
     rw[hx] at h;simp only[aA] at h;have hi:i < n:=hl ▸ (aM.1 hx).1
     have gb:∀ j,j < n->j*e.sz+e.sz<=cs.length:=λj hj=>by
      have:(j+1)*e.sz<=n*e.sz:=bC _ hj;rw[dC] at this;omega
     have nx:∀ j,j < n->((cs.drop (j*e.sz)).take e.sz).length=e.sz:=λj hj=>by have:=gb j hj;simp;omega
     obtain ⟨t',m',H',v',ca,de,F',G,kk,loc,M⟩:=ih e h (Ro.flat e (λ_ _=>0) hf (hr i x hx)) (λ_ _=>aW _) (ad:=iu ad (i*e.sz)) (λb' o hb j u hu=>by
      cases ad with
      | none=>cases hb
      | some y=>
       simp only[iu,bV,aP,bO] at hb;obtain ⟨rfl,rfl⟩:=hb;rw[bS] at hu;split at hu
       ·rw[bP] at hu;have:=lP y.1 y.2 rfl _ u hu
        rwa [cU]
       ·cases hu) (λ_ _ _ _ _=>rfl)
     have S9:∀ b k,G b k=0:=λb k=>by have:=M.sum b k;omega
     have II:∀ b k,F' b k=0:=λb k=>by have:=M.sum b k;omega
     have Kx:∀ h:loc=none,t'.sz=0:=λh=>by
      obtain ⟨b',o,e1,e2⟩:=M.out h;rcases bM t'.sz with h0 | h0
      ·exact h0
      ·have:=(e2 0 h0).1;rw[S9] at this;omega
     refine ⟨t',m',H',v',ca,de,F',F,kk,loc.map (i*e.sz+·),M.run,λK0=>by simp only[o3,cQ,aK,hx,aA];exact M.WN K0,by simp only[bv,cQ,aK,hi];exact M.place,M.rep,λb k=>by rw[II];omega,M.has,?_,(λh=>by rw[M.UD (by simpa [d_] using h)];rfl),?_,?_⟩
     ·intro acg ho;obtain ⟨off,WO,rfl⟩:=Option.map_eq_some_iff.1 ho;obtain ⟨q1,q2,q3⟩:=M.vC off WO;have:=gb i hi;refine ⟨by simp only[Ty.sz];omega,?_,by rw[q3];cases ad <;> simp[iu,cU]⟩
      rw[q2,fA,fB,dD];congr 1;omega
     ·intro ho;obtain ⟨b',o,q1,q2⟩:=M.out (by simpa using ho);have:=Kx (by simpa using ho);exact ⟨b',o,q1,λj hj=>by omega⟩
     ·intro m2 H2 v2 hk w2 A2 du M7 hb hA um hG EG wm q_;obtain ⟨m3,H3,v3,F3,k1,k2,k3,k4⟩:=M.back m2 H2 v2 hk w2 A2 du M7 hb hA um (λb' i hp hn=>by rw[S9] at hp;omega) EG wm (λb' i=>by have:=q_ b' i;rw[S9];omega);have An:=an.length t' wm;split at k1
      ·rename_i GC;have GC:H3=[]:=bH.1 GC
       have pA:lT (loc.map (i*e.sz+·)) cs t'.sz du=BT cs (i*e.sz) e.sz (lT loc ((cs.drop (i*e.sz)).take e.sz) t'.sz du):=by
        cases loc with
        | none=>simp only[lT,iT];exact (BU (gb i hi)).symm
        | some off=>
         have:=(M.vC off rfl).1;exact (abb this (gb i hi) An).symm
       have xk:(lT loc ((cs.drop (i*e.sz)).take e.sz) t'.sz du).length=e.sz:=by
        cases loc with
        | none=>exact nx i hi
        | some off=>have:=(M.vC off rfl).1;simp only[lT];rw[wS (by rw[nx i hi];omega) An,nx i hi]
       have UE:∀ j,j < n->((lT (loc.map (i*e.sz+·)) cs t'.sz du).drop (j*e.sz)).take e.sz=if j=i then lT loc ((cs.drop (i*e.sz)).take e.sz) t'.sz du else (cs.drop (j*e.sz)).take e.sz:=λj hj=>by
        rw[pA];apply dT;intro k;rw[bS];split
        ·rename_i hk;rw[bP,D8 (gb i hi) xk];by_cases pc:j=i
         ·subst pc;rw[aG Bys,aG rfl];congr 1;omega
         ·rw[aL pc,bS,aG hk,bP,aL];have je:j < i\/i < j:=by omega
          rcases je with EI | EI
          ·have:(j+1)*e.sz<=i*e.sz:=bC _ EI;rw[dC] at this;omega
          ·have:(i+1)*e.sz<=j*e.sz:=bC _ EI;rw[dC] at this;omega
        ·rename_i hk;by_cases pc:j=i
         ·rw[aG pc,eX Bys]
         ·rw[aL pc,eX (by rw[nx j hj];omega)]
       have Bh:∀ d full,sZ d full w t' H' ca de w2 H2 du->full->lT (loc.map (i*e.sz+·)) cs t'.sz du=cs:=λd full hd yy=>by
        obtain ⟨H5,c5,e1,e2⟩:=hd [] ⟨t',H',ca,de⟩ (aW _) rfl;simp only[bv,aP,Pl.mk.injEq] at e1;have e3:du=ca:=e1.2.2.1.trans (e2 (.inr yy))
        cases loc with
        | none=>rfl
        | some off=>
         have:=M.vC off rfl;have:=gb i hi;rw[e3,(M.vC off rfl).2.1,fA,fB,show min t'.sz (e.sz - off)=t'.sz by omega,dD];exact BU (show i*e.sz+off+t'.sz<=cs.length by omega)
       have adl:(lT (loc.map (i*e.sz+·)) cs t'.sz du).length=n*e.sz:=by rw[pA,wS (gb i hi) xk,hlen]
       refine ⟨_,_,_,λb' k=>F3 b' k+F b' k,k1,λb' k=>by have:=k2 b' k;have:=S9 b' k;show F3 b' k+F b' k<=_;omega,λA3 sv oq=>?_,λd full hd=>?_⟩
       ·refine ⟨rfl,hf,by simpa using hl,adl,λj y hy=>?_⟩
        have hj:j < n:=by have:=(aM.1 hy).1;rw[bQ] at this;omega
        rw[UE j hj];rw[eZ] at hy;split at hy
        ·rename_i qN;subst qN
         have hy:some v3=some y:=by
          split at hy
          ·exact hy
          ·cases hy
         injection hy with hy;rw[aG rfl,<- hy];exact an.flat e hf (k3 A3 sv λb' k hp hz=>oq b' k (by have:=S9 b' k;omega) (by have:=q_ b' k;have:=S9 b' k;show F3 b' k+F b' k=0;omega))
        ·rename_i qN;rw[aL (λh=>qN h.symm)];exact Ro.mono um (λb' k ha=>sv b' k (hA b' k ha)) e (hr j y hy)
       ·intro q pl hq hp
        cases q with
        | nil=>
         simp only[bv,aP] at hp;subst hp;refine ⟨_,_,rfl,λh=>?_⟩
         rcases h with ⟨_,hs⟩ | yy
         ·simp[yx] at hs
         ·exact Bh d full hd yy
        | cons s q=>
         cases s with
         | fst=>simp[bv] at hp
         | snd=>simp[bv] at hp
         | idx j=>simp[bv] at hp
         | rP j=>
          simp only[bv,cQ,aK] at hp;split at hp
          ·rename_i hj;by_cases pc:j=i
           ·subst pc;obtain ⟨H5,cs5,e1,e2⟩:=k4 d full hd q pl (by simp only[d_] at hq;omega) hp;refine ⟨H5,cs5,?_,λun=>e2 (un.imp (λh=>⟨by have:=h.1;simp only[d_] at this;omega,h.2⟩) id)⟩
            simp only[bv,cQ,aK,hj];rw[UE j hj,aG rfl];rw[GC] at e1;exact e1
           ·refine ⟨pl.H,pl.cs,?_,λ_=>rfl⟩
            simp only[bv,cQ,aK,hj];rw[UE j hj,aL pc];exact yc um q e (Ro.flat e (m:=.leaf) (λ_ _=>0) hf (hr j _ (aB (by rw[hl];exact hj)))) (λb k hp=>by simp at hp) hp
          ·cases hp
      ·cases k1
  | _=>cases s <;> simp[st] at h
end
end OT
set_option linter.unusedVariables false
set_option linter.unusedSimpArgs false
namespace OT
open Go
def tmp (a:Act) (i:Nat):Value:=a.tmps.getD i undef
section
variable {P:Program} {w:World} {A:Cells}
theorem Ro.one:∀ (t:Ty) {v:t.den} {cs:List Value},Ro P w A t v cs->∀ x ∈ cs,x.oneCell'=true:=by
 intro t
 induction t with
 | pair a b nL nw=>
  intro v cs h x hx;rw[<-cE a.sz cs] at hx;rcases bG.1 hx with hx | hx
  ·exact nL h.1 x hx
  ·exact nw h.2 x hx
 | arr n e ih=>
  intro v cs h x hx;obtain ⟨hf,hl,hlen,hr⟩:=h;obtain ⟨k,hk,rfl⟩:=dE.1 hx;rw[hlen] at hk
  have ot:0 < e.sz:=by
   grind
  have hi:k / e.sz < n:=(fI ot).2 hk;refine ih (hr (k / e.sz) _ (aB (by grind))) _ ?_;rw[fJ];refine ⟨k % e.sz,?_⟩
  grind [Nat.mod_lt,Nat.div_add_mod]
 | aa e ih=>rintro v cs ⟨a,cap,rfl,_⟩ x hx;simp at hx;subst hx;rfl
 | ptr e ih=>rintro v cs ⟨a,rfl,_⟩ x hx;simp at hx;subst hx;rfl
 | fn=>rintro v cs ⟨a,rfl,_⟩ x hx;simp at hx;subst hx;rfl
 | map k v=>rintro v cs ⟨_,_,r,vz,rfl,_⟩ x hx;simp at hx;subst hx;rfl
 | unit=>grind [Ro]
 | _=>intro v cs h x hx;simp only[Ro] at h;subst h;simp at hx;subst hx;rfl
theorem an.one:∀ (t:Ty) {m:Md} {H:List Path} {v:t.den} {cs:List Value} {F:FP},an P w A t m H v cs F->∀ x ∈ cs,x.oneCell'=true:=by
 intro t
 induction t with
 | pair a b nL nw=>
  intro m H v cs F h x hx;obtain ⟨_,F1,F2,_,h1,h2⟩:=h;grind [List.take_append_drop]
 | aa e ih=>
  intro m H v cs F h x hx;simp only[an] at h;split at h
  ·grind
  ·split at h
   ·obtain ⟨a,cap,rfl,_⟩:=h;simp at hx;subst hx;rfl
   grind [Ro.one]
 | ptr e ih=>
  intro m H v cs F h x hx;simp only[an] at h;split at h
  ·grind
  ·split at h
   ·obtain ⟨a,rfl,_⟩:=h;simp at hx;subst hx;rfl
   grind [Ro.one]
 | arr n e ih=>intro m H v cs F h;exact Ro.one _ h.2
 | map k v=>
  intro m H v cs F h x hx;simp only[an] at h;split at h
  ·grind
  ·split at h
   ·obtain ⟨_,_,r,vz,rfl,_⟩:=h;simp at hx;subst hx;rfl
   grind [Ro.one]
 | _=>intro m H v cs F h;exact Ro.one _ h
end
theorem lX {t:Ty} {cs:List Value} (hl:cs.length=t.sz) (h1:∀ x ∈ cs,x.oneCell'=true):(c_ t cs).cells.toList=cs:=by
 unfold c_;split
 ·simp[Value.cells]
 ·rename_i h;have:t.sz=1:=by cases t <;> simp_all [isAgg,Ty.sz]
  match cs,hl with
  | [x],_=>
   have:=h1 x (by simp);cases x <;> simp_all [Value.cells,Value.oneCell']
  | [],hl=>grind
  | _::_::_,hl=>grind
def Below (snap v:List Nat):Prop:=∀ (j x:Nat),snap[j]?=some x->∃ y,v[j]?=some y/\x<=y
theorem Ju:∀ (s v:List Nat),preB s v=true↔∀ (j x:Nat),s[j]?=some x->v[j]?=some x
 | [],v=>by simp[preB]
 | a::s,[]=>by
  simp only[preB,aE,false_iff];intro h;have:=h 0 a rfl;cases this
 | a::s,b::v=>by
  simp only[preB,aD,eU,Ju s v];constructor
  ·grind
  ·intro h;refine ⟨by have:=h 0 a rfl;simpa using this.symm,λj x hj=>h (j+1) x hj⟩
theorem Ih {s v v':List Nat} (hs:Below s v) (hv:Below v v') (h:preB s v'=true):preB s v=true/\∀ (j:Nat),j < s.length->v[j]?=v'[j]?:=by
 have key:∀ (j x:Nat),s[j]?=some x->v[j]?=some x/\v'[j]?=some x:=λj x hj=>by
  obtain ⟨y,hy,sT⟩:=hs j x hj;obtain ⟨z,hz,hyz⟩:=hv j y hy;grind [Ju]
 grind [Ju]
theorem Below.trans {s v v':List Nat} (h1:Below s v) (h2:Below v v'):Below s v':=λj x hj=>by
 obtain ⟨y,hy,sT⟩:=h1 j x hj;obtain ⟨z,hz,hyz⟩:=h2 j y hy;grind
theorem Below.refl (s:List Nat):Below s s:=λj x hj=>⟨x,hj,aH _⟩
def d8 (w:World) (tv:Value):Slot->Option Pl
 | .own t _ H _=>some ⟨t,H,tv.cells.toList,none⟩
 | .box t _ H _=>match tv with
  | .pointer (some a)=>some ⟨t,H,rd w a.block a.off t.sz,some (a.block,a.off)⟩
  | _=>none
 | _=>none
def place (σ:St) (a:Act) (w:World) (r:Nat) (p:Path):Option Pl:=
 (d8 w (tmp a r) (σ.get r)).bind λR=>bv w p R.t R.H R.cs R.ad
def sw (σ:St) (a:Act) (w:World) (tv:Value) (r:Nat) (p:Path) (snap:List Nat):Prop:=
 Below snap (σ.lC r)/\(σ.ok r snap=true->∃ pl,place σ a w r p=some pl/\tv=c_ pl.t pl.cs/\((yx pl.t=true/\snap.length=min 5 (2+d_ p))\/snap.length=5))
def D9 (σ:St) (a:Act) (w:World) (tv:Value) (r:Nat) (p:Path) (snap:List Nat):Prop:=
 Below snap (σ.lC r)/\(σ.ok r snap=true->∃ pl b o,place σ a w r p=some pl/\pl.ad=some (b,o)/\tv=.pointer (some ⟨b,o,none⟩)/\snap.length=min 5 (1+d_ p))
def GD (σ:St) (a:Act) (w:World) (tv:Value) (r:Nat) (p:Path) (snap:List Nat) (lo hi:Nat):Prop:=
 Below snap (σ.lC r)/\(σ.ok r snap=true->∃ pl e x n cap x' cap',place σ a w r p=some pl/\pl.t=.aa e/\pl.cs=[.slice x n cap]/\lo<=hi/\hi<=n/\tv=.slice x' (hi - lo) cap'/\cap'+lo=cap/\(lo=0->x'=x) /\
  (x=none->x'=none)/\(∀ ad,x=some ad->∃ de,x'=some de/\de.spot=ad.spot/\de.block=ad.block/\(lo < hi->de.off=ad.off+lo*e.sz))/\(snap.length=min 5 (2+d_ p)\/snap.length=5))
section
variable (P:Program) (A:Cells)
def aci (w:World) (x:Kn) (tv:Value) (F:FP):Prop:=x.t=.unit\/∃ cs,tv=c_ x.t cs/\an P w A x.t x.m [] x.v cs F
def db (σ:St) (a:Act) (w:World) (tv:Value):Slot->FP->Prop
 | .dead,_=>True
 | .yo,_=>tv=.slice none 0 0
 | .val t v,_=>∃ cs,tv=c_ t cs/\Ro P w A t v cs
 | .cp t v,_=>Ro P w A (.ptr t) v [tv]
 | .own t m H v,F=>∃ cs,tv=c_ t cs/\an P w A t m H v cs F
 | .box t m H v,F=>∃ b o L F1,tv=.pointer (some ⟨b,o,none⟩)/\L.length=t.sz/\Has w b o L/\(∀ j,j < t.sz->w.frozen? ⟨b,o+j,none⟩=false) /\
   (∀ x i,dt b o t.sz x i+F1 x i<=F x i)/\an P w A t m H v L F1
 | .ref r p snap,_=>sw σ a w tv r p snap
 | .ptr r p snap,_=>D9 σ a w tv r p snap
 | .sub r p snap lo hi,_=>GD σ a w tv r p snap lo hi
 | .sR xs,F=>∃ (vs:Array Value) (Fi:Nat->FP),tv=.tuple vs/\(∀ b i,bf xs.length Fi b i<=F b i)/\∀ j x,xs[j]?=some x->∃ v,vs[j]?=some v/\aci P A w x v (Fi j)
end
structure Ext (w w':World) (F:FP):Prop where
 size:w.heap.size<=w'.heap.size
 cell:∀ b i,b < w.heap.size->F b i=0->∀ u,ce w b i=some u->ce w' b i=some u
 x_:∀ b n,jj w b n->jj w' b n
 AU:∀ b i,b < w.heap.size->w'.frozen? ⟨b,i,none⟩=w.frozen? ⟨b,i,none⟩
 os:w'.os=w.os
 tape:w'.tape=w.tape
 output:w'.output=w.output
 obj:∀ b,b < w.heap.size->(∀ i,F b i=0)->w'.heap[b]?=w.heap[b]?
 drawn:w.drawn<=w'.drawn
def WS (P:Program):Bool:=(P.globalNamed "internal/strconv.uint64pow10").isSome||(P.globalNamed "internal/bytealg.MaxLen").isSome
def xG (P:Program) (w:World) (F0:FP):Prop:=WS P=true->(∃ w0:World,(w0.ShapedOpen P/\((P.globalNamed "internal/strconv.uint64pow10").isSome=true->Go.Lib.TabIs P w0 "internal/strconv.uint64pow10" .u64 Go.Lib.pow10Tab))/\∀ b,b < P.globals.size->w.heap[b]?=w0.heap[b]?) /\
 P.globals.size<=w.heap.size/\∀ b i,b < P.globals.size->F0 b i=0
theorem adm {P:Program} {w:World} {F0:FP} (h:WS P=false):xG P w F0:=λe=>by grind
theorem xG.ext {P:Program} {w w':World} {F0 G:FP} (h:xG P w F0) (he:Ext w w' F0) (hG:∀ b i,1<=G b i->1<=F0 b i\/w.heap.size<=b):xG P w' G:=λe=>by
 obtain ⟨⟨w0,g,hw⟩,hs,hf⟩:=h e;refine ⟨⟨w0,g,λb hb=>?_⟩,bI hs he.size,λb i hb=>?_⟩
 ·rw[he.obj b Bys (λi=>hf b i hb)];exact hw b hb
 grind
structure Ctx where
 w0:World
 A0:Cells
 F0:FP
 args:Array Value
structure Rel (P:Program) (C:Ctx) (A:Cells) (X:FP) (σ:St) (a:Act) (w:World) (F:Nat->FP):Prop where
 size:a.tmps.size=σ.n
 defers:a.defers=[]
 i9:∀ i,i < σ.n->db P A σ a w (tmp a i) (σ.get i) (F i)
 gh:∀ d r p snap,(d,r,p,snap) ∈ σ.gh->sw σ a w (tmp a d) r p snap
 qg:∀ b i,X b i+bf σ.n F b i<=1
 rf:∀ b i,1<=X b i+bf σ.n F b i->¬ A b i
 ll:∀ b i,1<=X b i+bf σ.n F b i\/A b i->b < w.heap.size
 mH:∀ i,(σ.lC i).length=5
 ext:Ext C.w0 w C.F0
 own:∀ b i,1<=X b i+bf σ.n F b i->1<=C.F0 b i\/C.w0.heap.size<=b
 a0:∀ b i,C.A0 b i->A b i
 a1:∀ b i,A b i->C.A0 b i\/1<=C.F0 b i\/C.w0.heap.size<=b
 pv:∀ j k,(j,k,false) ∈ σ.ay->tmp a j=C.args.getD k undef
 whole:∀ r t m H v,σ.get r=.box t m H v->(∀ k,(r,k,false) ∉ σ.ay)->∃ b,tmp a r=.pointer (some ⟨b,0,none⟩)/\jj w b (t.sz,false)
 ou:∀ j k,(j,k,true) ∈ σ.ay->∀ R,d8 w (tmp a j) (σ.get j)=some R->c_ R.t R.cs=C.args.getD k undef
 yz:xG P C.w0 C.F0
theorem Rel.EJ {P:Program} {C:Ctx} {A:Cells} {X:FP} {σ:St} {a:Act} {w:World} {F:Nat->FP} (h:Rel P C A X σ a w F) {G:FP} (hG:∀ b i,1<=G b i->1<=X b i+bf σ.n F b i):xG P w G:=
 h.yz.ext h.ext λb i hp=>h.own b i (hG b i hp)
def zx (σ:St) (a:Act) (w:World) (σ':St) (a':Act) (w':World):Prop:=
 ∀ r p snap,Below snap (σ.lC r)->Below snap (σ'.lC r)/\(σ'.ok r snap=true->σ.ok r snap=true /\
  (snap.length=min 5 (1+d_ p)\/snap.length=min 5 (2+d_ p)\/snap.length=5->∀ pl,place σ a w r p=some pl->∃ H' ca,place σ' a' w' r p=some ⟨pl.t,H',ca,pl.ad⟩ /\
   ((yx pl.t=true/\snap.length=min 5 (2+d_ p))\/snap.length=5->ca=pl.cs)))
section
variable {P:Program} {A A':Cells} {σ σ':St} {a a':Act} {w w':World} {tv:Value} {F:FP}
theorem sw.nK (hp:zx σ a w σ' a' w') {r:Nat} {p:Path} {snap:List Nat} (h:sw σ a w tv r p snap):sw σ' a' w' tv r p snap:=by
 obtain ⟨h1,h2⟩:=h;obtain ⟨h3,h4⟩:=hp r p snap h1;refine ⟨h3,λbd=>?_⟩
 grind
theorem D9.nK (hp:zx σ a w σ' a' w') {r:Nat} {p:Path} {snap:List Nat} (h:D9 σ a w tv r p snap):D9 σ' a' w' tv r p snap:=by
 obtain ⟨h1,h2⟩:=h;obtain ⟨h3,h4⟩:=hp r p snap h1;refine ⟨h3,λbd=>?_⟩
 grind
theorem GD.nK (hp:zx σ a w σ' a' w') {r:Nat} {p:Path} {snap:List Nat} {lo hi:Nat} (h:GD σ a w tv r p snap lo hi):GD σ' a' w' tv r p snap lo hi:=by
 obtain ⟨h1,h2⟩:=h;obtain ⟨h3,h4⟩:=hp r p snap h1;refine ⟨h3,λbd=>?_⟩
 grind [yx]
theorem db.nK (hp:zx σ a w σ' a' w') (hA:∀ b i,A b i->A' b i) (hc:∀ b i,A b i->∀ u,ce w b i=some u->ce w' b i=some u) (hb:∀ b n,jj w b n->jj w' b n)
  (hF:∀ b i,1<=F b i->(∀ u,ce w b i=some u->ce w' b i=some u)/\w'.frozen? ⟨b,i,none⟩=w.frozen? ⟨b,i,none⟩) {s:Slot} (h:db P A σ a w tv s F):db P A' σ' a' w' tv s F:=by
 cases s with
 | dead=>trivial
 | yo=>exact h
 | val t v=>obtain ⟨cs,h1,h2⟩:=h;exact ⟨cs,h1,Ro.mono hc hA t h2⟩
 | cp t v=>exact Ro.mono hc hA (.ptr t) h
 | own t m H v=>obtain ⟨cs,h1,h2⟩:=h;exact ⟨cs,h1,an.mono hA hc hb t h2 (λ_ _=>aH _) (λb i hp=>(hF b i hp).1)⟩
 | box t m H v=>
  obtain ⟨b,o,L,F1,h1,h2,h3,h4,h5,h6⟩:=h
  have hr:∀ j,j < t.sz->1<=F b (o+j):=λj hj=>by
   grind [dt]
  exact ⟨b,o,L,F1,h1,h2,λj u hu=>(hF _ _ (hr j (h2 ▸ (aM.1 hu).1))).1 u (h3 j u hu),λj hj=>by grind,h5,
   an.mono hA hc hb t h6 (λ_ _=>aH _) (λb i hp=>(hF b i (by grind)).1)⟩
 | ref r p snap=>exact sw.nK hp h
 | ptr r p snap=>exact D9.nK hp h
 | sub r p snap lo hi=>exact GD.nK hp h
 | sR xs=>
  obtain ⟨vs,Fi,h1,h2,h3⟩:=h;refine ⟨vs,Fi,h1,h2,λj x hx=>?_⟩
  obtain ⟨v,h4,h5⟩:=h3 j x hx;refine ⟨v,h4,h5.imp id λ⟨cs,h6,h7⟩=>⟨cs,h6,an.mono hA hc hb x.t h7 (λ_ _=>aH _) (λb i hp=>(hF b i ?_).1)⟩⟩
  grind [dj]
end
end OT
set_option linter.unusedVariables false
set_option linter.unusedSimpArgs false
namespace OT
open Go
theorem Bi {α:Type} (k:Nat) (x:α) (l:List (Nat×α)) (i:Nat):oG ((k,x)::l) i=if k=i then some x else oG l i:=by
 simp_all [oG]
theorem zy (σ:St) (d:Nat) (s:Slot) (i:Nat):(σ.put d s).get i=if d=i/\i < σ.n then s else σ.get i:=by
 grind [St.get,St.put,Bi,Nat.blt_eq]
theorem Ii (σ:St) (d:Nat) (s:Slot) (i:Nat):(σ.my d s).get i=if d=i/\i < σ.n then s else σ.get i:=by
 grind [St.get,St.my,Bi,Nat.blt_eq]
theorem BD (σ:St) (d:Nat) (s:Slot) (i:Nat):(σ.put d s).lC i=if d=i then tK (σ.lC d) else σ.lC i:=by
 grind [St.lC,St.put,Bi]
theorem rS (σ:St) (d:Nat) (f:List Nat->List Nat) (i:Nat):(σ.nv d f).lC i=if d=i then f (σ.lC d) else σ.lC i:=by
 grind [St.lC,St.nv,Bi]
theorem Bj {l:List (Nat×Nat×Bool)} {d:Nat} {e:Nat×Nat×Bool} (h:e ∈ BJ l d):e ∈ l/\e.1≠d:=by
 induction l with
 | nil=>cases h
 | cons x l ih=>
  obtain ⟨k,b⟩:=x;simp only[BJ] at h;split at h
  ·grind
  ·rename_i hk;rcases bB.1 h with rfl | h
   all_goals simp_all
theorem Ky {l:List (Nat×Nat×Bool)} {d:Nat} {e:Nat×Nat×Bool} (h:e ∈ l) (hd:e.1≠d):e ∈ BJ l d:=by
 induction l with
 | nil=>cases h
 | cons x l ih=>
  obtain ⟨k,b⟩:=x;simp only[BJ];rcases bB.1 h with rfl | h
  ·simp_all
  grind
theorem UF {l:List (Nat×Nat×Bool)} {d j k:Nat} (h:(j,k,false) ∈ l):(j,k,false) ∈ BK l d:=by
 induction l <;> grind [BK]
theorem Kz {l:List (Nat×Nat×Bool)} {d:Nat} {e:Nat×Nat×Bool} (h:e ∈ BK l d):e ∈ l/\¬ (e.1=d/\e.2.2=true):=by
 induction l with
 | nil=>cases h
 | cons x l ih=>
  obtain ⟨k,n,b⟩:=x;simp only[BK] at h;split at h
  ·grind
  ·rename_i hk;rcases bB.1 h with rfl | h
   all_goals simp_all
theorem Pe {l:List (Nat×Nat×Path×List Nat)} {d:Nat} {e:Nat×Nat×Path×List Nat} (h:e ∈ OV l d):e ∈ l/\e.1≠d:=by
 induction l with
 | nil=>cases h
 | cons x l ih=>
  obtain ⟨k,b⟩:=x;simp only[OV] at h;split at h
  ·grind
  ·rename_i hk;rcases bB.1 h with rfl | h
   all_goals simp_all
theorem uo (v:List Nat):Below v (tK v):=λj x hj=>⟨x+1,by simp[tK,hj],by omega⟩
theorem GE {v:List Nat} (h:v.length=5):∃ b x y z w,v=[b,x,y,z,w]:=by
 match v,h with
 | [b,x,y,z,w],_=>grind
theorem WT {b x y z w b' x' y' z' w':Nat} (h0:b<=b') (h1:x<=x') (h2:y<=y') (h3:z<=z') (h4:w<=w'):Below [b,x,y,z,w] [b',x',y',z',w']:=by
 intro j n hj;grind
theorem wo (d:Nat) {v:List Nat} (h:v.length=5):Below v (vy d v):=by
 obtain ⟨b,x,y,z,w,rfl⟩:=GE h
 match d with
 | 0 | 1 | 2 | n+3=>exact WT Bys Bys Bys Bys Bys
theorem zT {v:List Nat} (h:v.length=5):Below v (yp v):=by
 obtain ⟨b,x,y,z,w,rfl⟩:=GE h;exact WT Bys Bys Bys Bys Bys
theorem GF {v:List Nat}:(tK v).length=v.length:=by simp[tK]
theorem EK (d:Nat) {v:List Nat} (h:v.length=5):(vy d v).length=5:=by
 obtain ⟨b,x,y,z,w,rfl⟩:=GE h
 match d with
 | 0 | 1 | 2 | n+3=>rfl
theorem GG {v:List Nat} (h:v.length=5):(yp v).length=5:=by
 obtain ⟨b,x,y,z,w,rfl⟩:=GE h;rfl
theorem KA {s v v':List Nat} (hs:Below s v) (hv:Below v v') (h:preB s v'=true) {j:Nat} (hj:v[j]?≠v'[j]?):s.length<=j:=by
 rcases cR j s.length with h' | h'
 ·exact absurd ((Ih hs hv h).2 j h') hj
 ·exact h'
theorem IJ {s v:List Nat} (hl:v.length=5) (hs:Below s v) (h:preB s (tK v)=true):s.length=0:=by
 obtain ⟨b,x,y,z,w,rfl⟩:=GE hl;have:=KA hs (uo _) h (j:=0) (by simp[tK]);omega
theorem GH {s v:List Nat} (d:Nat) (hl:v.length=5) (hs:Below s v) (h:preB s (vy d v)=true):s.length<=min 4 (1+d):=by
 have h4:s.length<=4:=by
  refine KA hs (wo d hl) h ?_;obtain ⟨b,x,y,z,w,rfl⟩:=GE hl
  match d with
  | 0 | 1 | 2 | n+3=>simp[vy]
 have hd:s.length<=1+d:=by
  rcases cR d 3 with hd | hd
  ·refine KA hs (wo d hl) h ?_;obtain ⟨b,x,y,z,w,rfl⟩:=GE hl
   match d,hd with
   | 0,_ | 1,_ | 2,_=>simp[vy]
  ·omega
 omega
theorem Jv {s v:List Nat} (hl:v.length=5) (hs:Below s v) (h:preB s (yp v)=true):s.length<=4:=by
 refine KA hs (zT hl) h ?_;grind [GE,yp]
section
variable {P:Program} {C:Ctx} {A A2:Cells} {X:FP} {σ:St} {a:Act} {w w2:World} {F:Nat->FP}
theorem pe (a:Act) (d:Nat) (v:Value) (i:Nat):tmp (a.put (some d) v) i=if d=i/\i < a.tmps.size then v else tmp a i:=by
 simp only[tmp,Act.put,Array.getD_eq_getD_getElem?,Array.getElem?_setIfInBounds];grind
theorem yA {tv:Value} {s:Slot} {G:FP} {R:Pl} (h:db P A σ a w tv s G) (hR:d8 w tv s=some R) :
  ∃ (m:Md) (v:R.t.den) (F1:FP),an P w A R.t m R.H v R.cs F1/\(∀ b i,F1 b i<=G b i) /\
   (∀ b o,R.ad=some (b,o)->Has w b o R.cs/\(∀ x i,dt b o R.t.sz x i+F1 x i<=G x i)/\∀ j,j < R.t.sz->w.frozen? ⟨b,o+j,none⟩=false) /\
   ((∃ v',s=.own R.t m R.H v'/\HEq v v'/\R.ad=none)\/(∃ v',s=.box R.t m R.H v'/\HEq v v'/\R.ad.isSome=true)):=by
 cases s with
 | own t m H v=>
  simp only[d8,aP] at hR;subst hR;obtain ⟨cs,h1,h2⟩:=h;refine ⟨m,v,G,?_,λ_ _=>aH _,(λb o h=>by cases h),.inl ⟨v,rfl,HEq.rfl,rfl⟩⟩
  grind [lX,an.length,an.one]
 | box t m H v=>
  obtain ⟨b,o,L,F1,h1,h2,h3,h4,h5,h6⟩:=h;grind [d8,fe]
 | _=>simp[d8] at hR
theorem yB {tv:Value} {s:Slot} {G:FP} {R:Pl} (h:db P A σ a w tv s G) (hc:∀ b i,1<=G b i->∀ u,ce w b i=some u->ce w2 b i=some u)
  (hR:d8 w tv s=some R):d8 w2 tv s=some R:=by
 cases s with
 | own t m H v=>exact hR
 | box t m H v=>
  obtain ⟨b,o,L,F1,h1,h2,h3,h4,h5,h6⟩:=h;subst h1;simp only[d8,aP] at hR ⊢
  have:Has w2 b o L:=λj u hu=>hc _ _ (by
   grind [dt]) u (h3 j u hu)
  grind [fe]
 | _=>simp[d8] at hR
theorem xw {σ':St} {a':Act} {r:Nat} {p:Path} {G:FP} {pl:Pl} (h:db P A σ a w (tmp a r) (σ.get r) G) (hg:σ'.get r=σ.get r) (ht:tmp a' r=tmp a r)
  (hA:∀ b i,A b i->∀ u,ce w b i=some u->ce w2 b i=some u) (hc:∀ b i,1<=G b i->∀ u,ce w b i=some u->ce w2 b i=some u)
  (hp:place σ a w r p=some pl):place σ' a' w2 r p=some pl:=by
 unfold place at hp ⊢;rw[hg,ht];cases hR:d8 w (tmp a r) (σ.get r) <;> grind [yB,yA,yc]
theorem mQ {σ:St} {i:Nat} (h:¬ i < σ.n):σ.get i=.dead:=by simp[St.get,h]
theorem uP {r:Nat} {p:Path} {pl:Pl} (h:place σ a w r p=some pl):r < σ.n:=by
 grind [place,mQ,d8]
theorem Rel.put (h:Rel P C A X σ a w F) {d:Nat} (hd:d < σ.n) {s:Slot} {v:Value} {Fd X':FP} (hs:db P A σ a w v s Fd) (ht:∀ b i,X' b i+Fd b i<=X b i+F d b i)
  (hwh:∀ t m H v',s=.box t m H v'->∃ b,v=.pointer (some ⟨b,0,none⟩)/\jj w b (t.sz,false)) :
  Rel P C A X' (σ.put d s) (a.put (some d) v) w (gf F d Fd):=by
 have ot:=h.size
 have oH:zx σ a w (σ.put d s) (a.put (some d) v) w:=by
  intro r p snap hb;rw[BD,St.ok,BD];by_cases hr:d=r
  ·subst hr;simp only[aK];refine ⟨hb.trans (uo _),λbd=>?_⟩
   have h0:=IJ (h.mH d) hb bd;exact ⟨(Ih hb (uo _) bd).1,λhl=>by omega⟩
  ·simp only[aL hr];refine ⟨hb,λbd=>⟨bd,λhl pl gy=>⟨pl.H,pl.cs,?_,λ_=>rfl⟩⟩⟩
   exact xw (h.i9 r (uP gy)) (by grind [zy]) (by grind [pe]) (λ_ _ _ _ h=>h) (λ_ _ _ _ h=>h) gy
 have yC:∀ b i,X' b i+bf σ.n (gf F d Fd) b i<=X b i+bf σ.n F b i:=λb i=>by
  grind [uO]
 refine ⟨by simp[Act.put,ot,St.put],by simpa [Act.put] using h.defers,λi hi=>?_,?_,λb i=>bI (yC b i) (h.qg b i),λb i hp=>h.rf b i (bI hp (yC b i)),
  λb i hp=>h.ll b i (hp.imp (λhp=>bI hp (yC b i)) id),λi=>?_,h.ext,λb i hp=>h.own b i (bI hp (yC b i)),h.a0,h.a1,?_,?_,?_,h.yz⟩
 ·have hi:i < σ.n:=hi;rw[zy,pe,ot];by_cases hdi:d=i
  ·subst hdi;rw[aG ⟨rfl,hi⟩,aG ⟨rfl,hi⟩];simp only[gf,aK];exact db.nK oH (λ_ _ h=>h) (λ_ _ _ _ h=>h) (λ_ _ h=>h) (λ_ _ _=>⟨λ_ h=>h,rfl⟩) hs
  ·rw[aL (λh=>hdi h.1),aL (λh=>hdi h.1)];simp only[gf,aL (λh:i=d=>hdi h.symm)];exact db.nK oH (λ_ _ h=>h) (λ_ _ _ _ h=>h) (λ_ _ h=>h) (λ_ _ _=>⟨λ_ h=>h,rfl⟩) (h.i9 i hi)
 ·intro d' r p snap hm;obtain ⟨hm,je⟩:=Pe hm;rw[pe,aL (λh=>je h.1.symm)];exact sw.nK oH (h.gh d' r p snap hm)
 ·rw[BD];split
  ·rw[GF];exact h.mH d
  ·exact h.mH i
 ·intro j k hm;obtain ⟨hm,je⟩:=Bj hm;rw[pe,aL (λh=>je h.1.symm)];exact h.pv j k hm
 ·intro r t m H v' hg hl;rw[zy] at hg;rw[pe,ot];by_cases Kv:d=r/\r < σ.n
  ·grind
  ·rw[aL Kv] at hg ⊢;refine h.whole r t m H v' hg λk hm=>hl k (Ky hm λe=>Kv ⟨e.symm,?_⟩);grind
 ·intro j k hm R hR;obtain ⟨hm,je⟩:=Bj hm;rw[pe,aL (λh=>je h.1.symm),zy,aL (λh=>je h.1.symm)] at hR;exact h.ou j k hm R hR
theorem Rel.less (h:Rel P C A X σ a w F) {X':FP} (ht:∀ b i,X' b i<=X b i):Rel P C A X' σ a w F:=
 { h with
  qg:=λb i=>by have:=h.qg b i;grind
  rf:=λb i hp=>h.rf b i (by grind)
  ll:=λb i hp=>h.ll b i (hp.imp (λhp=>by grind) id)
  own:=λb i hp=>h.own b i (by grind) }
theorem Ext.refl (w:World) (F:FP):Ext w w F:=⟨aH _,λ_ _ _ _ _ h=>h,λ_ _ h=>h,λ_ _ _=>rfl,rfl,rfl,rfl,λ_ _ _=>rfl,aH _⟩
theorem Ext.mono {F F':FP} (h:Ext w w2 F) (hF:∀ b i,F' b i=0->F b i=0):Ext w w2 F':={ h with cell:=λb i hb hz=>h.cell b i hb (hF b i hz),obj:=λb hb hz=>h.obj b hb λi=>hF b i (hz i) }
theorem Ext.trans {w3:World} {F G:FP} (h:Ext w w2 F) (h2:Ext w2 w3 G) (hG:∀ b i,b < w.heap.size->F b i=0->G b i=0):Ext w w3 F:=
 ⟨bI h.size h2.size,λb i hb hz u hu=>h2.cell b i (cW hb h.size) (hG b i hb hz) u (h.cell b i hb hz u hu),λb n hn=>h2.x_ b n (h.x_ b n hn),
  λb i hb=>(h2.AU b i (cW hb h.size)).trans (h.AU b i hb),h2.os.trans h.os,h2.tape.trans h.tape,h2.output.trans h.output,
  λb hb hz=>(h2.obj b (cW hb h.size) λi=>hG b i hb (hz i)).trans (h.obj b hb hz),bI h.drawn h2.drawn⟩
theorem Rel.chg (h:Rel P C A X σ a w F) {r:Nat} (hr:r < σ.n) {σ':St} (hn:σ'.n=σ.n) (xm:∀ i,i≠r->σ'.get i=σ.get i) (acj:∀ i,i≠r->σ'.lC i=σ.lC i)
  (hvr:Below (σ.lC r) (σ'.lC r)) (S_:(σ'.lC r).length=5) (EL:∀ e,e ∈ σ'.ay->e ∈ σ.ay) (ack:∀ j k,(j,k,false) ∈ σ.ay->(j,k,false) ∈ σ'.ay) (hgh:∀ e,e ∈ σ'.gh->e ∈ σ.gh)
  {X2 WU:FP} {R:Pl} {H2:List Path} {du:List Value} (hs:db P A2 σ' a w2 (tmp a r) (σ'.get r) WU) (hR:d8 w (tmp a r) (σ.get r)=some R)
  (hR2:d8 w2 (tmp a r) (σ'.get r)=some ⟨R.t,H2,du,R.ad⟩)
  (da:∀ (p:Path) (snap:List Nat),Below snap (σ.lC r)->σ'.ok r snap=true->(snap.length=min 5 (1+d_ p)\/snap.length=min 5 (2+d_ p)\/snap.length=5) ->
   ∃ D full,d_ p<=D/\(snap.length=min 5 (2+d_ p)->d_ p < D\/full)/\(snap.length=5->full)/\sZ D full w R.t R.H R.cs R.ad w2 H2 du)
  (hA:∀ b i,A b i->A2 b i) (hA2:∀ b i,A2 b i->A b i\/(1<=X b i+F r b i/\X2 b i+WU b i=0))
  (hx:∀ b i,X2 b i+WU b i<=X b i+F r b i) (hw:Ext w w2 λb i=>X b i+F r b i) (acl:∀ t m H v,σ'.get r=.box t m H v->∃ m0 H0 v0,σ.get r=.box t m0 H0 v0) (BX:∀ k,(r,k,true) ∈ σ'.ay->du=R.cs) :
  Rel P C A2 X2 σ' a w2 (gf F r WU):=by
 have hle:∀ b i,X b i+F r b i<=X b i+bf σ.n F b i:=λb i=>by grind [dj]
 have um:∀ b i,A b i->∀ u,ce w b i=some u->ce w2 b i=some u:=λb i ha u hu=>by
  refine hw.cell b i (h.ll b i (.inr ha)) ?_ u hu;rcases bM (X b i+F r b i) with h0 | h0
  ·exact h0
  ·exact absurd ha (h.rf b i (bI h0 (hle b i)))
 have GI:∀ j,j < σ.n->j≠r->∀ b i,1<=F j b i->(∀ u,ce w b i=some u->ce w2 b i=some u)/\w2.frozen? ⟨b,i,none⟩=w.frozen? ⟨b,i,none⟩:=λj hj WV b i hp=>by
  have h1:=wi F hj hr WV b i;have h2:=h.qg b i;have hb:=h.ll b i (.inl (by grind));exact ⟨λu hu=>hw.cell b i hb (by grind) u hu,hw.AU b i hb⟩
 have oH:zx σ a w σ' a w2:=by
  intro r' p snap hb;by_cases hrr:r'=r
  ·subst hrr;refine ⟨hb.trans hvr,λbd=>?_⟩
   refine ⟨(Ih hb hvr bd).1,λhl pl gy=>?_⟩
   obtain ⟨D,full,h1,h2,h3,h4⟩:=da p snap hb bd hl;unfold place at gy ⊢;rw[hR] at gy;rw[hR2];obtain ⟨H',ca,h5,h6⟩:=h4 p pl h1 gy;grind
  ·rw[St.ok,acj r' hrr];refine ⟨hb,λbd=>⟨bd,λhl pl gy=>⟨pl.H,pl.cs,?_,λ_=>rfl⟩⟩⟩
   have a7:=uP gy;exact xw (h.i9 r' a7) (xm r' hrr) rfl um (λb i hp=>(GI r' a7 hrr b i hp).1) gy
 have yC:∀ b i,X2 b i+bf σ.n (gf F r WU) b i<=X b i+bf σ.n F b i:=λb i=>by
  grind [uO]
 refine ⟨by rw[hn];exact h.size,h.defers,λi hi=>?_,λd r' p snap hm=>sw.nK oH (h.gh d r' p snap (hgh _ hm)),λb i=>by rw[hn];exact bI (yC b i) (h.qg b i),λb i hp ha=>?_,
  λb i hp=>?_,λi=>?_,h.ext.trans hw λb i hb hz=>?_,λb i hp=>by rw[hn] at hp;exact h.own b i (bI hp (yC b i)),λb i ha=>hA b i (h.a0 b i ha),λb i ha=>?_,
  λj k hm=>h.pv j k (EL _ hm),λr' t m H v hg hl=>?_,λj k hm R' qh=>?_,h.yz⟩
 ·rw[hn] at hi;by_cases Ta:i=r
  ·grind [gf]
  ·simp only[gf,aL Ta];rw[xm i Ta];exact db.nK oH hA um hw.x_ (GI i hi Ta) (h.i9 i hi)
 ·rw[hn] at hp
  rcases hA2 b i ha with ha | ⟨h1,h2⟩
  ·exact h.rf b i (bI hp (yC b i)) ha
  ·have h3:=h.qg b i;grind [uO]
 ·rw[hn] at hp;refine cW (h.ll b i ?_) hw.size;grind
 ·by_cases Ta:i=r
  ·grind
  ·rw[acj i Ta];exact h.mH i
 ·rcases bM (X b i+F r b i) with h0 | h0
  ·exact h0
  ·have:=h.own b i (bI h0 (hle b i));omega
 ·rcases hA2 b i ha with ha | ⟨h1,_⟩
  ·exact h.a1 b i ha
  ·exact .inr (h.own b i (bI h1 (hle b i)))
 ·have:∃ m0 H0 v0,σ.get r'=.box t m0 H0 v0:=by
   grind
  obtain ⟨m0,H0,v0,hg0⟩:=this;obtain ⟨b,h1,h2⟩:=h.whole r' t m0 H0 v0 hg0 λk hm=>hl k (ack _ _ hm);exact ⟨b,h1,hw.x_ _ _ h2⟩
 ·by_cases WV:j=r
  ·subst WV;rw[hR2] at qh;injection qh with qh;subst qh;show c_ R.t du=_;rw[BX k hm];exact h.ou j k (EL _ hm) R hR
  ·rcases cR j σ.n with hj | hj
   ·rw[xm j WV] at qh;have nx:=h.i9 j hj
    cases Bb:d8 w (tmp a j) (σ.get j) with
    | none=>exfalso;cases hg:σ.get j <;> rw[hg] at Bb qh <;> simp only[d8] at Bb qh <;> first | grind | grind | grind
    | some R0=>
     rw[yB nx (λb i hp=>(GI j hj WV b i hp).1) Bb] at qh;injection qh with qh;subst qh;exact h.ou j k (EL _ hm) _ Bb
   ·rw[mQ (by rw[hn];omega)] at qh;cases qh
end
end OT
set_option linter.unusedVariables false
set_option linter.unusedSimpArgs false
namespace OT
open Go
def lF (ad:Option (Nat×Nat)) (n:Nat):FP:=λb i=>match ad with
 | some (b',o)=>dt b' o n b i
 | none=>0
section
variable {P:Program} {C:Ctx} {A:Cells} {X:FP} {σ:St} {a:Act} {w:World} {F:Nat->FP} {R:Type} {x:R}
theorem KB {r:Nat} {K:(t:Ty)->Md->List Path->t.den->Option R} (h:yq σ r K=some x) :
  r < σ.n/\∃ t m H v,(σ.get r=.own t m H v\/σ.get r=.box t m H v)/\K t m H v=some x:=by
 grind [yq,mQ]
structure acm (P:Program) (A:Cells) (σ:St) (a:Act) (w:World) (r:Nat) (G:FP) (t:Ty) (m:Md) (H:List Path) (v:t.den) (cs:List Value) (ad:Option (Nat×Nat)) (F1:FP):Prop where
 root:d8 w (tmp a r) (σ.get r)=some ⟨t,H,cs,ad⟩
 rep:an P w A t m H v cs F1
 le:∀ b i,lF ad t.sz b i+F1 b i<=G b i
 has:∀ b o,ad=some (b,o)->Has w b o cs
 AU:∀ b o,ad=some (b,o)->∀ j,j < t.sz->w.frozen? ⟨b,o+j,none⟩=false
 val:ad=none->tmp a r=c_ t cs/\σ.get r=.own t m H v
 ptr:∀ b o,ad=some (b,o)->tmp a r=.pointer (some ⟨b,o,none⟩)/\σ.get r=.box t m H v
theorem db.root {r:Nat} {G:FP} (h:db P A σ a w (tmp a r) (σ.get r) G) {t:Ty} {m:Md} {H:List Path} {v:t.den} (hg:σ.get r=.own t m H v\/σ.get r=.box t m H v) :
  ∃ cs ad F1,acm P A σ a w r G t m H v cs ad F1:=by
 rcases hg with hg | hg
 ·rw[hg] at h;obtain ⟨cs,h1,h2⟩:=h;refine ⟨cs,none,G,by grind [d8,lX,an.length,an.one],h2,λb i=>by simp[lF],(λb o h=>by cases h),(λb o h=>by cases h),λ_=>⟨h1,hg⟩,(λb o h=>by cases h)⟩
 ·rw[hg] at h;obtain ⟨b,o,L,F1,h1,h2,h3,h4,h5,h6⟩:=h;refine ⟨L,some (b,o),F1,by grind [d8,fe],h6,λb i=>h5 b i,?_,?_,(λh=>by cases h),?_⟩
  all_goals grind
theorem l6 (h:Rel P C A X σ a w F) {r:Nat} {p:Path} {K:(t:Ty)->Md->List Path->t.den->Option R} (hk:qA σ r p K=some x) :
  r < σ.n/\∃ (t':Ty) (m':Md) (H':List Path) (v':t'.den) (ca:List Value) (de:Option (Nat×Nat)) (F':FP),K t' m' H' v'=some x/\(∀ {S:Type} (K0:(t:Ty)->Md->List Path->t.den->Option S),qA σ r p K0=K0 t' m' H' v')/\place σ a w r p=some ⟨t',H',ca,de⟩/\an P w A t' m' H' v' ca F' /\
   (∀ b i,F' b i<=F r b i)/\(∀ b o,de=some (b,o)->Has w b o ca):=by
 obtain ⟨hr,t,m,H,v,hg,hk⟩:=KB hk;obtain ⟨cs,ad,F1,RO⟩:=(h.i9 r hr).root hg;obtain ⟨t',m',H',v',ca,de,F',h1,hn,h2,h3,h4,h5,_⟩:=ace p t hk RO.rep (ad:=ad) RO.has;refine ⟨hr,t',m',H',v',ca,de,F',h1,λK0=>?_,?_,h3,λb i=>by have:=h4 b i;have:=RO.le b i;omega,h5⟩
 ·grind [qA,yq]
 unfold place;rw[RO.root];exact h2
theorem zU (r:Nat) (t:Ty) (m:Md) (H:List Path) (v:t.den) (i:Nat) (h:i≠r):(σ.kU r t m H v).get i=σ.get i:=by
 grind [St.kU,Ii]
theorem yD {r:Nat} (hr:r < σ.n) {t t0:Ty} {m m0:Md} {H H0:List Path} {v0:t0.den} (v:t.den) (h:σ.get r=.own t0 m0 H0 v0):(σ.kU r t m H v).get r=.own t m H v:=by
 grind [St.kU,Ii]
theorem yE {r:Nat} (hr:r < σ.n) {t t0:Ty} {m m0:Md} {H H0:List Path} {v0:t0.den} (v:t.den) (h:σ.get r=.box t0 m0 H0 v0):(σ.kU r t m H v).get r=.box t m H v:=by
 grind [St.kU,Ii]
theorem wr (r:Nat) (t:Ty) (m:Md) (H:List Path) (v:t.den):(σ.kU r t m H v).n=σ.n:=by unfold St.kU;split <;> rfl
theorem sa (r:Nat) (t:Ty) (m:Md) (H:List Path) (v:t.den) (i:Nat):(σ.kU r t m H v).lC i=σ.lC i:=by unfold St.kU;split <;> rfl
theorem yF (r:Nat) (t:Ty) (m:Md) (H:List Path) (v:t.den):(σ.kU r t m H v).ay=σ.ay:=by unfold St.kU;split <;> rfl
theorem EM (r:Nat) (t:Ty) (m:Md) (H:List Path) (v:t.den):(σ.kU r t m H v).gh=σ.gh:=by unfold St.kU;split <;> rfl
def rT (σ σ':St):Prop:=∀ (w:World) (tv:Value) (i:Nat) (R:Pl),d8 w tv (σ'.get i)=some R->∃ H,d8 w tv (σ.get i)=some ⟨R.t,H,R.cs,R.ad⟩
theorem rT.refl (σ:St):rT σ σ:=λw tv i R h=>⟨R.H,h⟩
theorem rT.trans {σ σ' zA:St} (h:rT σ σ') (h':rT σ' zA):rT σ zA:=by
 intro w tv i R0 hR;obtain ⟨H,h1⟩:=h' w tv i R0 hR;exact h w tv i ⟨R0.t,H,R0.cs,R0.ad⟩ h1
theorem AV {r:Nat} (hr:r < σ.n) {t:Ty} {m m0:Md} {H H0:List Path} {v0:t.den} (v:t.den) (h:σ.get r=.own t m0 H0 v0\/σ.get r=.box t m0 H0 v0) {σ':St} (hg:∀ i,σ'.get i=(σ.kU r t m H v).get i):rT σ σ':=by
 intro w tv i R hR;rw[hg] at hR;by_cases hi:i=r
 ·subst hi;rcases h with h | h
  ·grind [yD,d8]
  ·rw[yE hr v h] at hR;rw[h];simp only[d8] at hR ⊢;grind
 ·rw[zU r t m H v i hi] at hR;exact ⟨R.H,hR⟩
structure Za (σ:St) (r:Nat) (s:Slot) (acn:Prop) (σ':St):Prop where
 n:σ'.n=σ.n
 get:∀ i,i≠r->σ'.get i=σ.get i
 root:σ'.get r=s
 lC:∀ i,i≠r->σ'.lC i=σ.lC i
 below:Below (σ.lC r) (σ'.lC r)
 mH:(σ'.lC r).length=5
 ay:∀ e,e ∈ σ'.ay->e ∈ σ.ay
 aaF:∀ j k,(j,k,false) ∈ σ.ay->(j,k,false) ∈ σ'.ay
 gh:∀ e,e ∈ σ'.gh->e ∈ σ.gh
 head:∀ k,(r,k,true) ∈ σ'.ay->acn
theorem Rel.xO (h:Rel P C A X σ a w F) {r:Nat} {p:Path} {f:(t':Ty)->Md->List Path->t'.den->(Md->List Path->t'.den->Option R)->Option R}
  {Kf:(t:Ty)->Md->List Path->t.den->Option R} (hk:yq σ r (λt0 m0 H0 v0=>st p t0 m0 H0 v0 f λm' H' v'=>Kf t0 m' H' v')=some x) :
  r < σ.n/\∃ (t':Ty) (m':Md) (H':List Path) (v':t'.den) (ca:List Value) (de:Option (Nat×Nat)) (F':FP) (kk:Md->List Path->t'.den->Option R),
   f t' m' H' v' kk=some x/\(∀ {S:Type} (K0:(t:Ty)->Md->List Path->t.den->Option S),qA σ r p K0=K0 t' m' H' v')/\place σ a w r p=some ⟨t',H',ca,de⟩/\an P w A t' m' H' v' ca F' /\
   (∀ b i,lF de t'.sz b i+F' b i<=F r b i)/\(∀ b o,de=some (b,o)->Has w b o ca)/\(∀ b o,de=some (b,o)->∀ j,j < t'.sz->w.frozen? ⟨b,o+j,none⟩=false) /\
   ∀ m2 H2 (v2:t'.den),kk m2 H2 v2=some x->∀ (w2:World) (A2:Cells) (du:List Value) (F2 X2:FP),
    Ext w w2 (λb i=>X b i+(F' b i+lF de t'.sz b i))->(∀ b i,A b i->A2 b i)->(∀ b i,A2 b i->A b i\/(1<=X b i+F' b i/\X2 b i+F2 b i=0)) ->
    (∀ b i,X2 b i+F2 b i<=X b i+F' b i)->(∀ b o,de=some (b,o)->Has w2 b o du)->(de=none->du=ca)->an P w2 A2 t' m2 H2 v2 du F2 ->
    ∃ (t0:Ty) (m3:Md) (H3:List Path) (v3:t0.den) (Fr:FP) (A3:Cells),Kf t0 m3 H3 v3=some x/\(∃ (m0:Md) (H0:List Path) (v0:t0.den),σ.get r=.own t0 m0 H0 v0\/σ.get r=.box t0 m0 H0 v0)/\(∀ b i,A2 b i->A3 b i)/\(∀ b i,Fr b i<=F r b i+X b i) /\
     ∀ σ',Za σ r ((σ.kU r t0 m3 H3 v3).get r) (1<=d_ p\/du=ca) σ' ->
      (∀ (p':Path) (snap:List Nat),Below snap (σ.lC r)->σ'.ok r snap=true->(snap.length=min 5 (1+d_ p')\/snap.length=min 5 (2+d_ p')\/snap.length=5) ->
       ∃ D full,d_ p'<=D+d_ p/\(snap.length=min 5 (2+d_ p')->d_ p' < D+d_ p\/full)/\(snap.length=5->full)/\sZ D full w t' H' ca de w2 H2 du) ->
      Rel P C A3 X2 σ' a w2 (gf F r Fr):=by
 obtain ⟨hr,t,m,H,v,hg,hk⟩:=KB hk;obtain ⟨cs,ad,F1,RO⟩:=(h.i9 r hr).root hg;have IK:∀ b i,X b i+F r b i<=1:=λb i=>by have:=h.qg b i;grind [dj]
 have zw:∀ b o,ad=some (b,o)->∀ j,j < t.sz->F1 b (o+j)=0:=λb o e j hj=>by
  have h1:=RO.le b (o+j);grind [lF,dt]
 obtain ⟨t',m',H',v',ca,de,F',G,kk,loc,M⟩:=acf p t hk RO.rep (λb i=>by have:=IK b i;have:=RO.le b i;omega) RO.has zw;have hlen:=an.length t RO.rep
 have Pf:∀ b i,lF de t'.sz b i+F' b i<=F r b i/\(1<=lF de t'.sz b i->1<=G b i\/1<=lF ad t.sz b i)/\lF de t'.sz b i<=1:=λb i=>by
  have h1:=M.sum b i;have h2:=RO.le b i;have h3:=IK b i
  cases lP:de with
  | none=>grind [lF]
  | some bo=>
   obtain ⟨b0,o0⟩:=bo;simp only[lF,dt];split
   ·rename_i gb;obtain ⟨rfl,afd,UG⟩:=gb
    cases loc with
    | none=>
     obtain ⟨b',o',e1,e2⟩:=M.out rfl;rw[lP] at e1;simp only[aP,bO] at e1;obtain ⟨rfl,rfl⟩:=e1;have:=(e2 (i - o0) Bys).1;grind
    | some off=>
     obtain ⟨e1,e2,e3⟩:=M.vC off rfl;grind [iu,dt,lF]
   ·omega
 refine ⟨hr,t',m',H',v',ca,de,F',kk,M.run,λK0=>?_,by unfold place;rw[RO.root];exact M.place,M.rep,λb i=>(Pf b i).1,M.has,λb o e j hj=>?_,?_⟩
 ·unfold qA yq;rcases hg with hg | hg <;> rw[hg] <;> exact M.WN K0
 ·cases loc with
  | none=>
   obtain ⟨b',o',e1,e2⟩:=M.out rfl;grind
  | some off=>
   obtain ⟨e1,e2,e3⟩:=M.vC off rfl
   cases BY:ad with
   | none=>rw[e,BY] at e3;cases e3
   | some y=>
    rw[e,BY] at e3;simp only[iu,bV,aP,bO] at e3;obtain ⟨rfl,rfl⟩:=e3;have:=RO.AU y.1 y.2 BY (off+j) Bys;grind
 intro m2 H2 v2 Pg w2 A2 du F2 X2 fh hA hA2 hX xn Kx Ij;have An:=an.length t' Ij
 have um:∀ b i,A b i->∀ u,ce w b i=some u->ce w2 b i=some u:=λb i ha u hu=>by
  refine fh.cell b i (h.ll b i (.inr ha)) ?_ u hu;have h1:=(Pf b i).1;have h2:=dj F hr b i;have h3:=h.rf b i;grind
 have hGc:∀ b i,1<=G b i\/1<=lF ad t.sz b i->(∀ o,de=some (b,o)->¬ (o<=i/\i < o+t'.sz))->∀ u,ce w b i=some u->ce w2 b i=some u:=λb i hp hn u hu=>by
  have h1:=Pf b i;have h2:=IK b i;have h3:=M.sum b i;have h4:=RO.le b i
  refine fh.cell b i (h.ll b i (.inl (by grind [dj]))) ?_ u hu;show X b i+(F' b i+lF de t'.sz b i)=0
  have h5:lF de t'.sz b i=0:=by
   cases lP:de <;> grind [lF,dt]
  omega
 have adn:∀ b i,F2 b i+G b i<=1:=λb i=>by
  have:=hX b i;have:=M.sum b i;have:=RO.le b i;grind
 obtain ⟨m3,H3,v3,F3,k1,k2,k3,k4⟩:=M.back m2 H2 v2 Pg w2 A2 du F2 fh.x_ hA um (λb i hp hn=>hGc b i (.inl hp) hn) xn Ij adn
 have aco:(lT loc cs t'.sz du).length=t.sz:=by
  cases loc with
  | none=>exact hlen
  | some off=>have:=(M.vC off rfl).1;grind [lT,wS]
 have Bh:du=ca->lT loc cs t'.sz du=cs:=λe=>by
  cases loc with
  | none=>rfl
  | some off=>
   obtain ⟨e1,e2,_⟩:=M.vC off rfl;rw[e,e2];exact BU Bys
 have UH:∀ b o,ad=some (b,o)->Has w2 b o (lT loc cs t'.sz du):=λb o e=>by
  have cells:∀ j u,cs[j]?=some u->(∀ o',de=some (b,o')->¬ (o'<=o+j/\o+j < o'+t'.sz))->ce w2 b (o+j)=some u:=λj u hu hn=>by
   have hj:j < t.sz:=hlen ▸ (aM.1 hu).1;exact hGc b (o+j) (.inr (by grind [lF,dt])) hn u (RO.has b o e j u hu)
  cases Ph:loc with
  | none=>
   intro j u hu;refine cells j u hu λo' he gb=>?_;have hj:j < t.sz:=hlen ▸ (aM.1 hu).1;obtain ⟨b',o'',e1,e2⟩:=M.out Ph;rw[he] at e1;simp only[aP,bO] at e1;obtain ⟨rfl,rfl⟩:=e1;have h1:=(e2 (o+j - o') Bys).1;rw[show o'+(o+j - o')=o+j by omega] at h1;have h2:=RO.le b (o+j);have h3:=IK b (o+j);have h4:=M.sum b (o+j)
   grind
  | some off=>
   obtain ⟨e1,e2,e3⟩:=M.vC off Ph;rw[e] at e3;simp only[iu,bV] at e3
   exact S8 Bys An (xn b (o+off) e3) (λj u hu hn=>cells j u hu λo' he gb=>by
    grind)
 refine ⟨t,m3,H3,v3,λb i=>lF ad t.sz b i+F3 b i,λb i=>A2 b i\/(1<=F2 b i+G b i/\F3 b i=0),k1,⟨m,H,v,hg⟩,λ_ _ h=>.inl h,λb i=>?_,λσ' on da=>?_⟩
 ·have h1:=k2 b i;have h2:=hX b i;have h3:=M.sum b i;have h4:=RO.le b i
  grind
 have UI:=k3 (λb i=>A2 b i\/(1<=F2 b i+G b i/\F3 b i=0)) (λ_ _ h=>.inl h) (λb i h1 h2=>.inr ⟨h1,h2⟩)
 have Oy:db P (λb i=>A2 b i\/(1<=F2 b i+G b i/\F3 b i=0)) σ' a w2 (tmp a r) (σ'.get r) (λb i=>lF ad t.sz b i+F3 b i)/\d8 w2 (tmp a r) (σ'.get r)=some ⟨t,H3,lT loc cs t'.sz du,ad⟩:=by
  rw[on.root]
  cases BY:ad with
  | none=>
   obtain ⟨e1,e2⟩:=RO.val BY
   have e3:lT loc cs t'.sz du=cs:=by
    cases Ph:loc with
    | none=>rfl
    | some off=>
     have:=(M.vC off Ph).2.2;rw[BY] at this;rw[<-Ph];exact Bh (Kx this)
   rw[yD hr v3 e2];rw[e3] at UI ⊢;exact ⟨⟨cs,e1,an.le UI (λb i=>by grind)⟩,by grind [d8,lX,an.one]⟩
  | some bo=>
   obtain ⟨b,o⟩:=bo;obtain ⟨e1,e2⟩:=RO.ptr b o BY;rw[yE hr v3 e2,e1];have hh:=UH b o BY;refine ⟨⟨b,o,_,F3,rfl,aco,hh,λj hj=>?_,λb' i=>?_,UI⟩,by grind [d8,fe]⟩
   ·have hb:b < w.heap.size:=h.ll b (o+j) (.inl (by
     have h1:=RO.le b (o+j);grind [dj,lF,dt]))
    rw[fh.AU b (o+j) hb];exact RO.AU b o BY j hj
   ·exact aH _
 refine h.chg hr on.n on.get on.lC on.below on.mH on.ay on.aaF on.gh Oy.1 RO.root Oy.2 (λp' snap h1 h2 h3=>?_) (λb i ha=>.inl (hA b i ha)) (λb i ha=>?_) (λb i=>?_) (fh.mono λb i hz=>?_) (λt5 m5 H5 v5 hg5=>?_) (λk hm=>?_)
 ·grind
 ·have h1:=hX b i;have h2:=k2 b i;have h3:=M.sum b i;have h4:=RO.le b i;grind
 ·have h1:=hX b i;have h2:=k2 b i;have h3:=M.sum b i;have h4:=RO.le b i
  grind
 ·grind
 ·rw[on.root] at hg5;grind [yD,yE]
 ·rcases on.head k hm with hp | he
  ·rw[M.UD hp];rfl
  grind
end
end OT
set_option linter.unusedVariables false
set_option linter.unusedSimpArgs false
namespace OT
open Go
theorem an.aaG {P:Program} {w:World} {A:Cells}:∀ (t:Ty) {m:Md} {H:List Path} {v:t.den} {cs:List Value} {F:FP},an P w A t m H v cs F->an P w A t m (vL t) v cs (λ_ _=>0):=by
 intro t
 induction t with
 | pair a b nL nw=>
  intro m H v cs F h;obtain ⟨_,F1,F2,hs,h1,h2⟩:=h;refine ⟨by grind [vL,tM,su],λ_ _=>0,λ_ _=>0,λ_ _=>aH _,?_,?_⟩
  all_goals grind [vL,vA,wk,wl,vB]
 | aa e ih=>
  intro m H v cs F h;have h1:=an.length _ h;have h2:=an.one _ h
  match cs,h1 with
  | [y],_=>grind [an,vL,hole]
 | ptr e ih=>
  intro m H v cs F h;have h1:=an.length _ h;have h2:=an.one _ h
  match cs,h1 with
  | [y],_=>grind [an,vL,hole]
 | arr n e ih=>intro m H v cs F h;rw[vL,h.2.1];obtain ⟨rfl,h⟩:=h;exact ⟨rfl,h⟩
 | map k v=>
  intro m H v cs F h;have h1:=an.length _ h;have h2:=an.one _ h
  match cs,h1 with
  | [y],_=>grind [an,vL,hole]
 | _=>intro m H v cs F h;exact h
section
variable {P:Program} {C:Ctx} {A:Cells} {X:FP} {σ:St} {a:Act} {w:World} {F:Nat->FP} {R:Type} {x:R}
structure At (σ:St) (r:Nat) (p:Path) (t:Ty) (m:Md) (H:List Path) (v:t.den):Prop where
 eq:∀ {S:Type} (K0:(t:Ty)->Md->List Path->t.den->Option S),qA σ r p K0=K0 t m H v
theorem At.inj {r:Nat} {p:Path} {t t':Ty} {m m':Md} {H H':List Path} {v:t.den} {v':t'.den} (h:At σ r p t m H v) (h':At σ r p t' m' H' v'):t=t'/\m=m'/\H=H'/\HEq v v':=by
 have h1:=h.eq (λt m H v=>some (⟨t,m,H,v⟩:(t:Ty)×Md×List Path×t.den));rw[h'.eq] at h1;grind
theorem KC (σ:St) (r d:Nat):(σ.head r d).n=σ.n:=by unfold St.head;split <;> rfl
theorem BZ (σ:St) (r d i:Nat):(σ.head r d).get i=σ.get i:=by unfold St.head;split <;> rfl
theorem B5 (σ:St) (r d i:Nat):(σ.head r d).lC i=σ.lC i:=by unfold St.head;split <;> rfl
theorem Tb (σ:St) (r d:Nat):(σ.head r d).gh=σ.gh:=by unfold St.head;split <;> rfl
theorem Pi {r d:Nat} {f:List Nat->List Nat} (h1:Below (σ.lC r) (f (σ.lC r))) (h2:(f (σ.lC r)).length=5) {t:Ty} {m:Md} {H:List Path} {v:t.den} {q:Prop} (hq:1<=d->q) :
  Za σ r ((σ.kU r t m H v).get r) q (((σ.kU r t m H v).nv r f).head r d) where
 n:=by rw[KC];exact wr r t m H v
 get i hi:=by rw[BZ];exact zU r t m H v i hi
 root:=by rw[BZ];rfl
 lC i hi:=by grind [B5,rS,sa]
 below:=by grind [B5,rS,sa]
 mH:=by grind [B5,rS,sa]
 ay e he:=by
  unfold St.head at he;grind [Kz,St.nv,yF]
 aaF j k hm:=by
  unfold St.head;grind [UF,St.nv,yF]
 gh e he:=by grind [Tb,St.nv,EM]
 head k hm:=by
  unfold St.head at hm;split at hm
  ·exact absurd ⟨rfl,rfl⟩ (Kz hm).2
  grind
theorem Pj (h:Rel P C A X σ a w F) {r:Nat} {p:Path} {K:St->Option R} (hk:Bg σ r p K=some x) {t':Ty} {m':Md} {H':List Path} {v':t'.den} (hn:At σ r p t' m' H' v') :
  ∃ (A':Cells) (σ':St) (F':Nat->FP) (cs:List Value) (ad:Option (Nat×Nat)) (Fv:FP),K σ'=some x/\(∀ b i,A b i->A' b i)/\Rel P C A' (λb i=>X b i+Fv b i) σ' a w F'/\σ'.n=σ.n/\rT σ σ' /\
   place σ a w r p=some ⟨t',H',cs,ad⟩/\an P w A t' m' H' v' cs Fv/\∀ b i,Fv b i<=F r b i:=by
 obtain ⟨hr,t1,m1,H1,v1,cs,ad,Fv,kk,h1,h2,h3,h4,h5,h6,h7,h8⟩:=h.xO hk;obtain ⟨e1,e2,e3,e4⟩:=hn.inj ⟨h2⟩;subst e1;subst e2;subst e3;have e4:=gH e4;subst e4;obtain ⟨t0,m3,H3,v3,Fr,A3,k1,⟨m0,H0,v0,k0⟩,k2,k3,k4⟩:=h8 _ _ _ h1 w A cs (λ_ _=>0) (λb i=>X b i+Fv b i) (Ext.refl _ _) (λ_ _ h=>h) (λ_ _ h=>.inl h) (λb i=>aH _) h6 (λ_=>rfl) (an.aaG _ h4);refine ⟨A3,_,_,cs,ad,Fv,k1,k2,k4 _ (Pi (wo _ (h.mH r)) (EK _ (h.mH r)) .inl) (λp' snap hb bd hl=>?_),?_,AV hr v3 k0 (λi=>by rw[BZ];rfl),h3,h4,λb i=>by grind⟩
 ·refine ⟨0,False,?_,?_,?_,sZ.zero (A:=A) ad (an.aaG _ h4)⟩
  all_goals
   unfold St.ok at bd;rw[B5,rS,aG rfl,sa] at bd;have:=GH (d_ p) (h.mH r) hb bd
  all_goals omega
 ·rw[KC];exact wr _ _ _ _ _
theorem Mj (h:Rel P C A X σ a w F) {r:Nat} {p:Path} {K:St->Option R} (hk:Bg σ r p K=some x) {t':Ty} {m':Md} {v':t'.den} (hn:At σ r p t' m' [] v') :
  ∃ (A':Cells) (σ':St) (F':Nat->FP) (cs:List Value) (ad:Option (Nat×Nat)) (Fv:FP),K σ'=some x/\(∀ b i,A b i->A' b i)/\Rel P C A' (λb i=>X b i+Fv b i) σ' a w F'/\σ'.n=σ.n/\rT σ σ' /\
   place σ a w r p=some ⟨t',[],cs,ad⟩/\an P w A t' m' [] v' cs Fv:=
 have ⟨A',σ',F',cs,ad,Fv,h1,h2,h3,h4,h5,h6,h7,_⟩:=Pj h hk hn
 ⟨A',σ',F',cs,ad,Fv,h1,h2,h3,h4,h5,h6,h7⟩
theorem M9 {r:Nat} (hv:(σ.lC r).length=5) {t:Ty} {m:Md} {H:List Path} {v:t.den} {q:Prop} (hq:q):Za σ r ((σ.kU r t m H v).get r) q (σ.kU r t m H v):=
 ⟨wr _ _ _ _ _,λi hi=>zU _ _ _ _ _ i hi,rfl,λi _=>sa _ _ _ _ _ i,by rw[sa];exact Below.refl _,by grind [sa],
  λe he=>by grind [yF],λj k hm=>by grind [yF],λe he=>by grind [EM],λ_ _=>hq⟩
theorem RP (h:Rel P C A X σ a w F) {r:Nat} {p:Path} {m2:Md} {K:St->Option R} (hk:xY σ r p m2 K=some x) :
  ∃ (A':Cells) (σ':St) (F':Nat->FP),K σ'=some x/\(∀ b i,A b i->A' b i)/\Rel P C A' X σ' a w F'/\σ'.n=σ.n/\rT σ σ':=by
 obtain ⟨hr,t1,m1,H1,v1,cs,ad,Fv,kk,h1,h2,h3,h4,h5,h6,h7,h8⟩:=h.xO hk;have IK:∀ b i,X b i+F r b i<=1:=λb i=>by have:=h.qg b i;grind [dj]
 split at h1
 ·rename_i hc;simp only[aD,bH] at hc;obtain ⟨rfl,hc⟩:=hc;obtain ⟨F1,hF1,jb⟩:=an.fits _ hc h4 (λb i=>by grind);have aaH:=jb (λb i=>A b i\/(1<=Fv b i/\F1 b i=0)) (λ_ _ h=>.inl h) (λb i h1 h2=>.inr ⟨h1,h2⟩)
  obtain ⟨t0,m3,H3,v3,Fr,A3,k1,⟨m0,H0,v0,k0⟩,k2,k3,k4⟩:=h8 _ _ _ h1 w (λb i=>A b i\/(1<=Fv b i/\F1 b i=0)) cs F1 X (Ext.refl _ _) (λ_ _ h=>.inl h)
   (λb i ha=>ha.imp id λ⟨h1,h2⟩=>⟨by omega,by grind⟩) (λb i=>by grind) h6 (λ_=>rfl) aaH
  exact ⟨A3,_,_,k1,λb i ha=>k2 b i (.inl ha),k4 _ (M9 (h.mH r) (.inr rfl)) (λp' snap hb bd hl=>⟨d_ p'+1,True,by omega,λ_=>.inr trivial,λ_=>trivial,
   sZ.same ad h4 (λ_ _ _ _ h=>h) (λ_ _ _ _ h=>h) _ True⟩),wr _ _ _ _ _,AV hr v3 k0 (λi=>rfl)⟩
 ·cases h1
theorem Ao (h:Rel P C A X σ a w F) {r:Nat} {p:Path} {K:St->Option R} (hk:zu σ r p K=some x) :
  ∃ (A':Cells) (σ':St) (F':Nat->FP) (t':Ty) (m':Md) (v':t'.den) (cs:List Value) (ad:Option (Nat×Nat)),K σ'=some x/\(∀ b i,A b i->A' b i)/\Rel P C A' X σ' a w F'/\σ'.n=σ.n/\rT σ σ' /\
   At σ r p t' m' [] v'/\place σ a w r p=some ⟨t',[],cs,ad⟩/\Ro P w A' t' v' cs:=by
 obtain ⟨hr,t1,m1,H1,v1,cs,ad,Fv,kk,h1,h2,h3,h4,h5,h6,h7,h8⟩:=h.xO hk;have IK:∀ b i,X b i+F r b i<=1:=λb i=>by have:=h.qg b i;grind [dj]
 split at h1
 ·rename_i hc;simp only[aD,bH] at hc;obtain ⟨rfl,hc⟩:=hc;have yG:Ro P w (λb i=>A b i\/1<=Fv b i) t1 v1 cs:=an.yw (λ_ _ h=>.inl h) t1 h4 (λb i hp=>.inr hp)
  obtain ⟨t0,m3,H3,v3,Fr,A3,k1,⟨m0,H0,v0,k0⟩,k2,k3,k4⟩:=h8 _ _ _ h1 w (λb i=>A b i\/1<=Fv b i) cs (λ_ _=>0) X (Ext.refl _ _) (λ_ _ h=>.inl h)
   (λb i ha=>ha.imp id λh1=>⟨by omega,by grind⟩) (λb i=>by omega) h6 (λ_=>rfl) (Ro.rep _ _ (it _) yG)
  exact ⟨A3,_,_,t1,m1,v1,cs,ad,k1,λb i ha=>k2 b i (.inl ha),k4 _ (M9 (h.mH r) (.inr rfl)) (λp' snap hb bd hl=>⟨d_ p'+1,True,by omega,λ_=>.inr trivial,λ_=>trivial,
   sZ.same ad h4 (λ_ _ _ _ h=>h) (λ_ _ _ _ h=>h) _ True⟩),wr _ _ _ _ _,AV hr v3 k0 (λi=>rfl),⟨h2⟩,h3,Ro.mono (λ_ _ _ _ h=>h) k2 _ yG⟩
 ·cases h1
theorem c7 {t t':Ty} {v:t.den} {K:t'.den->Option R} (h:kh t t' v K=some x):∃ e:t=t',K (e ▸ v)=some x:=by
 grind [kh]
theorem D_ (h:Rel P C A X σ a w F) {r:Nat} {p:Path} {t:Ty} {m:Md} {v:t.den} {K:St->Option R} (hk:xl σ r p t m v K=some x) :
  r < σ.n/\∃ (m':Md) (H':List Path) (v':t.den) (cs:List Value) (ad:Option (Nat×Nat)) (F':FP),At σ r p t m' H' v'/\place σ a w r p=some ⟨t,H',cs,ad⟩/\an P w A t m' H' v' cs F' /\
   (∀ b i,lF ad t.sz b i+F' b i<=F r b i)/\(∀ b o,ad=some (b,o)->Has w b o cs/\∀ j,j < t.sz->w.frozen? ⟨b,o+j,none⟩=false) /\
   ∀ (w2:World) (A2:Cells) (du:List Value) (Fv X2:FP),Ext w w2 (λb i=>X b i+(F' b i+lF ad t.sz b i))->(∀ b i,A b i->A2 b i)->(∀ b i,A2 b i->A b i\/(1<=X b i+F' b i/\X2 b i+Fv b i=0)) ->
    (∀ b i,X2 b i+Fv b i<=X b i+F' b i)->(∀ b o,ad=some (b,o)->Has w2 b o du)->(ad=none->du=cs)->an P w2 A2 t m [] v du Fv ->
    ∃ (A3:Cells) (σ':St) (Fr:FP),K σ'=some x/\(∀ b i,A2 b i->A3 b i)/\Rel P C A3 X2 σ' a w2 (gf F r Fr)/\σ'.n=σ.n /\
     ∀ g:List Nat->List Nat,Below (σ.lC r) (g (σ.lC r))->(g (σ.lC r)).length=5->du=cs ->
      (∀ (p':Path) (snap:List Nat),Below snap (σ.lC r)->preB snap (g (σ.lC r))=true->(snap.length=min 5 (1+d_ p')\/snap.length=min 5 (2+d_ p')\/snap.length=5) ->
       ∃ D full,d_ p'<=D+d_ p/\(snap.length=min 5 (2+d_ p')->d_ p' < D+d_ p\/full)/\(snap.length=5->full)/\sZ D full w t H' cs ad w2 [] du) ->
      Rel P C A3 X2 { σ' with vr:=(σ.nv r g).vr,ay:=σ.ay } a w2 (gf F r Fr):=by
 obtain ⟨hr,t1,m1,H1,v1,cs,ad,Fv,kk,h1,h2,h3,h4,h5,h6,h7,h8⟩:=h.xO hk;obtain ⟨e,h1⟩:=c7 h1;subst e;refine ⟨hr,m1,H1,v1,cs,ad,Fv,⟨h2⟩,h3,h4,h5,λb o e=>⟨h6 b o e,h7 b o e⟩,λw2 A2 du Fv2 X2 g1 g2 g3 g4 g5 g6 g7=>?_⟩
 obtain ⟨t0,m3,H3,v3,Fr,A3,k1,⟨m0,H0,v0,k0⟩,k2,k3,k4⟩:=h8 m [] v h1 w2 A2 du Fv2 X2 g1 g2 g3 g4 g5 g6 g7;refine ⟨A3,_,Fr,k1,k2,k4 _ (Pi ?_ ?_ .inl) (λp' snap hb bd hl=>?_),?_,λg hg1 hg2 pA da=>?_⟩
 ·split
  ·exact zT (h.mH r)
  ·exact wo _ (h.mH r)
 ·split
  ·exact GG (h.mH r)
  ·exact EK _ (h.mH r)
 ·unfold St.ok at bd;rw[B5,rS,aG rfl,sa] at bd;by_cases hf:t.flat=true
  ·rw[aG hf] at bd;have:=Jv (h.mH r) hb bd;exact ⟨d_ p'+1,False,by omega,λ_=>.inl Bys,λ_=>by omega,sZ.flat (A:=A) ad g7 hf _⟩
  ·rw[aL hf] at bd;have:=GH (d_ p) (h.mH r) hb bd;exact ⟨0,False,by omega,λ_=>.inl Bys,λ_=>by omega,sZ.zero (A:=A) ad g7⟩
 ·rw[KC];exact wr _ _ _ _ _
 ·refine k4 _ ⟨by rw[KC];exact wr _ _ _ _ _,λi hi=>?_,?_,λi hi=>?_,?_,?_,λe he=>he,λj k hm=>hm,λe he=>?_,λ_ _=>.inr pA⟩ (λp' snap hb bd hl=>da p' snap hb ?_ hl)
  ·show (((σ.kU r t0 m3 H3 v3).nv r _).head r _).get i=_;rw[BZ];exact zU r t0 m3 H3 v3 i hi
  ·show (((σ.kU r t0 m3 H3 v3).nv r _).head r _).get r=_;rw[BZ];rfl
  ·show (σ.nv r g).lC i=σ.lC i;grind [rS]
  ·show Below _ ((σ.nv r g).lC r);grind [rS]
  ·show ((σ.nv r g).lC r).length=5;grind [rS]
  ·grind [Tb,St.nv,EM]
  ·have bd:preB snap ((σ.nv r g).lC r)=true:=bd;grind [rS]
end
end OT
set_option linter.unusedVariables false
set_option linter.unusedSimpArgs false
namespace OT
open Go
section
variable {P:Program} {C:Ctx} {A:Cells} {X:FP} {σ:St} {a:Act} {w:World} {F:Nat->FP} {R:Type} {x:R}
theorem Rel.grow (h:Rel P C A X σ a w F) {w1:World} (hw:Ext w w1 (λ_ _=>0)) {A1:Cells} {X1:FP} (hA:∀ b i,A b i->A1 b i)
  (IL:∀ b i,A1 b i->A b i\/(w.heap.size<=b/\b < w1.heap.size/\X1 b i=0)) (hX:∀ b i,X1 b i<=X b i\/(w.heap.size<=b/\b < w1.heap.size/\X1 b i<=1)):Rel P C A1 X1 σ a w1 F:=by
 have um:∀ b i,A b i->∀ u,ce w b i=some u->ce w1 b i=some u:=λb i ha u hu=>hw.cell b i (h.ll b i (.inr ha)) rfl u hu
 have hb0:∀ b i,w.heap.size<=b->bf σ.n F b i=0:=λb i hb=>by
  rcases bM (bf σ.n F b i) with h0 | h0
  ·exact h0
  ·have:=h.ll b i (.inl Bys);omega
 have GI:∀ j,j < σ.n->∀ b i,1<=F j b i->(∀ u,ce w b i=some u->ce w1 b i=some u)/\w1.frozen? ⟨b,i,none⟩=w.frozen? ⟨b,i,none⟩:=λj hj b i hp=>by
  have hb:=h.ll b i (.inl (by grind [dj]));exact ⟨λu hu=>hw.cell b i hb rfl u hu,hw.AU b i hb⟩
 have oH:zx σ a w σ a w1:=λr p snap hb=>⟨hb,λbd=>⟨bd,λhl pl gy=>⟨pl.H,pl.cs,by
  have a7:=uP gy
  exact xw (h.i9 r a7) rfl rfl um (λb i hp=>(GI r a7 b i hp).1) gy,λ_=>rfl⟩⟩⟩
 refine ⟨h.size,h.defers,λi hi=>db.nK oH hA um hw.x_ (GI i hi) (h.i9 i hi),λd r p snap hm=>sw.nK oH (h.gh d r p snap hm),λb i=>?_,λb i hp ha=>?_,λb i hp=>?_,
  h.mH,h.ext.trans hw (λ_ _ _ _=>rfl),λb i hp=>?_,λb i ha=>hA b i (h.a0 b i ha),λb i ha=>?_,h.pv,λr t m H v hg hl=>?_,λj k hm R' qh=>?_,h.yz⟩
 ·have h1:=h.qg b i;grind
 ·rcases IL b i ha with ha | ⟨h1,h2,h3⟩
  ·have a7:=h.ll b i (.inr ha)
   rcases hX b i with h2 | ⟨h2,_⟩
   ·exact h.rf b i Bys ha
   ·omega
  grind
 ·rcases hp with hp | ha
  ·rcases hX b i with h2 | ⟨h2,h3,_⟩
   ·exact cW (h.ll b i (.inl Bys)) hw.size
   ·exact h3
  ·rcases IL b i ha with ha | ⟨h1,h2,h3⟩
   ·exact cW (h.ll b i (.inr ha)) hw.size
   ·exact h2
 ·rcases hX b i with h2 | ⟨h2,_⟩
  ·exact h.own b i Bys
  ·exact .inr (bI h.ext.size h2)
 ·rcases IL b i ha with ha | ⟨h1,_⟩
  ·exact h.a1 b i ha
  ·exact .inr (.inr (bI h.ext.size h1))
 ·obtain ⟨b,h1,h2⟩:=h.whole r t m H v hg hl;exact ⟨b,h1,hw.x_ _ _ h2⟩
 ·rcases cR j σ.n with hj | hj
  ·have nx:=h.i9 j hj
   cases Bb:d8 w (tmp a j) (σ.get j) with
   | none=>exfalso;cases hg:σ.get j <;> rw[hg] at Bb qh <;> simp only[d8] at Bb qh <;> first | grind | grind | grind
   | some R0=>
    rw[yB nx (λb i hp=>(GI j hj b i hp).1) Bb] at qh;injection qh with qh;subst qh;exact h.ou j k hm _ Bb
  ·rw[mQ (fU.2 hj)] at qh;cases qh
def dy (P:Program):Operand->Bool
 | .func f=>(P.funcs[f]?).any (·.nfree == 0)
 | _=>true
theorem f5 (h:Rel P C A X σ a w F) {o:Operand} (ho:dy P o=true):db P A σ a w (a.eval o) (d7 σ o) (λ_ _=>0)\/∃ xs,d7 σ o=.sR xs:=by
 cases o with
 | tmp i=>
  show db P A σ a w (tmp a i) _ _\/_;rcases cR i σ.n with hi | hi
  ·have hs:=h.i9 i hi;simp only[d7]
   cases hg:σ.get i with
   | own t m H v=>
    rw[hg] at hs;obtain ⟨cs,h1,h2⟩:=hs;left
    have gy:place σ a w i []=some ⟨t,H,cs,none⟩:=by
     grind [place,d8,lX,an.length,an.one,bv]
    have h5:=h.mH i;refine ⟨?_,λ_=>⟨_,gy,h1,?_⟩⟩
    ·unfold wQ;split
     ·intro j y hj;grind
     ·intro j y hj;grind
     ·exact Below.refl _
    ·unfold wQ;grind [yx]
   | box t m H v=>
    rw[hg] at hs;obtain ⟨b,o,L,F1,h1,h2,h3,h4,h5,h6⟩:=hs;left;have h5':=h.mH i;refine ⟨?_,λ_=>⟨⟨t,H,L,some (b,o)⟩,b,o,?_,rfl,h1,by grind [xZ]⟩⟩
    ·unfold xZ;intro j y hj;grind
    grind [place,d8,fe,bv]
   | sR xs=>grind
   | dead=>exact .inl trivial
   | yo=>rw[hg] at hs;exact .inl hs
   | val t v=>rw[hg] at hs;exact .inl hs
   | cp t v=>rw[hg] at hs;exact .inl hs
   | ref r p snap=>rw[hg] at hs;exact .inl hs
   | ptr r p snap=>rw[hg] at hs;exact .inl hs
   | sub r p snap lo hi=>rw[hg] at hs;exact .inl hs
  ·simp only[d7,mQ (fU.2 hi)];exact .inl trivial
 | const v=>
  left;show db P A σ a w v (Al v) _;unfold Al;split
  ·split
   ·rename_i hn;exact ⟨[_],rfl,by grind [Ro,qM]⟩
   ·trivial
  ·exact ⟨[_],rfl,rfl⟩
  ·exact ⟨[_],rfl,rfl⟩
  ·exact ⟨[_],rfl,rfl⟩
  ·exact ⟨[_],rfl,rfl⟩
  ·exact ⟨[_],rfl,rfl⟩
  ·exact ⟨[_],rfl,by simp[Ro]⟩
  ·rfl
  ·trivial
 | func f=>
  left;simp only[dy,Option.any_eq_true,jC] at ho;obtain ⟨fn,h1,h2⟩:=ho;exact ⟨[_],rfl,#[],rfl,fn,h1,.inl ⟨h2,rfl⟩⟩
 | global g=>exact .inl trivial
def AO (A:Cells) (σ:St) (F:Nat->FP):Cells:=λb i=>A b i\/1<=bf σ.n F b i
theorem ef (t:Ty) (y:Value) (h:isAgg t=false):c_ t [y]=y:=by simp[c_,h]
theorem Ro.piece {e:Ty} {v:List e.den} {xa:Option Addr} {n cap lo hi cap':Nat} {xx:Option Addr} (h:Ro P w A (.aa e) v [.slice xa n cap]) (h1:lo<=hi) (h2:hi<=n) (h3:cap'+lo=cap) (h4:xa=none->xx=none)
  (h5:∀ ad,xa=some ad->∃ de,xx=some de/\de.spot=ad.spot/\de.block=ad.block/\(lo < hi->de.off=ad.off+lo*e.sz)) :
  Ro P w A (.aa e) ((v.take hi).drop lo) [.slice xx (hi - lo) cap']:=by
 obtain ⟨a0,aed,g1,g2,g3,g4⟩:=h;simp only[dN,Value.slice.injEq,eP] at g1;obtain ⟨rfl,rfl,rfl⟩:=g1;have hlen:List.length ((v.take hi).drop lo)=hi - lo:=by simp;omega
 refine ⟨xx,cap',by rw[hlen],by grind,λhn=>?_,λde UC=>?_⟩
 ·rw[hlen];cases WW:xa <;> grind
 ·cases WW:xa <;> grind
def AR (A:Cells) (F:Nat->FP) (rs:List Nat):Cells:=λb i=>A b i\/∃ r ∈ rs,1<=F r b i
theorem M_ (h:Rel P C A X σ a w F) {s:Slot} {tv:Value} {G:FP} (hs:db P A σ a w tv s G) {t:Ty} {K:t.den->Option R} (hk:ua σ s t K=some x) :
  ∃ (v:t.den) (cs:List Value),K v=some x/\tv=c_ t cs/\Ro P w (AR A F (nO s)) t v cs:=by
 have WX:∀ b i,A b i->AR A F (nO s) b i:=λb i ha=>.inl ha;have Bh:∀ b i,A b i->∀ u,ce w b i=some u->ce w b i=some u:=λ_ _ _ _ h=>h
 cases s with
 | val t' v=>
  obtain ⟨e,hk⟩:=c7 hk;subst e;obtain ⟨cs,h1,h2⟩:=hs;grind [Ro.mono]
 | cp t' v=>
  obtain ⟨e,hk⟩:=c7 hk;subst e;exact ⟨v,[tv],hk,(ef _ _ rfl).symm,Ro.mono Bh WX _ hs⟩
 | yo=>
  simp only[ua] at hk;split at hk
  ·rename_i t e;have hs:tv=.slice none 0 0:=hs;subst hs;exact ⟨[],_,hk,(ef _ _ rfl).symm,none,0,rfl,aH _,λ_=>rfl,λad lP=>by cases lP⟩
  ·cases hk
 | ref r p snap=>
  simp only[ua] at hk;split at hk
  ·rename_i bd;obtain ⟨hr,t',m',H',v',ca,de,F',h1,h2,h3,h4,h5,h6⟩:=l6 h hk;obtain ⟨pl,g1,g2,g3⟩:=hs.2 bd;rw[h3] at g1;injection g1 with g1;subst g1;split at h1
   ·rename_i hH;have hH:=bH.1 hH;subst hH;obtain ⟨e,h1⟩:=c7 h1;subst e;exact ⟨v',ca,h1,g2,an.yw WX _ h4 (λb i hp=>.inr ⟨r,bE.2 rfl,by grind⟩)⟩
   ·cases h1
  ·cases hk
 | sub r p snap lo hi=>
  simp only[ua] at hk;split at hk
  ·rename_i bd;obtain ⟨hr,t',m',H',v',ca,de,F',h1,h2,h3,h4,h5,h6⟩:=l6 h hk;obtain ⟨pl,e,xa,n,cap,xx,cap',g1,g2,g3,g4,g5,g6,g7,Tc,g8,g9,g10⟩:=hs.2 bd;rw[h3] at g1;injection g1 with g1;subst g1;simp only at g2 g3;subst g2;subst g3;split at h1
   ·rename_i hH;have hH:=bH.1 hH;subst hH;obtain ⟨e',h1⟩:=c7 h1;subst e';exact ⟨_,_,h1,by rw[ef _ _ rfl];exact g6,Ro.piece (an.yw WX _ h4 (λb i hp=>.inr ⟨r,bE.2 rfl,by grind⟩)) g4 g5 g7 g8 g9⟩
   ·cases h1
  ·cases hk
 | ptr r p snap=>
  simp only[ua] at hk;split at hk
  ·rename_i bd;obtain ⟨hr,t',m',H',v',ca,de,F',h1,h2,h3,h4,h5,h6⟩:=l6 h hk;obtain ⟨pl,b,o,g1,g2,g3,g4⟩:=hs.2 bd;rw[h3] at g1;injection g1 with g1;subst g1;split at h1
   ·rename_i hH;have hH:=bH.1 hH;subst hH;obtain ⟨e',h1⟩:=c7 h1;subst e';simp only at g2;subst g2
    refine ⟨v',[tv],h1,(ef _ _ rfl).symm,⟨b,o,none⟩,by rw[g3],rfl,ca,an.length _ h4,λj u hu=>⟨h6 b o rfl j u hu,?_⟩,
     an.yw WX _ h4 (λb i hp=>.inr ⟨r,bE.2 rfl,by grind⟩)⟩
    have hj:j < t'.sz:=an.length _ h4 ▸ (aM.1 hu).1;unfold place at h3
    cases hR:d8 w (tmp a r) (σ.get r) with
    | none=>grind
    | some R0=>
     rw[hR] at h3;obtain ⟨m0,v0,F1,q1,q2,q3,_⟩:=yA (h.i9 r hr) hR
     exact WM WX p R0.t q1 (λb i hp=>.inr ⟨r,bE.2 rfl,by grind⟩) (λb' o' e' j hj=>.inr ⟨r,bE.2 rfl,by
      grind [dt]⟩) h3 b o rfl j hj
   ·cases h1
  ·cases hk
 | _=>simp[ua] at hk
theorem GJ (h:Rel P C A X σ a w F) {s:Slot} {t:Ty} {K:t.den->Option R} (hk:ua σ s t K=some x):∀ r ∈ nO s,r < σ.n:=by
 intro r hr;cases s <;> simp only[nO,bE,List.not_mem_nil] at hr
 all_goals
  subst hr;simp only[ua] at hk;split at hk
  ·exact (l6 h hk).1
  ·cases hk
theorem Td (h:Rel P C A X σ a w F) {s:Slot} {tv:Value} {G:FP} (hs:db P A σ a w tv s G) {t:Ty} {K:t.den->Option R} (hk:ua σ s t K=some x) :
  ∃ (v:t.den) (cs:List Value),K v=some x/\tv=c_ t cs/\Ro P w (AO A σ F) t v cs:=by
 obtain ⟨v,cs,h1,h2,h3⟩:=M_ h hs hk;refine ⟨v,cs,h1,h2,Ro.mono (λ_ _ _ _ h=>h) (λb i ha=>?_) t h3⟩
 rcases ha with ha | ⟨r,hr,hp⟩
 ·exact .inl ha
 ·have:=dj F (GJ h hk r hr) b i;exact .inr Bys
end
end OT
set_option linter.unusedVariables false
set_option linter.unusedSimpArgs false
namespace OT
open Go
section
variable {P:Program} {C:Ctx} {A:Cells} {X:FP} {σ:St} {a:Act} {w:World} {F:Nat->FP} {R:Type} {x:R}
theorem KD {l:List (Nat×Nat×Bool)} {r:Nat} (h:Ew l r=false) (k:Nat):(r,k,false) ∉ l:=by
 induction l with
 | nil=>grind
 | cons y l ih=>
  obtain ⟨k',n,b⟩:=y;simp_all [Ew]
theorem sx (a:Act) (i:Nat):a.put (some i) (tmp a i)=a:=by
 have:a.tmps.setIfInBounds i (tmp a i)=a.tmps:=by
  apply Array.ext
  all_goals simp_all [gX,tmp]
 simp[Act.put,this]
theorem vD (h:Rel P C A X σ a w F) {s:Slot} {tv:Value} {G:FP} (hs:db P A σ a w tv s G) {mv:Bool} {t:Ty} {K:Md->t.den->St->Option R} (hk:nJ σ s mv t K=some x) :
  ∃ (A':Cells) (σ':St) (F':Nat->FP) (m:Md) (v:t.den) (cs:List Value) (Fv:FP),K m v σ'=some x/\(∀ b i,A b i->A' b i)/\Rel P C A' (λb i=>X b i+Fv b i) σ' a w F'/\σ'.n=σ.n/\rT σ σ' /\
   tv=c_ t cs/\an P w A' t m [] v cs Fv:=by
 have hz:Rel P C A (λb i=>X b i+0) σ a w F:=h
 cases s with
 | val t' v=>
  simp only[nJ] at hk;obtain ⟨e,hk⟩:=c7 hk;subst e;obtain ⟨cs,h1,h2⟩:=hs;exact ⟨A,σ,F,_,v,cs,λ_ _=>0,hk,λ_ _ h=>h,hz,rfl,rT.refl σ,h1,Ro.rep _ _ (it _) h2⟩
 | cp t' v=>
  simp only[nJ] at hk;obtain ⟨e,hk⟩:=c7 hk;subst e;exact ⟨A,σ,F,_,v,[tv],λ_ _=>0,hk,λ_ _ h=>h,hz,rfl,rT.refl σ,(ef _ _ rfl).symm,Ro.rep _ _ (it _) hs⟩
 | yo=>
  simp only[nJ] at hk;split at hk
  ·rename_i t e;have hs:tv=.slice none 0 0:=hs;subst hs;refine ⟨A,σ,F,_,_,[.slice none 0 0],λ_ _=>0,hk,λ_ _ h=>h,hz,rfl,rT.refl σ,(ef _ _ rfl).symm,?_⟩
   grind [an,hole,vT,Md.own]
  ·cases hk
 | ref r p snap=>
  simp only[nJ] at hk;split at hk
  ·rename_i bd;obtain ⟨hr,t',m',H',v',ca,de,F',h1,h2,h3,h4,h5,h6⟩:=l6 h hk;obtain ⟨pl,g1,g2,g3⟩:=hs.2 bd;rw[h3] at g1;injection g1 with g1;subst g1;split at h1
   ·rename_i hH;have hH:=bH.1 hH;subst hH;obtain ⟨e,h1⟩:=c7 h1;subst e;split at h1
    ·rename_i hm;subst hm;exact ⟨A,σ,F,_,v',ca,λ_ _=>0,h1,λ_ _ h=>h,hz,rfl,rT.refl σ,g2,Ro.rep _ _ (it _) (an.ro _ (it _) h4)⟩
    ·split at h1
     ·obtain ⟨A',σ',F2,cs,ad,Fv,k1,k2,k3,k4,kr,k5,k6⟩:=Mj h h1 ⟨h2⟩;rw[h3] at k5;injection k5 with k5;simp only[Pl.mk.injEq,eL] at k5;obtain ⟨rfl,rfl⟩:=k5;exact ⟨A',σ',F2,_,v',ca,Fv,k1,k2,k3,k4,kr,g2,an.mono k2 (λ_ _ _ _ h=>h) (λ_ _ h=>h) _ k6 (λ_ _=>aH _) (λ_ _ _ _ h=>h)⟩
     ·obtain ⟨A',σ',F2,t2,m2,v2,cs,ad,k1,k2,k3,k4,kr,k5,k6,k7⟩:=Ao h h1;obtain ⟨e1,e2,e3,e4⟩:=At.inj ⟨h2⟩ k5;subst e1;have e4:=gH e4;subst e4;rw[h3] at k6;injection k6 with k6;simp only[Pl.mk.injEq,eL] at k6;obtain ⟨rfl,rfl⟩:=k6;exact ⟨A',σ',F2,_,v',ca,λ_ _=>0,k1,k2,k3,k4,kr,g2,Ro.rep _ _ (it _) k7⟩
   ·cases h1
  ·cases hk
 | sub r p snap lo hi=>
  simp only[nJ] at hk;split at hk
  ·rename_i bd;obtain ⟨hr,t',m',H',v',ca,de,F',h1,h2,h3,h4,h5,h6⟩:=l6 h hk;obtain ⟨pl,e,xa,n,cap,xx,cap',g1,g2,g3,g4,g5,g6,g7,Tc,g8,g9,g10⟩:=hs.2 bd;rw[h3] at g1;injection g1 with g1;subst g1;simp only at g2 g3;subst g2;subst g3;split at h1
   ·rename_i hH;have hH:=bH.1 hH;subst hH;obtain ⟨e',h1⟩:=c7 h1;subst e';simp only at h1;have B6:tv=c_ (.aa e) [.slice xx (hi - lo) cap']:=by rw[ef _ _ rfl];exact g6
    split at h1
    ·rename_i hm;subst hm;exact ⟨A,σ,F,_,_,_,λ_ _=>0,h1,λ_ _ h=>h,hz,rfl,rT.refl σ,B6,Ro.rep _ _ (it _) (Ro.piece (an.ro _ (it _) h4) g4 g5 g7 g8 g9)⟩
    ·split at h1
     ·split at h1
      ·rename_i yd;subst yd;obtain ⟨A',σ',F2,cs,ad,Fv,k1,k2,k3,k4,kr,k5,k6⟩:=Mj h h1 ⟨h2⟩;rw[h3] at k5;injection k5 with k5;simp only[Pl.mk.injEq,eL] at k5;obtain ⟨rfl,rfl⟩:=k5;have k6:=an.mono k2 (λ_ _ _ _ h=>h) (λ_ _ h=>h) _ k6 (λ_ _=>aH _) (λ_ _ _ _ h=>h);refine ⟨A',σ',F2,_,_,_,Fv,k1,k2,k3,k4,kr,B6,?_⟩
       have WW:=Tc rfl;subst WW;simp only[dY] at g7;subst g7;simp only[an,hole,bX,aE,aR] at k6 ⊢;split at k6
       ·rename_i jI;rw[aG jI];obtain ⟨a0,aed,q1,q2,q3,q4,q5⟩:=k6;simp only[dN,Value.slice.injEq,eP] at q1;obtain ⟨rfl,rfl,rfl⟩:=q1;have hlen:List.length ((v'.take hi).drop 0)=hi:=by simp;omega
        refine ⟨xx,cap',by rw[hlen];rfl,by grind,q3,q4,λad lP=>?_⟩
        obtain ⟨r1,r2,r3,Fi,r4,r5⟩:=q5 ad lP;refine ⟨r1,r2,r3,Fi,λb i=>?_,λi y hy=>?_⟩
        ·rw[hlen];have:=r4 b i;have:=M5 (List.length v') Fi 0 hi Bys b i
         grind
        simp_all [bS]
       ·rename_i jI;rw[aL jI];exact ⟨trivial,k6.2.1,Ro.piece (cap':=cap') k6.2.2 g4 g5 rfl g8 g9⟩
      ·cases h1
     ·obtain ⟨A',σ',F2,t2,m2,v2,cs,ad,k1,k2,k3,k4,kr,k5,k6,k7⟩:=Ao h h1;obtain ⟨e1,e2,e3,e4⟩:=At.inj ⟨h2⟩ k5;subst e1;have e4:=gH e4;subst e4;rw[h3] at k6;injection k6 with k6;simp only[Pl.mk.injEq,eL] at k6;obtain ⟨rfl,rfl⟩:=k6;exact ⟨A',σ',F2,_,_,_,λ_ _=>0,k1,k2,k3,k4,kr,B6,Ro.rep _ _ (it _) (Ro.piece k7 g4 g5 g7 g8 g9)⟩
   ·cases h1
  ·cases hk
 | ptr r p snap=>
  cases p with
  | cons s p=>simp[nJ] at hk
  | nil=>
   simp only[nJ] at hk;split at hk
   ·rename_i bd;split at hk
    ·rename_i t' m' H' v' hg;split at hk
     ·rename_i hc;simp only[aD,bH,cD] at hc;obtain ⟨rfl,hl⟩:=hc;obtain ⟨e,hk⟩:=c7 hk;subst e
      have hr:r < σ.n:=by
       grind [mQ]
      obtain ⟨pl,b,o,g1,g2,g3,g4⟩:=hs.2 bd;have nx:=h.i9 r hr;rw[hg] at nx;obtain ⟨b0,o0,L,F1,q1,q2,q3,q4,q5,q6⟩:=nx;unfold place at g1;rw[hg,q1] at g1;simp only[d8,aA,bv,aP] at g1;subst g1;simp only[aP,bO] at g2;obtain ⟨rfl,rfl⟩:=g2;obtain ⟨b1,w1,w2⟩:=h.whole r t' m' [] v' hg (KD hl);rw[q1] at w1;simp only[Value.pointer.injEq,aP,Addr.mk.injEq,eP] at w1;obtain ⟨rfl,rfl⟩:=w1;have B7:=h.put hr (s:=.dead) (v:=tmp a r) (Fd:=λ_ _=>0) (X':=λb i=>X b i+F r b i) trivial (λb i=>by omega) (λt m H v e=>by cases e);rw[sx] at B7
      refine ⟨A,_,_,_,v',[tv],F r,hk,λ_ _ h=>h,B7,rfl,(λw tv i R hR=>⟨R.H,by
       rw[zy] at hR;split at hR
       ·cases hR
       ·exact hR⟩),(ef _ _ rfl).symm,?_⟩
      grind [an,hole,Md.own,Md.e]
     ·cases hk
    ·cases hk
   ·cases hk
 | _=>simp[nJ] at hk
theorem Ik {t:Ty} {m:Md} {v:t.den} {cs:List Value} {Fv:FP} (h:an P w A t m [] v cs Fv) :
  db P A σ a w (c_ t cs) (laid t m v) Fv/\∀ t' m' H' v',laid t m v=.box t' m' H' v'->∃ b,c_ t cs=.pointer (some ⟨b,0,none⟩)/\jj w b (t'.sz,false):=by
 unfold laid;split
 ·rename_i hm;subst hm;exact ⟨⟨cs,rfl,an.ro _ (it _) h⟩,λt' m' H' v' e=>by cases e⟩
 ·split
  ·rename_i e m' v' _;simp only[an,hole,bX,aE,aR,Md.own,aK,Md.e] at h;obtain ⟨b,rfl,h2,L,F1,h3,h4,h5,h6⟩:=h;rw[ef _ _ rfl];refine ⟨⟨b,0,L,F1,rfl,h3,h4,λj hj=>by rw[bZ];exact h2.frozen hj,h5,h6⟩,λt' m' H' v' e=>?_⟩
   grind
  ·exact ⟨⟨cs,rfl,h⟩,λt' m' H' v' e=>by cases e⟩
theorem Rel.abc (h:Rel P C A X σ a w F) {d:Nat} (hd:σ.n<=d) (s:Slot) (v:Value) {X':FP} (ht:∀ b i,X' b i<=X b i):Rel P C A X' (σ.put d s) (a.put (some d) v) w F:=by
 have ot:=h.size;have ha:a.put (some d) v=a:=by simp[Act.put,Array.setIfInBounds,ot,fU.2 hd]
 rw[ha]
 have xm:∀ i,(σ.put d s).get i=σ.get i:=λi=>by
  grind [zy]
 have oH:zx σ a w (σ.put d s) a w:=by
  intro r p snap hb;rw[BD,St.ok,BD];by_cases hr:d=r
  ·subst hr;simp only[aK];refine ⟨hb.trans (uo _),λbd=>?_⟩
   have h0:=IJ (h.mH d) hb bd;exact ⟨(Ih hb (uo _) bd).1,λhl=>by omega⟩
  ·simp only[aL hr];refine ⟨hb,λbd=>⟨bd,λhl pl gy=>⟨pl.H,pl.cs,?_,λ_=>rfl⟩⟩⟩
   simp_all [place]
 refine ⟨h.size,h.defers,λi hi=>?_,?_,λb i=>by have:=h.qg b i;have:=ht b i;show X' b i+bf σ.n F b i<=1;omega,λb i hp=>h.rf b i (by have:=ht b i;have hp:1<=X' b i+bf σ.n F b i:=hp;omega),
  λb i hp=>h.ll b i (hp.imp (λhp=>by have:=ht b i;have hp:1<=X' b i+bf σ.n F b i:=hp;omega) id),λi=>?_,h.ext,λb i hp=>h.own b i (by have:=ht b i;have hp:1<=X' b i+bf σ.n F b i:=hp;omega),h.a0,h.a1,?_,?_,?_,h.yz⟩
 ·rw[xm];exact db.nK oH (λ_ _ h=>h) (λ_ _ _ _ h=>h) (λ_ _ h=>h) (λ_ _ _=>⟨λ_ h=>h,rfl⟩) (h.i9 i hi)
 ·intro d' r p snap hm;exact sw.nK oH (h.gh d' r p snap (Pe hm).1)
 ·rw[BD];split
  ·rw[GF];exact h.mH d
  ·exact h.mH i
 ·intro j k hm;exact h.pv j k (Bj hm).1
 ·intro r t m H v' hg hl;rw[xm] at hg;refine h.whole r t m H v' hg λk hm=>hl k (Ky hm λe=>?_);grind [mQ]
 ·intro j k hm R hR;rw[xm] at hR;exact h.ou j k (Bj hm).1 R hR
theorem Rel.cb (h:Rel P C A X σ a w F) (d:Option Tmp) {s:Slot} {v:Value} {Fd X':FP} (hs:db P A σ a w v s Fd) (ht:∀ b i,X' b i+Fd b i<=X b i)
  (hwh:∀ t m H v',s=.box t m H v'->∃ b,v=.pointer (some ⟨b,0,none⟩)/\jj w b (t.sz,false)):∃ F',Rel P C A X' (σ.cb d s) (a.put d v) w F':=by
 cases d with
 | none=>exact ⟨F,h.less λb i=>by grind⟩
 | some d=>
  rcases cR d σ.n with hd | hd
  ·exact ⟨_,h.put hd hs (λb i=>by grind) hwh⟩
  ·exact ⟨_,h.abc hd s v λb i=>by grind⟩
def GK (P:Program) (C:Ctx) (σ:St) (a:Act) (w:World):Prop:=∃ A F,Rel P C A (λ_ _=>0) σ a w F
end
end OT
set_option linter.unusedVariables false
set_option linter.unusedSimpArgs false
namespace OT
open Go
def zc:Ty->Option (List Value)
 | .int k=>some [.int k 0]
 | .bool=>some [.bool false]
 | .str=>some [.string ⟨#[]⟩]
 | .unit=>some []
 | .pair a b=>match zc a,zc b with
  | some x,some y=>some (x++y)
  | _,_=>none
 | .arr n e=>match zc e with
  | some x=>some (List.replicate n x).flatten
  | none=>none
 | .aa _=>some [.slice none 0 0]
 | _=>none
def veq:Value->Value->Bool
 | .int k n,.int k' n'=>decide (k=k')&&decide (n=n')
 | .bool a,.bool b=>a == b
 | .string s,.string t=>decide (s.data.toList=t.data.toList)
 | .slice none 0 0,.slice none 0 0=>true
 | _,_=>false
def Mk:List Value->List Value->Bool
 | [],[]=>true
 | a::x,b::y=>veq a b&&Mk x y
 | _,_=>false
theorem acp {a b:Value} (h:veq a b=true):a=b:=by
 unfold veq at h;split at h
 ·grind
 ·grind
 ·rename_i s t;simp only[bA] at h;congr 1;cases s;simp_all
 all_goals grind
theorem Te:∀ {x y:List Value},Mk x y=true->x=y
 | [],[],_=>rfl
 | a::x,b::y,h=>by
  simp only[Mk,aD] at h;rw[acp h.1,Te h.2]
 | [],_::_,h=>by simp[Mk] at h
 | _::_,[],h=>by simp[Mk] at h
def tj (P:Program) (t:Ty) (i:TypeId):Bool:=
 match P.info? i with
 | some inf=>Nat.beq inf.size t.sz&&Nat.ble inf.bytes 512&&(match inf.zero with
  | some z=>Nat.beq z.cells.size t.sz&&(match zc t with
   | some L=>Mk z.cells.toList L
   | none=>true)
  | none=>false)
 | none=>false
def sU (P:Program):Ty->Sum TypeId (List Field)->Bool
 | .int _,.inl _=>true
 | .bool,.inl _=>true
 | .str,.inl _=>true
 | .unit,.inl i=>!P.stoodInHeld i
 | .unit,.inr _=>true
 | .pair a b,.inl i=>!P.stoodInHeld i&&(match P.underlying i with
  | some (.struct fs)=>(match fs.toList with
   | f::r=>f.name != "_" && sU P a (.inl f.type)&&sU P b (.inr r)
   | []=>false)
  | _=>false)
 | .pair a b,.inr (f::r)=>f.name != "_" && sU P a (.inl f.type)&&sU P b (.inr r)
 | .arr _ e,.inl i=>(match P.underlying i with
  | some (.array _ el)=>sU P e (.inl el)
  | _=>false)
 | _,_=>false
def dep:Ty->Nat
 | .arr _ e=>dep e+1
 | .pair a b=>max (dep a+1) (dep b)
 | _=>1
def acq (P:Program) (k:Ty) (i:TypeId):Bool:=isAgg k&&k.oZ&&k.flat&&sU P k (.inl i)&&Nat.ble (dep k) 9000
def zvB (P:Program) (v:Ty) (i:TypeId):Bool:=match P.info? i with
 | some inf=>(match inf.zero with
  | some (.agg _)=>isAgg v
  | some _=>!isAgg v
  | none=>false)
 | none=>false
def bj (P:Program):Ty->Sum TypeId (List Field×Nat)->Bool
 | .int k,.inl i=>tj P (.int k) i&&(match P.underlying i with | some (.int k')=>decide (k=k') | _=>false)
 | .bool,.inl i=>tj P .bool i&&(match P.underlying i with | some .bool=>true | _=>false)
 | .str,.inl i=>tj P .str i&&(match P.underlying i with | some .string=>true | _=>false)
 | .unit,.inl i=>tj P .unit i&&(match P.underlying i with | some (.struct fs)=>fs.toList.isEmpty | _=>false)
 | .unit,.inr (fs,_)=>fs.isEmpty
 | .pair a b,.inl i=>tj P (.pair a b) i&&(match P.underlying i with
  | some (.struct fs)=>(match fs.toList with
   | f::r=>Nat.beq f.offset 0&&Nat.ble 1 a.sz&&bj P a (.inl f.type)&&bj P b (.inr (r,a.sz))
   | []=>false)
  | _=>false)
 | .pair a b,.inr (f::r,off)=>Nat.beq f.offset off&&Nat.ble 1 a.sz&&bj P a (.inl f.type)&&bj P b (.inr (r,off+a.sz))
 | .arr n e,.inl i=>tj P (.arr n e) i&&e.flat&&(match P.underlying i with | some (.array n' el)=>Nat.beq n n'&&Nat.ble 1 e.sz&&bj P e (.inl el) | _=>false)
 | .aa e,.inl i=>tj P (.aa e) i&&(match P.underlying i with | some (.slice el)=>Nat.ble 1 e.sz&&bj P e (.inl el) | _=>false)
 | .ptr e,.inl i=>tj P (.ptr e) i&&(match P.underlying i with | some (.pointer el)=>bj P e (.inl el) | _=>false)
 | .fn,.inl i=>tj P .fn i&&(match P.underlying i with | some (.func ..)=>true | _=>false)
 | .map k v,.inl i=>tj P (.map k v) i&&(match P.underlying i with | some (.map ki vi)=>bj P k (.inl ki)&&bj P v (.inl vi)&&acq P k ki&&zvB P v vi | _=>false)
 | _,_=>false
section
variable {P:Program} {w:World} {A:Cells}
theorem zV {t:Ty} {i:TypeId} (h:tj P t i=true):∃ inf z,P.info? i=some inf/\inf.size=t.sz/\inf.bytes<=512/\inf.zero=some z/\z.cells.size=t.sz/\∀ L,zc t=some L->z.cells.toList=L:=by
 grind [tj,Nat.beq_eq,Nat.ble_eq,Te]
theorem lG {t:Ty} {i:TypeId} (h:tj P t i=true):∃ inf,P.info? i=some inf/\inf.size=t.sz/\inf.bytes<=512/\∀ L,zc t=some L->∃ z,inf.zero=some z/\z.cells.toList=L:=by
 grind [zV]
theorem mJ {t:Ty} {i:TypeId} (h:bj P t (.inl i)=true):tj P t i=true:=by
 cases t <;> simp only[bj,aD] at h <;> first | exact h.1 | exact h.1.1 | cases h
theorem Bk {t:Ty} {i:TypeId} (h:bj P t (.inl i)=true):∃ d,P.underlying i=some d/\(isAgg t=true->(∃ fs,d=.struct fs)\/∃ n e,d=.array n e)/\(isAgg t=false->(∀ fs,d≠.struct fs)/\∀ n e,d≠.array n e):=by
 cases hd:P.underlying i with
 | none=>cases t <;> simp[bj,hd] at h
 | some d=>
  refine ⟨d,rfl,?_,?_⟩
  ·intro ha;cases t <;> simp only[isAgg] at ha <;> first | cases ha | skip
   all_goals grind [bj]
  ·intro ha;cases t <;> simp only[isAgg] at ha <;> first | cases ha | skip
   all_goals grind [bj]
theorem GN {t:Ty} {i:TypeId} (h:bj P t (.inl i)=true):(Go.isAgg i).run P w=.ok (isAgg t) w:=by
 obtain ⟨d,h1,h2,h3⟩:=Bk h;unfold Go.isAgg;simp only[Sem.run_bind,run_underlying h1,Result.andThen_ok]
 cases ht:isAgg t with
 | true=>
  rcases h2 ht with ⟨fs,rfl⟩ | ⟨n,e,rfl⟩ <;> rfl
 | false=>
  simp_all
theorem run_sizeOf {t:Ty} {i:TypeId} (h:bj P t (.inl i)=true):(Go.sizeOf i).run P w=.ok t.sz w:=by
 obtain ⟨inf,h1,h2,_⟩:=lG (mJ h);simp[Go.sizeOf,typeInfo,h1,h2]
theorem Pk {t:Ty} (h:isAgg t=false):t.sz=1:=by cases t <;> simp_all [isAgg,Ty.sz]
theorem rF (b o n:Nat):(⟨b,o,none⟩:Addr).add n=⟨b,o+n,none⟩:=by grind [Addr.add]
theorem zW {t:Ty} {i:TypeId} (h:bj P t (.inl i)=true) {b o:Nat} {L:List Value} (hL:Has w b o L) (hl:L.length=t.sz) (pH:∀ u ∈ L,u.oneCell'=true):(loadVar i ⟨b,o,none⟩).run P w=.ok (c_ t L) w:=by
 unfold loadVar;simp only[Sem.run_bind,GN h,Result.andThen_ok]
 cases ht:isAgg t with
 | true=>
  have:=run_loadCells_list (P:=P) w ⟨b,o,none⟩ L (λj v hj=>by rw[rF];exact vN (hL j v hj) (pH v (bW hj)));rw[hl] at this;simp only[aK,Sem.run_bind,run_sizeOf h,Result.andThen_ok,this,Sem.run_pure,c_,ht]
 | false=>
  have hs:=Pk ht
  match L,hl with
  | [y],_=>
   have:=vN (hL 0 y rfl) (pH y (by simp));grind [run_load,c_]
  | [],hl=>grind
  | _::_::_,hl=>grind
theorem C7:∀ (t:Ty) {L:List Value} {i:Sum TypeId (List Field×Nat)},zc t=some L->bj P t i=true->an P w A t (ah t) [] t.zero L (λ_ _=>0)/\Ro P w A t t.zero L/\L.length=t.sz:=by
 intro t
 induction t with
 | int k=>intro L i h _;injection h with h;subst h;cases k <;> exact ⟨rfl,rfl,rfl⟩
 | bool=>intro L i h _;injection h with h;subst h;exact ⟨rfl,rfl,rfl⟩
 | str=>intro L i h _;injection h with h;subst h;exact ⟨rfl,rfl,rfl⟩
 | unit=>intro L i h _;injection h with h;subst h;exact ⟨rfl,rfl,rfl⟩
 | pair a b nL nw=>
  intro L i h hl;simp only[zc] at h;split at h
  ·rename_i x y hx hy;injection h with h;subst h
   have:∃ ia ib,bj P a ia=true/\bj P b ib=true:=by
    cases i with
    | inl i=>
     grind [bj]
    | inr fo=>
     obtain ⟨fs,off⟩:=fo;cases fs <;> grind [bj]
   obtain ⟨ia,ib,h1,h2⟩:=this;obtain ⟨ra,oa,la⟩:=nL hx h1;obtain ⟨rb,ob,lb⟩:=nw hy h2;have e1:(x++y).take a.sz=x:=iR la;have e2:(x++y).drop a.sz=y:=iS la;refine ⟨⟨rfl,λ_ _=>0,λ_ _=>0,λ_ _=>aH _,by rw[e1];exact ra,by rw[e2];exact rb⟩,⟨by rw[e1];exact oa,by rw[e2];exact ob⟩,by grind [Ty.sz]⟩
  ·cases h
 | arr n e ih=>
  intro L i h hl;simp only[zc] at h;split at h
  ·rename_i z hz;injection h with h;subst h
   have:e.flat=true/\∃ ie,bj P e ie=true:=by
    grind [bj]
   obtain ⟨hf,ie,he⟩:=this;obtain ⟨re,oe,le⟩:=ih hz he
   have hlen:∀ n,((List.replicate n z).flatten).length=n*e.sz:=λn=>by
    simp_all
   have yG:Ro P w A (.arr n e) (Ty.arr n e).zero ((List.replicate n z).flatten):=by
    refine ⟨hf,by simp[Ty.zero],hlen n,λi x hx=>?_⟩
    have hi:i < n:=by grind [Ty.zero]
    have hx:x=e.zero:=by
     grind [Ty.zero]
    subst hx
    have:(((List.replicate n z).flatten).drop (i*e.sz)).take e.sz=z:=by
     have e1:n=i+(1+(n - i - 1)):=by omega
     rw[e1,<- gE,<- gE,List.flatten_append,List.flatten_append];grind
    grind
   exact ⟨⟨rfl,yG⟩,yG,hlen n⟩
  ·cases h
 | aa e ih=>
  intro L i h _;injection h with h;subst h;refine ⟨?_,⟨none,0,rfl,aH _,λ_=>rfl,λad lP=>by cases lP⟩,rfl⟩
  simp only[an,hole,bX,aE,aR,ah,vT,Md.own,aK];exact ⟨none,0,rfl,aH _,by simp[maxLen],λ_=>rfl,λad lP=>by cases lP⟩
 | ptr e ih=>grind [zc]
 | fn=>grind [zc]
 | map k v=>grind [zc]
theorem AW {t:Ty} {i:TypeId} (h:bj P t (.inl i)=true) {L:List Value} (hz:zc t=some L):∃ z,(zeroValue i).run P w=.ok z w/\z.cells.toList=L:=by
 obtain ⟨inf,h1,h2,_,h3⟩:=lG (mJ h);obtain ⟨z,h4,h5⟩:=h3 L hz;simp_all [zeroValue,typeInfo]
end
end OT
