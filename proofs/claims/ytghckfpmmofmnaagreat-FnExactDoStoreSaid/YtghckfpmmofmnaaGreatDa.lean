/- The proof's parts, merged: The pure interpreter of the model s code over owned trees  definitions alone, nothing is claimed here.. No conditions but those that each states. -/
import GoSem.Core.Code
import GoSem.Core.View
import Derived.Laws.IdiomCopy
import Derived.Laws.Cells
import Derived.Laws.AppendOwn
import Derived.Calls
import Derived.Lib.LaidTab
import Derived.Lib.ItoaNum
import Derived.Laws.Entries
import Derived.Laws.NewFold
import Derived.Laws.Sem
namespace OT
open Go
theorem Bys {p:Prop} (h:p:=by omega):p:=h
set_option linter.defProp false
def aA:=@Option.bind_some
def aB:=@List.getElem?_eq_getElem
def aC:=@Int.toNat_natCast
def aD:=@Bool.and_eq_true
def aE:=@cond_false
def aF:=@Bool.false_eq_true
def aG:=@decide_false
def aH:=@if_true
def aI:=@Nat.le_refl
def aJ:=@decide_true
def aK:=@Int.natCast_nonneg
def aL:=@Eq.trans
def aM:=@if_pos
def aN:=@List.getElem_mem
def aO:=@cond_true
def aP:=@List.getElem?_eq_some_iff
def aQ:=@Option.some.injEq
def aR:=@Bool.not_true
def aS:=@if_false
def aU:=@Int.lt_irrefl
def aV:=@if_neg
def aW:=@Nat.zero_le
def aX:=@decide_eq_true
def aY:=@List.mem_cons
def aZ:=@Nat.mul_le_mul_right
def bA:=@decide_eq_false
def bB:=@List.length_set
def bC:=@List.isEmpty_iff
def bD:=@List.mem_cons_of_mem
def bE:=@List.length_cons
def bF:=@decide_eq_true_eq
def bG:=@List.all_eq_true
def bH:=@Nat.le_trans
def bI:=@Nat.eq_zero_or_pos
def bJ:=@Prod.mk.injEq
def bK:=@List.append_assoc
def bL:=@List.mem_singleton
def bM:=@List.getElem?_drop
def bN:=@Option.map_some
def bO:=@List.mem_append
def bP:=@List.any_nil
def bQ:=@Nat.zero_add
def bR:=@List.eq_nil_of_length_eq_zero
def bS:=@and_self
def bT:=@List.getElem?_take
def bU:=@List.mem_of_getElem?
def bV:=@List.mem_cons_self
def bW:=@Bool.not_false
def bX:=@List.length_drop
def bZ:=@Array.getElem?_eq_some_iff
def cA:=@List.length_nil
def cB:=@List.length_append
def cC:=@Bool.not_eq_true'
def cD:=@List.mem_range
def cE:=@List.drop_eq_getElem_cons
def cG:=@List.nil_append
def cH:=@List.nodup_cons
def cI:=@List.getD_eq_getElem?_getD
def cJ:=@List.isEmpty_nil
def cK:=@Nat.lt_or_ge
def cL:=@List.filterMap_append
def cM:=@Nat.add_assoc
def cN:=@congrArg
def cO:=@Nat.lt_of_lt_of_le
def cP:=@List.take_append_drop
def cQ:=@Nat.eq_of_beq_eq_true
def cR:=@List.length_replicate
def cS:=@List.getElem?_append_left
def cT:=@List.mem_of_find?_eq_some
def cU:=@Nat.add_mul
def cV:=@List.mem_iff_getElem
def cW:=@List.length_range
def cX:=@List.getElem_of_mem
def cY:=@List.append_nil
def cZ:=@Bool.or_eq_true
def dA:=@List.cons_append
def dB:=@Int.eq_ofNat_of_zero_le
def dC:=@List.mem_of_mem_drop
def dD:=@List.pairwise_iff_getElem
def dE:=@List.drop_drop
def dF:=@List.mem_flatMap
def dG:=@List.mem_of_mem_take
def dH:=@List.count_pos_iff
def dI:=@List.cons.injEq
def dJ:=@Bool.false_or
def dK:=@Nat.ble_eq
def dL:=@Array.getElem?_toList
def dM:=@List.drop_zero
def dN:=@true_and
def dP:=@List.pairwise_cons
def dQ:=@List.length_take
def dR:=@List.map_cons
def dT:=@Bool.true_and
def dU:=@Array.getElem?_eq_none
def dV:=@List.take_succ_eq_append_getElem
def dW:=@List.take_length
def dX:=@List.filterMap_nil
def dY:=@List.any_eq_true
def dZ:=@Option.isSome_iff_exists
def eA:=@List.all_cons
def eB:=@List.ext_getElem?
def eC:=@List.getElem?_set
def eD:=@not_false_eq_true
def eE:=@List.nodup_append
def eF:=@and_true
def eG:=@List.findIdx?_eq_some_iff_findIdx_eq
def eH:=@Nat.succ_mul
def eI:=@Nat.beq_eq
def eJ:=@List.find?_eq_none
def eK:=@List.mem_or_eq_of_mem_set
def eL:=@List.getElem?_map
def eM:=@Nat.add_zero
def eN:=@List.flatMap_cons
def eO:=@Nat.le_of_lt
def eP:=@List.flatMap_append
def eQ:=@List.drop_take
def eR:=@List.take_take
def eS:=@List.getElem?_cons_zero
def eU:=@List.drop_of_length_le
def eV:=@List.mem_map
def eW:=@List.foldl_cons
def eX:=@List.getElem?_eq_none
def eY:=@Nat.div_lt_iff_lt_mul
def eZ:=@List.mem_iff_getElem?
def fA:=@Bool.eq_false_iff
def fB:=@not_true_eq_false
def fC:=@of_decide_eq_true
def fD:=@List.range_eq_range'
def fE:=@List.getElem?_append_right
def fF:=@Array.getElem?_append_left
def fG:=@List.filter_cons
def fH:=@Bool.eq_iff_iff
def fI:=@UInt8.toNat_inj
def fJ:=@List.map_append
def fK:=@Nat.not_lt
def fL:=@UInt8.toNat_ofNat'
def fM:=@BitVec.toNat_ofInt
def fN:=@Classical.axiomOfChoice
def fO:=@List.getElem?_replicate
def fP:=@List.nodup_nil
def fQ:=@Nat.le_of_eq
def fR:=@List.set_set
def fS:=@List.replicate_append_replicate
def fT:=@Array.getElem?_modify
def fU:=@List.singleton_append
def fV:=@List.set_getElem_self
def fW:=@eq_of_heq
def fX:=@Array.eq_empty_of_size_eq_zero
def fY:=@Nat.le_add_right
def fZ:=@List.any_cons
def gA:=@List.drop_append_of_le_length
def gB:=@Int.le_refl
def gC:=@List.range_succ
def gD:=@List.find?_some
def gE:=@List.getElem?_range
def gF:=@List.mem_map_of_mem
def gG:=@Bool.or_self
def gH:=@Array.getElem_setIfInBounds
def gI:=@Int.fdiv_eq_ediv_of_nonneg
def gJ:=@List.mem_filterMap
def gK:=@Int.tmod_eq_emod_of_nonneg
def gL:=@List.nodup_iff_pairwise_ne
def gM:=@Array.getElem?_eq_getElem
def gN:=@List.mem_take_iff_getElem
def gO:=@List.size_toArray
def gP:=@List.pairwise_map
def gQ:=@Bool.and_self
def gR:=@List.range'_succ
def gS:=@List.perm_middle
def gT:=@Option.getD_some
def gU:=@Nat.beq_refl
def gV:=@Bool.true_or
def gW:=@List.map_nil
def gX:=@List.take_left'
def gY:=@List.drop_left'
def gZ:=@Option.map_none
def hJ:=@Nat.min_le_left
def hK:=@List.find?_cons
def hU:=@List.length_map
def iA:=@UInt8.toNat_lt
def iB:=@Nat.mul_one
def iC:=@List.Perm.refl
def iD:=@Bool.and_false
def iE:=@Bool.false_and
def iG:=@Iff.rfl
def iH:=@false_and
def iI:=@beq_iff_eq
def iJ:=@false_or
inductive Ty where
 | int (k:IntKind)
 | bool
 | str
 | unit
 | pair (a b:Ty)
 | arr (n:Nat) (e:Ty)
 | aa (e:Ty)
 | ptr (e:Ty)
 | fn
 | map (k v:Ty)
 deriving DecidableEq
@[reducible] def DO:IntKind->Type
 | .u8=>UInt8
 | _=>Int
@[reducible] def Ty.den:Ty->Type
 | .int k=>DO k
 | .bool=>Bool
 | .str=>List UInt8
 | .unit=>Unit
 | .pair a b=>a.den×b.den
 | .arr _ e=>List e.den
 | .aa e=>List e.den
 | .ptr e=>e.den
 | .fn=>Nat×Int
 | .map k v=>List (k.den×v.den)
def Ty.sz:Ty->Nat
 | .unit=>0
 | .pair a b=>a.sz+b.sz
 | .arr n e=>n*e.sz
 | _=>1
def Ty.flat:Ty->Bool
 | .pair a b=>a.flat&&b.flat
 | .arr _ e=>e.flat
 | .aa _ | .ptr _ | .map _ _=>false
 | _=>true
def qK:(k:IntKind)->DO k->Int
 | .u8,n=>(n.toNat:Int)
 | .i8,n=>n
 | .i16,n=>n
 | .i32,n=>n
 | .i64,n=>n
 | .u16,n=>n
 | .u32,n=>n
 | .u64,n=>n
def FJ:(k:IntKind)->Int->DO k
 | .u8,n=>UInt8.ofInt n
 | .i8,n=>IntKind.wrap .i8 n
 | .i16,n=>IntKind.wrap .i16 n
 | .i32,n=>IntKind.wrap .i32 n
 | .i64,n=>IntKind.wrap .i64 n
 | .u16,n=>IntKind.wrap .u16 n
 | .u32,n=>IntKind.wrap .u32 n
 | .u64,n=>IntKind.wrap .u64 n
def ZR:(k:IntKind)->Int->DO k
 | .u8,n=>UInt8.ofInt n
 | .i8,n=>n
 | .i16,n=>n
 | .i32,n=>n
 | .i64,n=>n
 | .u16,n=>n
 | .u32,n=>n
 | .u64,n=>n
def Ty.zero:(t:Ty)->t.den
 | .int k=>ZR k 0
 | .bool=>false
 | .str=>[]
 | .unit=>()
 | .pair a b=>(a.zero,b.zero)
 | .arr n e=>List.replicate n e.zero
 | .aa _=>[]
 | .ptr e=>e.zero
 | .fn=>(0,0)
 | .map _ _=>[]
def Ty.w8:Ty->Bool
 | .pair a b=>a.w8&&b.w8
 | .arr _ e=>e.w8
 | .ptr _ | .fn | .map _ _=>false
 | _=>true
def Ty.eq:(t:Ty)->t.den->t.den->Bool
 | .int .u8,a,b=>a == b
 | .int .i8,a,b=>decide (a=b)
 | .int .i16,a,b=>decide (a=b)
 | .int .i32,a,b=>decide (a=b)
 | .int .i64,a,b=>decide (a=b)
 | .int .u16,a,b=>decide (a=b)
 | .int .u32,a,b=>decide (a=b)
 | .int .u64,a,b=>decide (a=b)
 | .bool,a,b=>a == b
 | .str,a,b=>decide (a=b)
 | .pair x y,a,b=>x.eq a.1 b.1&&y.eq a.2 b.2
 | .arr _ e,a,b=>(a.zip b).all λp=>e.eq p.1 p.2
 | _,_,_=>true
def Ty.oZ:Ty->Bool
 | .int _ | .bool | .str | .unit=>true
 | .pair a b=>a.oZ&&b.oZ
 | .arr _ e=>e.oZ
 | _=>false
def Ty.sV:Ty->Bool
 | .pair a b=>a.sV&&b.sV
 | .arr _ e | .aa e | .ptr e=>e.sV
 | .map k v=>k.sV&&v.sV
 | .fn=>false
 | _=>true
inductive Md where
 | leaf
 | pair (a b:Md)
 | arr (e:Md)
 | aa (own:Bool) (e:Md)
 | ptr (own:Bool) (e:Md)
 deriving DecidableEq
def vS (own:Bool):Ty->Md
 | .pair a b=>.pair (vS own a) (vS own b)
 | .arr _ e=>.arr (vS own e)
 | .aa e=>.aa own (vS own e)
 | .ptr e=>.ptr own (vS own e)
 | .map _ _=>.aa own .leaf
 | _=>.leaf
abbrev ak:=vS false
abbrev aj:=vS true
def Md.l:Md->Md
 | .pair a _=>a
 | _=>.leaf
def Md.r:Md->Md
 | .pair _ b=>b
 | _=>.leaf
def Md.e:Md->Md
 | .arr e | .aa _ e | .ptr _ e=>e
 | _=>.leaf
def Md.own:Md->Bool
 | .aa o _ | .ptr o _=>o
 | _=>false
def Md.kU:Md->Bool
 | .leaf=>true
 | .pair a b=>a.kU&&b.kU
 | .arr e=>e.kU
 | .aa o e=>!o&&e.kU
 | .ptr o e=>!o&&e.kU
def fits:Md->Md->Bool
 | .leaf,.leaf=>true
 | .pair a b,.pair c d=>fits a c&&fits b d
 | .arr a,.arr b=>fits a b
 | .aa o a,.aa o' b=>(o||!o')&&(o'||b.kU)&&fits a b
 | .ptr o a,.ptr o' b=>(o||!o')&&(o'||b.kU)&&fits a b
 | _,_=>false
inductive Step where
 | fst
 | snd
 | idx (i:Nat)
 | rO (i:Nat)
abbrev Path:=List Step
def ej:Path->Nat
 | []=>0
 | .idx _::p=>ej p+1
 | _::p=>ej p
structure JF where
 t:Ty
 m:Md
 v:t.den
inductive Slot where
 | dead
 | ye
 | val (t:Ty) (v:t.den)
 | cp (t:Ty) (v:t.den)
 | own (t:Ty) (m:Md) (H:List Path) (v:t.den)
 | box (t:Ty) (m:Md) (H:List Path) (v:t.den)
 | ref (r:Nat) (p:Path) (snap:List Nat)
 | sub (r:Nat) (p:Path) (snap:List Nat) (lo hi:Nat)
 | ptr (r:Nat) (p:Path) (snap:List Nat)
 | sQ (xs:List JF)
structure St where
 n:Nat
 sl:List (Nat×Slot)
 vr:List (Nat×List Nat)
 ay:List (Nat×Nat×Bool)
 gh:List (Nat×Nat×Path×List Nat):=[]
def oD {α:Type}:List (Nat×α)->Nat->Option α
 | [],_=>none
 | (k,x)::l,i=>if Nat.beq k i then some x else oD l i
def St.get (σ:St) (i:Nat):Slot:=if Nat.blt i σ.n then (match oD σ.sl i with | some s=>s | none=>.dead) else .dead
def St.lA (σ:St) (i:Nat):List Nat:=match oD σ.vr i with | some v=>v | none=>[0,0,0,0,0]
def tS:List Nat->List Nat:=λv=>v.map (·+1)
def vw (d:Nat):List Nat->List Nat
 | [b,x,y,z,w]=>match d with
  | 0=>[b,x+1,y,z,w+1]
  | 1=>[b,x,y+1,z,w+1]
  | 2=>[b,x,y,z+1,w+1]
  | _=>[b+1,x,y,z,w+1]
 | v=>tS v
def yf:List Nat->List Nat
 | [b,x,y,z,w]=>[b,x,y,z,w+1]
 | v=>tS v
def St.nq (σ:St) (i:Nat) (f:List Nat->List Nat):St:={ σ with vr:=(i,f (σ.lA i))::σ.vr }
def BF:List (Nat×Nat×Bool)->Nat->List (Nat×Nat×Bool)
 | [],_=>[]
 | (k,b)::l,i=>if Nat.beq k i then BF l i else (k,b)::BF l i
def N0:List (Nat×Nat×Path×List Nat)->Nat->List (Nat×Nat×Path×List Nat)
 | [],_=>[]
 | (d,x)::l,i=>if Nat.beq d i then N0 l i else (d,x)::N0 l i
def BG:List (Nat×Nat×Bool)->Nat->List (Nat×Nat×Bool)
 | [],_=>[]
 | (k,n,b)::l,i=>if Nat.beq k i&&b then BG l i else (k,n,b)::BG l i
def DP:List (Nat×Nat×Bool)->Nat->Nat->Bool->Bool
 | [],_,_,_=>false
 | (k,n,b)::l,i,j,c=>(Nat.beq k i&&Nat.beq n j&&(b == c))||DP l i j c
def Ei:List (Nat×Nat×Bool)->Nat->Bool
 | [],_=>false
 | (k,_,b)::l,i=>(Nat.beq k i&&!b)||Ei l i
def JG:List (Nat×Nat×Bool)->Nat->Option Nat
 | [],_=>none
 | (k,n,b)::l,i=>if Nat.beq k i&&b then some n else JG l i
def St.put (σ:St) (i:Nat) (s:Slot):St:={ n:=σ.n,sl:=(i,s)::σ.sl,vr:=(i,tS (σ.lA i))::σ.vr,ay:=BF σ.ay i,gh:=N0 σ.gh i }
def St.head (σ:St) (r d:Nat):St:=match d with
 | 0=>{ σ with ay:=BG σ.ay r }
 | _=>σ
def St.ml (σ:St) (i:Nat) (s:Slot):St:={ σ with sl:=(i,s)::σ.sl }
def St.cq (σ:St) (d:Option Tmp) (s:Slot):St:=match d with
 | some i=>σ.put i s
 | none=>σ
def preB:List Nat->List Nat->Bool
 | [],_=>true
 | a::x,b::y=>Nat.beq a b&&preB x y
 | _::_,[]=>false
section
variable {R:Type}
def jS (t t':Ty) (v:t.den) (K:t'.den->Option R):Option R:=
 if h:t=t' then K (h ▸ v) else none
def xg:Path->Option Path
 | .fst::p=>some p
 | _=>none
def xh:Path->Option Path
 | .snd::p=>some p
 | _=>none
def zu (H:List Path) (i:Nat) (K:List Path->Option R):Option R:=
 match H with
 | []=>K []
 | [.idx j::q]=>if i=j then K [q] else none
 | _=>none
def o3:(p:Path)->(t:Ty)->Md->List Path->t.den->((t':Ty)->Md->List Path->t'.den->Option R)->Option R
 | [],t,m,H,v,K=>K t m H v
 | .fst::p,.pair a _,m,H,v,K=>if H.any (·.isEmpty) then none else o3 p a m.l (H.filterMap xg) v.1 K
 | .snd::p,.pair _ b,m,H,v,K=>if H.any (·.isEmpty) then none else o3 p b m.r (H.filterMap xh) v.2 K
 | .idx i::p,.aa e,m,H,v,K=>zu H i λH'=>(v[i]?).bind λx=>o3 p e m.e H' x K
 | .rO i::p,.arr _ e,m,H,v,K=>if H.isEmpty then (v[i]?).bind λx=>o3 p e m.e [] x K else none
 | _,_,_,_,_,_=>none
def sv:(p:Path)->(t:Ty)->Md->List Path->t.den ->
    ((t':Ty)->Md->List Path->t'.den->(Md->List Path->t'.den->Option R)->Option R)->(Md->List Path->t.den->Option R)->Option R
 | [],t,m,H,v,f,K=>f t m H v K
 | .fst::p,.pair a _,m,H,v,f,K=>
  if H.any (·.isEmpty) then none else
  sv p a m.l (H.filterMap xg) v.1 f λm' H' x=>K (.pair m' m.r) (H'.map (.fst::·)++(H.filterMap xh).map (.snd::·)) (x,v.2)
 | .snd::p,.pair _ b,m,H,v,f,K=>
  if H.any (·.isEmpty) then none else
  sv p b m.r (H.filterMap xh) v.2 f λm' H' x=>K (.pair m.l m') ((H.filterMap xg).map (.fst::·)++H'.map (.snd::·)) (v.1,x)
 | .idx i::p,.aa e,m,H,v,f,K=>
  if m.own then
   zu H i λH0=>(v[i]?).bind λx=>
    sv p e m.e H0 x f λm' H' y=>
     if m'=m.e then K (.aa true m.e) (H'.map (.idx i::·)) (v.set i y)
     else if H'.isEmpty then K (.aa true (ak e)) [] (v.set i y) else none
  else none
 | .rO i::p,.arr _ e,m,H,v,f,K=>
  if H.isEmpty then (v[i]?).bind λx=>
   sv p e m.e [] x f λ_ H' y=>if H'.isEmpty then K m [] (v.set i y) else none
  else none
 | _,_,_,_,_,_,_=>none
def Dp:Path->Ty->Option Ty
 | [],t=>some t
 | .fst::p,.pair a _=>Dp p a
 | .snd::p,.pair _ b=>Dp p b
 | .idx _::p,.aa e=>Dp p e
 | .rO _::p,.arr _ e=>Dp p e
 | _,_=>none
def yg (σ:St) (r:Nat) (K:(t:Ty)->Md->List Path->t.den->Option R):Option R:=
 match σ.get r with
 | .own t m H v | .box t m H v=>K t m H v
 | _=>none
def St.kO (σ:St) (r:Nat) (t:Ty) (m:Md) (H:List Path) (v:t.den):St:=
 match σ.get r with
 | .box ..=>σ.ml r (.box t m H v)
 | _=>σ.ml r (.own t m H v)
def St.ok (σ:St) (r:Nat) (snap:List Nat):Bool:=preB snap (σ.lA r)
def qy (σ:St) (r:Nat) (p:Path) (K:(t:Ty)->Md->List Path->t.den->Option R):Option R:=
 yg σ r λt m H v=>o3 p t m H v K
def w9 (σ:St) (r:Nat) (p:Path) (t:Ty) (m:Md) (v:t.den) (K:St->Option R):Option R:=
 yg σ r λt0 m0 H0 v0=>
  sv p t0 m0 H0 v0 (λt' _ _ _ k=>jS t t' v λx=>k m [] x) λm' H' v'=>
   K (((σ.kO r t0 m' H' v').nq r (if t.flat then yf else vw (ej p))).head r (ej p))
def vI:Ty->List Path
 | .pair a b=>(vI a).map (.fst::·)++(vI b).map (.snd::·)
 | .aa _ | .ptr _ | .map _ _=>[[]]
 | .arr _ e=>if e.flat then [] else [[]]
 | _=>[]
def A8 (σ:St) (r:Nat) (p:Path) (K:St->Option R):Option R:=
 yg σ r λt0 m0 H0 v0=>
  sv p t0 m0 H0 v0 (λt' m' _ x k=>k m' (vI t') x) λm' H' v'=>
   K (((σ.kO r t0 m' H' v').nq r (vw (ej p))).head r (ej p))
def zw (σ:St) (r:Nat) (p:Path) (K:St->Option R):Option R:=
 yg σ r λt0 m0 H0 v0=>
  sv p t0 m0 H0 v0 (λt' m H x k=>if H.isEmpty&&fits m (ak t') then k (ak t') [] x else none) λm' H' v'=>
   K (σ.kO r t0 m' H' v')
def xR (σ:St) (r:Nat) (p:Path) (m1:Md) (K:St->Option R):Option R:=
 yg σ r λt0 m0 H0 v0=>
  sv p t0 m0 H0 v0 (λ_ m H x k=>if H.isEmpty&&fits m m1 then k m1 [] x else none) λm' H' v'=>
   K (σ.kO r t0 m' H' v')
def xS (σ:St) (r:Nat) (p:Path):List Nat:=(σ.lA r).take (1+ej p)
def wE (σ:St) (r:Nat) (p:Path) (t:Ty):List Nat:=match t with
 | .aa _ | .map _ _=>(σ.lA r).take (2+ej p)
 | _=>σ.lA r
def Ah:Value->Slot
 | .int .u8 n=>if ((UInt8.ofInt n).toNat:Int)=n then .val (.int .u8) (UInt8.ofInt n) else .dead
 | .int .i64 n=>.val (.int .i64) n
 | .int .u64 n=>.val (.int .u64) n
 | .int .u32 n=>.val (.int .u32) n
 | .int .i32 n=>.val (.int .i32) n
 | .bool b=>.val .bool b
 | .string s=>.val .str s.data.toList
 | .slice none 0 0=>.ye
 | _=>.dead
def eh (σ:St):Operand->Slot
 | .tmp i=>match σ.get i with
  | .own t _ _ _=>.ref i [] (wE σ i [] t)
  | .box _ _ _ _=>.ptr i [] (xS σ i [])
  | s=>s
 | .const v=>Ah v
 | .func f=>.val .fn (f,0)
 | .global _=>.dead
def nw (σ:St) (s:Slot) (mv:Bool) (t:Ty) (K:Md->t.den->St->Option R):Option R:=
 match s with
 | .val t' v=>jS t' t v λv=>K (ak t) v σ
 | .cp t' v=>jS (.ptr t') t v λv=>K (ak t) v σ
 | .ye=>match t with
  | .aa e=>K (aj (.aa e)) [] σ
  | _=>none
 | .ref r p snap=>
  if σ.ok r snap then
   qy σ r p λt' m H v=>
    if H.isEmpty then jS t' t v λv=>
     if m=ak t then K m v σ
     else if mv then A8 σ r p λσ=>K m v σ
     else zw σ r p λσ=>K (ak t) v σ
    else none
  else none
 | .sub r p snap lo hi=>
  if σ.ok r snap then
   qy σ r p λt' m H v=>
    if H.isEmpty then jS t' t v λv=>match t,v with
     | .aa e,v=>
      if m=ak (.aa e) then K m ((v.take hi).drop lo) σ
      else if mv then (if lo=0 then A8 σ r p λσ=>K m ((v.take hi).drop lo) σ else none)
      else zw σ r p λσ=>K (ak (.aa e)) ((v.take hi).drop lo) σ
     | _,_=>none
    else none
  else none
 | .ptr r [] snap=>
  if σ.ok r snap then
   match σ.get r with
   | .box t' m H v=>if H.isEmpty&&!Ei σ.ay r then jS (.ptr t') t v λv=>K (.ptr true m) v (σ.put r .dead) else none
   | _=>none
  else none
 | _=>none
def uk (σ:St) (s:Slot) (t:Ty) (K:t.den->Option R):Option R:=
 match s with
 | .val t' v=>jS t' t v K
 | .cp t' v=>jS (.ptr t') t v K
 | .ye=>match t with
  | .aa _=>K []
  | _=>none
 | .ref r p snap=>
  if σ.ok r snap then qy σ r p λt' _ H v=>if H.isEmpty then jS t' t v K else none
  else none
 | .sub r p snap lo hi=>
  if σ.ok r snap then
   qy σ r p λt' _ H v=>if H.isEmpty then jS t' t v λv=>match t,v with
    | .aa _,v=>K ((v.take hi).drop lo)
    | _,_=>none
   else none
  else none
 | .ptr r p snap=>
  if σ.ok r snap then qy σ r p λt' _ H v=>if H.isEmpty then jS (.ptr t') t v K else none
  else none
 | _=>none
def xH (s:Slot) (K:Int->Option R):Option R:=
 match s with
 | .val (.int k) n=>K (qK k n)
 | _=>none
def JH (s:Slot) (K:Bool->Option R):Option R:=
 match s with
 | .val .bool b=>K b
 | _=>none
def laid (t:Ty) (m:Md) (v:t.den):Slot:=
 if m=ak t then .val t v else
 match t,m,v with
 | .ptr e,.ptr true m',v=>.box e m' [] v
 | t,m,v=>.own t m [] v
end
end OT
namespace OT
open Go
noncomputable section
inductive PM where
 | ro
 | jl (m m':Md)
 | lR (m:Md)
 | tj (m:Md)
 | pG (m:Md)
 | fix (f:Nat)
 deriving DecidableEq
def b_:List Ty->Ty
 | []=>.unit
 | t::ts=>.pair t (b_ ts)
def lL:List (PM×Ty)->List Ty
 | []=>[]
 | (.jl _ _,t)::ps=>t::lL ps
 | (.lR _,t)::ps=>t::lL ps
 | _::ps=>lL ps
structure vV where
 cap:Bool:=false
 ps:List (PM×Ty)
 rs:List (Ty×Md)
 F:(b_ (ps.map (·.2))).den->Option (b_ (rs.map (·.1)++lL ps)).den
 FK:(b_ (ps.map (·.2))).den->List Path->Bool:=λ_ H=>H.isEmpty
structure Env where
 TI:Nat->Option Ty
 G:Nat->Option vV
 fz:List (Nat×Nat×Nat):=[]
 lv:List (Nat×List Nat):=[]
 lx:List (Nat×List Nat):=[]
 lf:List (Nat×List (Nat×Md)):=[]
 od:List (Nat×List Nat):=[]
 ar:List (Nat×List Nat):=[]
 bx:List (Nat×List Nat):=[]
 pd:List (Nat×List Nat):=[]
 er:List (Nat×List (Nat×Nat)):=[]
def X_:List (Nat×Nat×Nat)->Nat->Nat->Nat->Bool
 | [],_,_,_=>false
 | (a,b,c)::l,i,j,k=>(Nat.beq a i&&Nat.beq b j&&Nat.beq c k)||X_ l i j k
def ct:Nat:=274877906944
section
variable {R:Type}
def qQ (E:Env) (t:Nat) (K:Ty->Option R):Option R:=
 match E.TI t with
 | some t=>K t
 | none=>none
def o4:Nat->Path
 | 0=>[.fst]
 | n+1=>.snd::o4 n
def vW:Nat->Ty->Option Ty
 | 0,.pair a _=>some a
 | n+1,.pair _ b=>vW n b
 | _,_=>none
def TB:Nat->(t:Ty)->t.den->((t':Ty)->t'.den->Option R)->Option R
 | 0,.pair a _,v,K=>K a v.1
 | n+1,.pair _ b,v,K=>TB n b v.2 K
 | _,_,_,_=>none
def N1 (σ:St) (r:Nat):Option Ty:=
 match σ.get r with
 | .own t _ _ _ | .box t _ _ _=>some t
 | _=>none
def IT (σ:St) (r:Nat) (p:Path):Option Ty:=
 match N1 σ r with
 | some t=>Dp p t
 | none=>none
def Ej (E:Env) (σ:St) (T:Nat) (a:Slot) (mv:Bool) (d:Option Tmp) (K:St->Option R):Option R:=
 qQ E T λT=>
 match a with
 | .cp t v=>if t=T then K (σ.cq d (.val t v)) else none
 | .ptr r p snap=>
  if σ.ok r snap then
   qy σ r p λt m H v=>
    if t=T then
     if t.flat then (if H.isEmpty then K (σ.cq d (.val t v)) else none)
     else if m=ak t then (if H.isEmpty then (match mv with
      | true=>K (σ.cq d (.ref r p (wE σ r p t)))
      | false=>K (σ.cq d (.val t v))) else none)
     else match mv with
      | false=>K (σ.cq d (.ref r p (wE σ r p t)))
      | true=>if H.isEmpty then A8 σ r p λσ=>K (σ.cq d (laid t m v)) else none
    else none
  else none
 | _=>none
def JI (E:Env) (σ:St) (T:Nat) (a:Operand) (mv fr:Bool) (d:Option Tmp) (K:St->Option R):Option R:=
 match fr with
 | false=>Ej E σ T (eh σ a) mv d K
 | true=>match eh σ a with
  | .ptr r p snap=>if σ.ok r snap then zw σ r p λσ=>Ej E σ T (eh σ a) mv d K else none
  | _=>none
def N2 (E:Env) (σ:St) (T:Nat) (a x:Slot) (mv:Bool) (K:St->Option R):Option R:=
 qQ E T λT=>
 match a with
 | .ptr r p snap=>
  if σ.ok r snap then
   if IT σ r p=some T then nw σ x mv T λm v σ=>w9 σ r p T m v K else none
  else none
 | _=>none
def Ek (E:Env) (σ:St) (S:Nat) (x:Slot) (j:Nat) (d:Option Tmp) (K:St->Option R):Option R:=
 qQ E S λS=>
 match x with
 | .cp t v=>if t=S then TB j t v λt' v'=>K (σ.cq d (.cp t' v')) else none
 | .ptr r p snap=>if σ.ok r snap then (if IT σ r p=some S then (if (vW j S).isSome then K (σ.cq d (.ptr r (p++o4 j) snap)) else none) else none) else none
 | _=>none
def Ln (E:Env) (σ:St) (S:Nat) (x:Slot) (j:Nat) (d:Option Tmp) (K:St->Option R):Option R:=
 qQ E S λS=>
 match x with
 | .val t v=>if t=S then TB j t v λt' v'=>K (σ.cq d (.val t' v')) else none
 | .ref r p snap=>
  if σ.ok r snap then
   if IT σ r p=some S then
    qy σ r (p++o4 j) λt m H v=>
     if t.flat||(m=ak t) then (if H.isEmpty then K (σ.cq d (.val t v)) else none)
     else K (σ.cq d (.ref r (p++o4 j) (wE σ r (p++o4 j) t)))
   else none
  else none
 | _=>none
def VM (n:Int) (len:Nat) (K:Nat->Option R):Option R:=
 if 0<=n/\n < (len:Int) then K n.toNat else none
def El (E:Env) (σ:St) (T:Nat) (x ix:Slot) (d:Option Tmp) (K:St->Option R):Option R:=
 qQ E T λT=>xH ix λn=>
 match x with
 | .val (.aa e) v=>if T=.aa e then (if 0<=n then (v[n.toNat]?).bind λy=>K (σ.cq d (.cp e y)) else none) else none
 | .cp (.arr m e) v=>if T=.arr m e then (if 0<=n then (v[n.toNat]?).bind λy=>K (σ.cq d (.cp e y)) else none) else none
 | .ref r p snap=>
  if σ.ok r snap then
   qy σ r p λt m H v=>
    if H.any (·.isEmpty) then none else
    if t=T then
     match t,v with
     | .aa e,v=>
      if m.own then VM n v.length λi=>K (σ.cq d (.ptr r (p++[.idx i]) (xS σ r (p++[.idx i]))))
      else if 0<=n then (v[n.toNat]?).bind λy=>K (σ.cq d (.cp e y)) else none
     | _,_=>none
    else none
  else none
 | .sub r p snap lo hi=>
  if σ.ok r snap then
   qy σ r p λt _ H _=>if H.any (·.isEmpty) then none else if t=T then VM n (hi - lo) λi=>K (σ.cq d (.ptr r (p++[.idx (lo+i)]) (xS σ r (p++[.idx (lo+i)])))) else none
  else none
 | .ptr r p snap=>
  if σ.ok r snap then
   qy σ r p λt _ _ v=>
    if t=T then
     match t,v with
     | .arr _ _,v=>VM n v.length λi=>K (σ.cq d (.ptr r (p++[.rO i]) snap))
     | _,_=>none
    else none
  else none
 | _=>none
def N3 (E:Env) (σ:St) (T:Nat) (x ix:Slot) (d:Option Tmp) (K:St->Option R):Option R:=
 qQ E T λT=>xH ix λn=>
 match x with
 | .val .str s=>if T=.str then (if 0<=n then (s[n.toNat]?).bind λc=>K (σ.cq d (.val (.int .u8) c)) else none) else none
 | .val (.arr m e) v=>if T=.arr m e then (if 0<=n then (v[n.toNat]?).bind λy=>K (σ.cq d (.val e y)) else none) else none
 | _=>none
def vJ (len:Nat) (lo hi:Option Slot) (K:Nat->Nat->Option R):Option R:=
 match lo,hi with
 | none,none=>K 0 len
 | some l,none=>xH l λl=>if 0<=l/\l<=(len:Int) then K l.toNat len else none
 | none,some h=>xH h λh=>if 0<=h/\h<=(len:Int) then K 0 h.toNat else none
 | some l,some h=>xH l λl=>xH h λh=>if 0<=l/\l<=h/\h<=(len:Int) then K l.toNat h.toNat else none
def N4 (E:Env) (σ:St) (T:Nat) (x:Slot) (lo hi:Option Slot) (d:Option Tmp) (K:St->Option R):Option R:=
 qQ E T λT=>
 match x with
 | .val .str s=>if T=.str then vJ s.length lo hi λl h=>K (σ.cq d (.val .str ((s.take h).drop l))) else none
 | .val (.aa e) v=>if T=.aa e then vJ v.length lo hi λl h=>K (σ.cq d (.val (.aa e) ((v.take h).drop l))) else none
 | .ref r p snap=>
  if σ.ok r snap then
   qy σ r p λt m H v=>
    if H.any (·.isEmpty) then none else
    if t=T then
     match t,v with
     | .aa e,v=>
      if m.own then vJ v.length lo hi λl h=>K (σ.cq d (.sub r p snap l h))
      else vJ v.length lo hi λl h=>K (σ.cq d (.val (.aa e) ((v.take h).drop l)))
     | _,_=>none
    else none
  else none
 | .sub r p snap l0 h0=>
  if σ.ok r snap then
   qy σ r p λt _ H _=>if H.any (·.isEmpty) then none else if t=T then vJ (h0 - l0) lo hi λl h=>K (σ.cq d (.sub r p snap (l0+l) (l0+h))) else none
  else none
 | _=>none
def Ya (E:Env) (σ:St) (t:Nat) (x:Slot) (K:Nat->Option R):Option R:=
 qQ E t λT=>
 match T with
 | .str=>match x with
  | .val .str s=>K s.length
  | _=>none
 | .aa _=>match x with
  | .val (.aa _) v=>K v.length
  | .ye=>K 0
  | .ref r p snap=>
   if σ.ok r snap then
    qy σ r p λt _ H v=>if H.any (·.isEmpty) then none else match t,v with
     | .aa _,v=>K v.length
     | _,_=>none
   else none
  | .sub r _ snap lo hi=>if σ.ok r snap then K (hi - lo) else none
  | _=>none
 | _=>none
def CP (σ:St) (x:Slot) (e:Ty) (mv:Bool) (K:Md->List e.den->St->Option R):Option R:=
 match x with
 | .val .str s=>jS (.aa (.int .u8)) (.aa e) s λs=>K .leaf s σ
 | x=>nw σ x mv (.aa e) λm v σ=>K m.e v σ
def Lo (E:Env) (σ:St) (T:Nat) (b:Slot) (x:Operand) (mv tf:Bool) (d:Option Tmp) (K:St->Option R):Option R:=
 qQ E T λT=>
 match T with
 | .aa e=>
  match tf&&(e.flat&&e.sV) with
  | true=>CP σ (eh σ x) e false λ_ y _=>nw σ b true (.aa e) λm v σ=>
   if m.own then
    if v.length+y.length<=ct then K (σ.cq d (.own (.aa e) (.aa true (ak e)) [] (v++y))) else none
   else none
  | false=>
  nw σ b true (.aa e) λm v σ=>
   if m.own then
    CP σ (eh σ x) e mv λme y σ=>
     if v.length+y.length<=ct then
      K (σ.cq d (.own (.aa e) (.aa true (if me=m.e then me else ak e)) [] (v++y)))
     else none
   else none
 | _=>none
def o5 {α:Type} (v:List α) (lo n:Nat) (y:List α):List α:=v.take lo++y.take n++v.drop (lo+n)
def TC (E:Env) (σ:St) (T:Nat) (b:Operand) (x:Slot) (d:Option Tmp) (K:St->Option R):Option R:=
 qQ E T λT=>
 match T with
 | .aa e=>
  if e.flat then
   CP σ x e true λ_ y σ=>
    match eh σ b with
    | .sub r p snap lo hi=>
     if σ.ok r snap then
      qy σ r p λt m H v=>
       if m.own&&H.isEmpty then jS t (.aa e) v λv=>
        w9 σ r p (.aa e) m (o5 v lo (min y.length (hi - lo)) y) λσ'=>
         K (({ σ' with vr:=(σ.nq r yf).vr,ay:=σ.ay }).cq d (.val (.int .i64) ((min y.length (hi - lo):Nat):Int)))
       else none
     else none
    | .ref r p snap=>
     if σ.ok r snap then
      qy σ r p λt m H v=>
       if m.own&&H.isEmpty then jS t (.aa e) v λv=>
        w9 σ r p (.aa e) m (o5 v 0 (min y.length v.length) y) λσ'=>
         K (({ σ' with vr:=(σ.nq r yf).vr,ay:=σ.ay }).cq d (.val (.int .i64) ((min y.length v.length:Nat):Int)))
       else none
     else none
    | _=>none
  else none
 | _=>none
def FZ:Nat->(t:Ty)->Md->t.den->(t':Ty)->Md->t'.den->(Md->t.den->Option R)->Option R
 | 0,.pair a _,m,v,t',m',x,K=>jS t' a x λx=>K (.pair m' m.r) (x,v.2)
 | n+1,.pair _ b,m,v,t',m',x,K=>FZ n b m.r v.2 t' m' x λm'' y=>K (.pair m.l m'') (v.1,y)
 | _,_,_,_,_,_,_,_=>none
def F7 (E:Env) (σ:St) (t:Ty) (fz:Nat->Bool):List (Nat×Operand)->Nat->Md->t.den->(Md->t.den->St->Option R)->Option R
 | [],_,m,v,K=>K m v σ
 | (j,x)::ps,n,m,v,K=>
  match vW j t with
  | some t'=>nw σ (eh σ x) (!fz n) t' λm' y σ'=>FZ j t m v t' m' y λm v=>F7 E σ' t fz ps (n+1) m v K
  | none=>none
def IU (σ:St) (e:Ty) (fz:Nat->Bool):List (Nat×Operand)->Nat->Md->List e.den->(Md->List e.den->St->Option R)->Option R
 | [],_,m,v,K=>K m v σ
 | (j,x)::ps,n,m,v,K=>
  if Nat.beq j n then
   nw σ (eh σ x) (!fz n) e λm' y σ'=>IU σ' e fz ps (n+1) (if m'=m then m else ak e) (v++[y]) K
  else none
def N5 (σ:St) (e:Ty) (fz:Nat->Bool):List (Nat×Operand)->Nat->List e.den->(List e.den->St->Option R)->Option R
 | [],_,v,K=>K v σ
 | (j,x)::ps,n,v,K=>
  nw σ (eh σ x) (!fz n) e λ_ y σ'=>if j < v.length then N5 σ' e fz ps (n+1) (v.set j y) K else none
def N6 (op:BinOp) (k:IntKind) (a b:Int) (K:(t:Ty)->t.den->Option R):Option R:=
 match op with
 | .add=>K (.int k) (FJ k (a+b))
 | .sub=>K (.int k) (FJ k (a - b))
 | .mul=>K (.int k) (FJ k (a*b))
 | .quo=>if b=0 then none else K (.int k) (FJ k (a.tdiv b))
 | .rem=>if b=0 then none else K (.int k) (ZR k (a.tmod b))
 | .and=>K (.int k) (FJ k ((BitVec.ofInt k.bits a &&& BitVec.ofInt k.bits b).toNat:Int))
 | .or=>K (.int k) (FJ k ((BitVec.ofInt k.bits a ||| BitVec.ofInt k.bits b).toNat:Int))
 | .xor=>K (.int k) (FJ k ((BitVec.ofInt k.bits a ^^^ BitVec.ofInt k.bits b).toNat:Int))
 | .shl=>if b < 0 then none else K (.int k) (FJ k (a*2 ^ (min b.toNat k.bits)))
 | .shr=>if b < 0 then none else K (.int k) (ZR k (a.fdiv (2 ^ (min b.toNat k.bits))))
 | .eql=>K .bool (decide (a=b))
 | .neq=>K .bool (!decide (a=b))
 | .lss=>K .bool (decide (a < b))
 | .leq=>K .bool (decide (a<=b))
 | .gtr=>K .bool (decide (b < a))
 | .geq=>K .bool (decide (b<=a))
 | _=>none
def Yb (op:BinOp) (a b:List UInt8) (K:(t:Ty)->t.den->Option R):Option R:=
 match op with
 | .add=>if a.length+b.length<=ct then K .str (a++b) else none
 | .eql=>K .bool (decide (a=b))
 | .neq=>K .bool (!decide (a=b))
 | _=>none
def both (a b:Option R):Option R:=open Classical in if a=b then a else none
def BH {α:Type} (v:List α) (a b:Option R):Option R:=match v with
 | []=>both a b
 | _::_=>b
def abz {α:Type} (op:BinOp) (v:List α) (K:(t:Ty)->t.den->Option R):Option R:=match op with
 | .eql=>BH v (K .bool true) (K .bool false)
 | .neq=>BH v (K .bool false) (K .bool true)
 | _=>none
def N7 (E:Env) (tid:Nat) (op:BinOp) (x y:Slot) (K:(t:Ty)->t.den->Option R):Option R:=
 match x,y with
 | .val (.int k) a,.val (.int k') b=>
  match op with
  | .shl | .shr=>N6 op k (qK k a) (qK k' b) K
  | _=>if k=k' then N6 op k (qK k a) (qK k' b) K else none
 | .val .str a,.val .str b=>Yb op a b K
 | .val t a,.val t' b=>
  match op with
  | .eql=>if t.oZ then qQ E tid λT=>if T=t then jS t' t b λb=>K .bool (t.eq a b) else none else none
  | .neq=>if t.oZ then qQ E tid λT=>if T=t then jS t' t b λb=>K .bool (!t.eq a b) else none else none
  | _=>none
 | .val (.aa e) v,.ye=>qQ E tid λT=>if T=.aa e then abz op v K else none
 | _,_=>none
def Em (E:Env) (σ:St) (S T:Nat) (x:Slot) (d:Option Tmp) (K:St->Option R):Option R:=
 qQ E S λS=>qQ E T λT=>
 match T with
 | .int k=>match x with
  | .val (.int k') n=>if S=.int k' then K (σ.cq d (.val (.int k) (FJ k (qK k' n)))) else none
  | _=>none
 | .str=>match S with
  | .str=>match x with
   | .val .str s=>K (σ.cq d (.val .str s))
   | _=>none
  | .aa (.int .u8)=>uk σ x (.aa (.int .u8)) λv=>K (σ.cq d (.val .str v))
  | _=>none
 | .aa (.int .u8)=>match x with
  | .val .str s=>if S=.str then (if s.length<=ct then K (σ.cq d (.own (.aa (.int .u8)) (aj (.aa (.int .u8))) [] s)) else none) else none
  | _=>none
 | _=>none
def N8 (σ:St) (s:Slot) (t:Ty) (K:t.den->Option R):Option R:=
 match s with
 | .val t' v=>jS t' t v K
 | .cp t' v=>jS (.ptr t') t v K
 | .ye=>match t with
  | .aa _=>K []
  | _=>none
 | .ref r p snap=>
  if σ.ok r snap then qy σ r p λt' m H v=>if H.isEmpty&&(t'.flat||decide (m=ak t')) then jS t' t v K else none
  else none
 | .sub r p snap lo hi=>
  if σ.ok r snap then
   qy σ r p λt' m H v=>if H.isEmpty&&decide (m=ak t') then jS t' t v λv=>match t,v with
    | .aa _,v=>K ((v.take hi).drop lo)
    | _,_=>none
   else none
  else none
 | _=>none
def BI (σ:St) (ow:Bool) (pm:PM) (t:Ty) (s:Slot) (K:t.den->Option (Nat×Path)->Option R):Option R:=
 match pm with
 | .ro=>match ow with
  | true=>uk σ s t λv=>K v none
  | false=>N8 σ s t λv=>K v none
 | .fix f=>match s with
  | .val .fn v=>if Nat.beq v.1 f then jS .fn t v λv=>K v none else none
  | _=>none
 | .jl m _=>match s with
  | .ptr r p snap=>
   if σ.ok r snap then qy σ r p λt' m' H v=>if H.isEmpty&&decide (m'=m) then jS t' t v λv=>K v (some (r,p)) else none
   else none
  | _=>none
 | .tj m=>match s with
  | .ptr r p snap=>
   if σ.ok r snap then qy σ r p λt' m' H v=>if H.isEmpty&&decide (m'=m) then jS t' t v λv=>K v (some (r,p)) else none
   else none
  | _=>none
 | .lR m=>match s with
  | .ref r p snap=>
   if σ.ok r snap then qy σ r p λt' m' H v=>if H.isEmpty&&decide (m'=m) then jS t' t v λv=>K v (some (r,p)) else none
   else none
  | _=>none
 | .pG m=>match s with
  | .ref r p snap=>
   if σ.ok r snap then qy σ r p λt' m' _ v=>if m'=m then jS t' t v λv=>K v (some (r,p)) else none
   else none
  | _=>none
def nF:Slot->List Nat
 | .ref r _ _ | .sub r _ _ _ _ | .ptr r _ _=>[r]
 | _=>[]
def NF (σ:St) (ow:Bool):(ps:List (PM×Ty))->List Slot->((b_ (ps.map (·.2))).den->List (Nat×Path)->Option R)->Option R
 | [],[],K=>K () []
 | (pm,t)::ps,s::ss,K=>BI σ ow pm t s λv w=>NF σ ow ps ss λvs ws=>K (v,vs) (match w with | some x=>x::ws | none=>ws)
 | _,_,_=>none
def tk (σ:St):List (PM×Ty)->List Operand->(St->Option R)->Option R
 | (.jl m _,_)::ps,x::xs,K=>match eh σ x with
  | .ptr r p snap=>if σ.ok r snap then qy σ r p λ_ m' _ _=>if m'=m then tk σ ps xs K else xR σ r p m λσ=>tk σ ps xs K else none
  | _=>none
 | (.tj m,_)::ps,x::xs,K=>match eh σ x with
  | .ptr r p snap=>if σ.ok r snap then qy σ r p λ_ m' _ _=>if m'=m then tk σ ps xs K else xR σ r p m λσ=>tk σ ps xs K else none
  | _=>none
 | (.lR m,_)::ps,x::xs,K=>match eh σ x with
  | .ref r p snap=>if σ.ok r snap then qy σ r p λ_ m' _ _=>if m'=m then tk σ ps xs K else xR σ r p m λσ=>tk σ ps xs K else none
  | _=>none
 | (.pG m,_)::ps,x::xs,K=>match eh σ x with
  | .ref r p snap=>if σ.ok r snap then qy σ r p λ_ m' _ _=>if m'=m then tk σ ps xs K else xR σ r p m λσ=>tk σ ps xs K else none
  | _=>none
 | _::ps,_::xs,K=>tk σ ps xs K
 | _,_,K=>K σ
def abA (x:Operand) (r:Nat) (t:Ty) (v:t.den) (σ:St):St:=match x with
 | .tmp i=>match Nat.beq i r||!Nat.blt i σ.n with
  | true=>σ
  | false=>(σ.put i .dead).put i (.cp t v)
 | _=>σ
def BJ (σ:St):List (PM×Ty)->List Operand->(St->Option R)->Option R
 | (.ro,t)::ps,x::xs,K=>
  if t.flat then BJ σ ps xs K else
  match eh σ x with
  | .ref r p snap=>if σ.ok r snap then zw σ r p λσ=>BJ σ ps xs K else none
  | .sub r p snap _ _=>if σ.ok r snap then zw σ r p λσ=>BJ σ ps xs K else none
  | .ptr r p snap=>if σ.ok r snap then
    match p,σ.get r with
    | [],.box t m H v=>if H.isEmpty&&fits m (ak t) then BJ (abA x r t v ((σ.put r .dead).put r (.cp t v))) ps xs K else none
    | _,_=>none
   else none
  | _=>BJ σ ps xs K
 | _::ps,_::xs,K=>BJ σ ps xs K
 | _,_,K=>K σ
def apart:List Nat->List (Nat×Path)->Bool
 | _,[]=>true
 | all,(r,_)::ws=>Nat.ble (all.count r) 1&&apart all ws
def tm (σ:St):(ps:List (PM×Ty))->List (Nat×Path)->(b_ (lL ps)).den->(St->Option R)->Option R
 | [],[],_,K=>K σ
 | (.ro,_)::ps,ws,v,K=>tm σ ps ws v K
 | (.fix _,_)::ps,ws,v,K=>tm σ ps ws v K
 | (.jl _ m,t)::ps,(r,p)::ws,v,K=>w9 σ r p t m v.1 λσ=>tm σ ps ws v.2 K
 | (.tj m,t)::ps,(r,p)::ws,v,K=>match w9 σ r p t m t.zero (λ_=>some ()) with
  | some _=>tm (σ.put r .dead) ps ws v K
  | none=>none
 | (.pG _,_)::ps,(r,p)::ws,v,K=>A8 σ r p λσ=>tm σ ps ws v K
 | (.lR m,t)::ps,(r,p)::ws,v,K=>w9 σ r p t m v.1 λσ'=>tm { σ' with vr:=(σ.nq r (vw (ej p+1))).vr,ay:=σ.ay } ps ws v.2 K
 | _,_,_,_=>none
def lM:(rs:List (Ty×Md))->{ts:List Ty}->(b_ (rs.map (·.1)++ts)).den->List JF×(b_ ts).den
 | [],_,v=>([],v)
 | (t,m)::rs,_,v=>(⟨t,m,v.1⟩::(lM rs v.2).1,(lM rs v.2).2)
def wF:List JF->Slot
 | []=>.dead
 | [x]=>laid x.t x.m x.v
 | xs=>.sQ xs
def BK:List (Ty×Md)->Bool
 | []=>true
 | (t,m)::rs=>(t.flat||decide (m=aj t))&&t.sV&&BK rs
def o_:List (PM×Ty)->Bool
 | []=>true
 | (.jl m m',t)::ps=>(t.flat||decide (m=aj t))&&t.sV&&((t.flat||decide (m'=aj t))&&o_ ps)
 | (.lR m,t)::ps=>(t.flat||decide (m=aj t))&&t.sV&&o_ ps
 | (.tj m,t)::ps=>(t.flat||decide (m=aj t))&&t.sV&&o_ ps
 | (.pG m,t)::ps=>(t.flat||decide (m=aj t))&&t.sV&&o_ ps
 | _::ps=>o_ ps
def TD:List (PM×Ty)->Bool
 | []=>false
 | (.pG _,_)::_=>true
 | _::ps=>TD ps
def Yc (σ:St) (hv:Bool) (ho:List Path->Bool) (ws:List (Nat×Path)) (K:Option R):Option R:=
 match hv,ws with
 | true,(r,p)::_=>qy σ r p λ_ _ H _=>match ho H with
  | true=>K
  | false=>none
 | _,_=>K
def JJ (g:vV) (ow:Bool) (σ:St) (xs:List Operand) (ex:List Slot) (d:Option Tmp) (K:St->Option R):Option R:=
 tk σ g.ps xs λσ=>
  NF σ ow g.ps (xs.map (eh σ)++ex) λv ws=>
   if Nat.ble ws.length 1&&apart ((xs.map (eh σ)++ex).flatMap nF) ws then
    Yc σ (TD g.ps) (g.FK v) ws ((g.F v).bind λout=>
     tm σ g.ps ws (lM g.rs out).2 λσ=>K (σ.cq d (wF (lM g.rs out).1)))
   else none
def En (g:vV) (σ:St) (xs:List Operand) (ex:List Slot) (d:Option Tmp) (K:St->Option R):Option R:=
 match BK g.rs&&o_ g.ps with
 | true=>JJ g true σ xs ex d K
 | false=>BJ σ g.ps xs λσ=>JJ g false σ xs ex d K
def Lp (E:Env) (σ:St) (T:Nat) (x:Operand) (mv:Bool) (d:Option Tmp) (K:St->Option R):Option R:=
 match eh σ x with
 | .dead=>K (σ.cq d .dead)
 | .ye=>qQ E T λT=>match T with
  | .aa e=>K (σ.cq d (.own (.aa e) (aj (.aa e)) [] []))
  | _=>none
 | .sQ []=>K (σ.cq d (.sQ []))
 | .sQ _=>none
 | .ref r p snap=>
  if σ.ok r snap then
   match IT σ r p with
   | some t=>nw σ (.ref r p snap) mv t λm v σ=>K (σ.cq d (laid t m v))
   | none=>none
  else none
 | .sub r p snap lo hi=>
  if σ.ok r snap then
   match IT σ r p with
   | some t=>nw σ (.sub r p snap lo hi) mv t λm v σ=>K (σ.cq d (laid t m v))
   | none=>none
  else none
 | .ptr r p snap=>
  match p,σ.get r with
  | [],.box t m H v=>if σ.ok r snap&&mv&&!Ei σ.ay r then (match d with | some i=>K ((σ.put r .dead).put i (.box t m H v)) | none=>none) else K (σ.cq d (.ptr r [] snap))
  | p,_=>K (σ.cq d (.ptr r p snap))
 | s=>K (σ.cq d s)
def TE (σ:St) (x:Operand) (d:Option Tmp) (K:St->Option R):Option R:=
 match eh σ x,x with
 | .sQ xs,.tmp i=>K ((σ.put i .dead).cq d (.sQ xs))
 | .sQ _,_=>none
 | s,_=>K (σ.cq d s)
def N9 (σ:St) (x:Operand) (d:Option Tmp) (σ':St):St:=
 match x,d with
 | .tmp i,some d=>match σ.get i with
  | .own _ _ _ _=>match JG σ.ay i with
   | some n=>{ σ' with ay:=(d,n,true)::σ'.ay }
   | none=>σ'
  | _=>σ'
 | _,_=>σ'
def N_:Slot->Option (Nat×Int)
 | .val .fn f=>some f
 | _=>none
def jY {α:Type} (k:Ty) (m:List (k.den×α)) (x:k.den):Option α:=(m.find? λe=>k.eq x e.1).map (·.2)
def nG {α:Type} (k:Ty) (m:List (k.den×α)) (x:k.den) (y:α):List (k.den×α):=match m.findIdx? (λe=>k.eq x e.1) with
 | some i=>m.set i (x,y)
 | none=>m++[(x,y)]
def CQ {α:Type} (o:Option α) (z:α):α:=match o with
 | some x=>x
 | none=>z
def Lq (E:Env) (σ:St) (T:Nat) (x ix:Slot) (ok:Bool) (d:Option Tmp) (K:St->Option R):Option R:=
 qQ E T λT=>
 match T with
 | .map k v=>
  if v.w8 then
   match x with
   | .ref r p snap=>
    if σ.ok r snap then
     qy σ r p λt _ H y=>
      if H.isEmpty then jS t (.map k v) y λy=>
       match ix with
       | .val t2 i=>jS t2 k i λi=>
        match ok with
        | true=>K (σ.cq d (.sQ [⟨v,ak v,CQ (jY k y i) v.zero⟩,⟨.bool,.leaf,(jY k y i).isSome⟩]))
        | false=>K (σ.cq d (.val v (CQ (jY k y i) v.zero)))
       | _=>none
      else none
    else none
   | _=>none
  else none
 | _=>none
def Lr (E:Env) (σ:St) (T:Nat) (x ix y:Slot) (K:St->Option R):Option R:=
 qQ E T λT=>
 match T with
 | .map k v=>
  match x with
  | .ref r p snap=>
   if σ.ok r snap then
    qy σ r p λt m H z=>
     if m.own&&H.isEmpty then jS t (.map k v) z λz=>
      match ix,y with
      | .val t2 i,.val t3 w=>jS t2 k i λi=>jS t3 v w λw=>
       w9 σ r p (.map k v) m (nG k z i w) λσ'=>K { σ' with vr:=(σ.nq r yf).vr,ay:=σ.ay }
      | _,_=>none
     else none
   else none
  | _=>none
 | _=>none
def VN:Option Ty->Bool
 | some (.map _ _)=>true
 | _=>false
def Ls (E:Env) (σ:St) (T:Nat) (x:Slot) (K:Nat->Option R):Option R:=
 qQ E T λT=>
 match T with
 | .map k v=>
  match x with
  | .ref r p snap=>
   if σ.ok r snap then
    qy σ r p λt _ H y=>if H.isEmpty then jS t (.map k v) y λy=>K (List.length y) else none
   else none
  | _=>none
 | _=>none
def sM (E:Env) (iK i:Nat) (o:Oper) (σ:St) (K:St->Option R):Option R:=
 let fz:=X_ E.fz iK i
 let d:=o.dst
 match o.op with
 | .move x=>TE σ x d K
 | .assign x=>Lp E σ o.type x (!fz 0) d K
 | .pick c a b=>JH (eh σ c) λc=>match eh σ (bif c then a else b) with
  | .val .bool x=>K (σ.cq d (.val .bool x))
  | _=>none
 | .alloc t=>qQ E t λt=>if t.w8 then K (σ.cq d (.box t (aj t) [] t.zero)) else none
 | .box t x=>qQ E t λt=>nw σ (eh σ x) (!fz 0) t λm v σ'=>K (N9 σ x d (σ'.cq d (.box t m [] v)))
 | .build t ps=>qQ E t λt=>match t with
  | .arr n e=>if e.w8 then N5 σ e fz ps.toList 0 (Ty.arr n e).zero λv σ=>K (σ.cq d (laid (.arr n e) (aj (.arr n e)) v)) else none
  | .pair t1 t2=>if (Ty.pair t1 t2).w8 then F7 E σ (.pair t1 t2) fz ps.toList 0 (aj (.pair t1 t2)) (Ty.pair t1 t2).zero λm v σ=>K (σ.cq d (laid (.pair t1 t2) m v)) else none
  | _=>none
 | .buildSlice t n ps=>qQ E t λt=>match t with
  | .aa e=>if Nat.beq n ps.size&&e.w8&&Nat.ble (n*e.sz) 16777216 then IU σ e fz ps.toList 0 (aj e) [] λm v σ=>K (σ.cq d (.own (.aa e) (.aa true m) [] v)) else none
  | _=>none
 | .load t a=>JI E σ t a (fz 7) (fz 8) d K
 | .store t a x=>match d with
  | none=>N2 E σ t (eh σ a) (eh σ x) (!fz 1) K
  | some _=>none
 | .nilCheck x=>match eh σ x with
  | .ptr r p snap=>if σ.ok r snap then K (σ.cq d (.ptr r p snap)) else none
  | .cp t v=>K (σ.cq d (.cp t v))
  | .val .fn f=>K (σ.cq d (.val .fn f))
  | _=>none
 | .binOp op t x y _=>N7 E t op (eh σ x) (eh σ y) λt v=>K (σ.cq d (.val t v))
 | .unOp op _ x=>match op,eh σ x with
  | .not,.val .bool b=>K (σ.cq d (.val .bool (!b)))
  | .neg,.val (.int k) n=>K (σ.cq d (.val (.int k) (FJ k (0 - qK k n))))
  | _,_=>none
 | .convert s t x=>Em E σ s t (eh σ x) d K
 | .fieldAddr t x j=>Ek E σ t (eh σ x) j d K
 | .field t x j=>Ln E σ t (eh σ x) j d K
 | .indexAddr t x ix=>El E σ t (eh σ x) (eh σ ix) d K
 | .index t x ix=>N3 E σ t (eh σ x) (eh σ ix) d K
 | .slice t x lo hi none=>N4 E σ t (eh σ x) (lo.map (eh σ)) (hi.map (eh σ)) d K
 | .makeSlice t n c=>qQ E t λt=>match t with
  | .aa e=>xH (eh σ n) λn=>xH (eh σ c) λc=>
   if e.w8 then (if 0<=n/\n<=c/\c<=(ct:Int) then K (σ.cq d (.own (.aa e) (aj (.aa e)) [] (List.replicate n.toNat e.zero))) else none) else none
  | _=>none
 | .extract x j=>match x with
  | .tmp i=>match σ.get i with
   | .sQ xs=>match xs[j]? with
    | some x=>if x.t=.unit then none else K ((σ.put i (.sQ (xs.set j ⟨.unit,.leaf,()⟩))).cq d (laid x.t x.m x.v))
    | none=>none
   | _=>none
  | _=>none
 | .makeFunc (.func f) first cs=>
  if first.size=0 then
   match cs.toList with
   | []=>K (σ.cq d (.val .fn (f,0)))
   | [.tmp i]=>match σ.get i with
    | .box (.int .i64) _ _ n=>K (((σ.put i .dead).put i (.cp (.int .i64) n)).cq d (.val .fn (f,n)))
    | _=>none
   | _=>none
  else none
 | .makeMap t none=>qQ E t λt=>match t with
  | .map k v=>if k.flat&&v.flat then K (σ.cq d (.own (.map k v) (aj (.map k v)) [] [])) else none
  | _=>none
 | .lookup t x ix ok=>Lq E σ t (eh σ x) (eh σ ix) ok d K
 | .mapUpdate t x ix y=>match d with
  | none=>Lr E σ t (eh σ x) (eh σ ix) (eh σ y) K
  | some _=>none
 | .call c=>match c.callee with
  | .builtin .len=>match c.args.toList,c.argTypes.toList with
   | [x],[t]=>match VN (E.TI t) with
    | false=>Ya E σ t (eh σ x) λn=>K (σ.cq d (.val (.int .i64) (n:Int)))
    | true=>Ls E σ t (eh σ x) λn=>K (σ.cq d (.val (.int .i64) (n:Int)))
   | _,_=>none
  | .builtin .append=>match c.args.toList,c.argTypes.toList with
   | [b,x],t::_=>Lo E σ t (eh σ b) x (!fz 1) (fz 2) d K
   | _,_=>none
  | .builtin .copy=>match c.args.toList,c.argTypes.toList with
   | [b,x],t::_=>TC E σ t b (eh σ x) d K
   | _,_=>none
  | .value (.func f)=>match E.G f with
   | some g=>match g.cap with
    | false=>En g σ c.args.toList [] d K
    | true=>none
   | none=>none
  | .value (.tmp i)=>match N_ (σ.get i) with
   | some (f,n)=>match E.G f with
    | some g=>match g.cap with
     | true=>En g σ c.args.toList [.cp (.int .i64) n] d K
     | false=>En g σ c.args.toList [] d K
    | none=>none
   | none=>none
  | _=>none
 | _=>none
def pa (l:List (Nat×List Nat)) (i:Nat):List Nat:=match oD l i with | some x=>x | none=>[]
def F8 (ops:List Oper) (σ:St) (g:Option (Nat×Bool)) (K:Bool->St->Option R):Option R:=
 match g with
 | none=>K true σ
 | some (j,want)=>match (ops[j]?).bind (·.dst) with
  | none=>none
  | some t=>match σ.get t with
   | .val .bool b=>match b with
    | true=>K (want == true) (σ.ml t (.val .bool true))
    | false=>K (want == false) (σ.ml t (.val .bool false))
   | .sQ []=>K false σ
   | _=>none
def Lt (E:Env) (iK:Nat) (ops:List Oper):List Oper->Nat->St->(St->Option R)->Option R
 | [],_,σ,K=>K σ
 | o::rest,i,σ,K=>F8 ops σ o.guard λb σ=>
  match b with
  | true=>sM E iK i o σ λσ=>Lt E iK ops rest (i+1) σ K
  | false=>Lt E iK ops rest (i+1) (σ.cq o.dst (.sQ [])) K
def Oa (σ:St) (o:Oper):Bool:=match o.op with
 | .load _ x=>match eh σ x with
  | .cp _ _=>true
  | _=>false
 | .convert _ _ x=>match eh σ x with
  | .val (.int _) _=>true
  | .val .str _=>true
  | .val (.aa (.int .u8)) _=>true
  | _=>false
 | _=>false
def Ob (E:Env) (iK i:Nat):Bool:=(pa E.ar iK).any (Nat.beq i)
def HK:Op->Bool
 | .store .. | .mapUpdate .. | .call ..=>true
 | _=>false
def yh:Path->Path->Bool
 | [],[]=>true
 | .fst::p,.fst::q=>yh p q
 | .snd::p,.snd::q=>yh p q
 | .idx i::p,.idx j::q=>Nat.beq i j&&yh p q
 | .rO i::p,.rO j::q=>Nat.beq i j&&yh p q
 | _,_=>false
def ZS (σ:St) (r:Nat) (p:Path) (v:Int):Bool:=
 match qy σ r p λt _ _ x=>jS t (.int .i64) x λy=>some (decide ((y:Int)=v)) with
 | some b=>b
 | none=>false
def Yd (σ:St) (o:Oper):Bool:=match o.op,o.dst with
 | .load _ (.tmp i),some d=>match σ.get i with
  | .ptr r p s=>match σ.get d with
   | .ref r' p' s'=>Nat.beq r r'&&(σ.ok r s&&σ.ok r s')&&yh p p'
   | .val (.int .i64) v=>σ.ok r s&&ZS σ r p v
   | _=>false
  | .box ..=>match σ.get d with
   | .ref r' p' s'=>Nat.beq i r'&&σ.ok i s'&&yh [] p'
   | _=>false
  | _=>false
 | _,_=>false
def JK (l:List (Nat×List (Nat×Nat))) (i:Nat):List (Nat×Nat):=match oD l i with | some x=>x | none=>[]
def TF (E:Env) (iK i:Nat):Bool:=(JK E.er iK).any λe=>Nat.beq i e.1
def TG (E:Env) (iK:Nat) (ops:List Oper) (is:List Nat) (σ:St):Bool:=(JK E.er iK).all λe=>is.any (Nat.beq e.1)||!(is.any (Nat.beq e.2)||Nat.ble ops.length e.2)||(match ops[e.1]? with
 | some o=>Yd σ o
 | none=>false)
def JL (E:Env) (iK:Nat) (ops:List Oper) (i:Nat) (o:Oper) (is:List Nat) (σ:St):Bool:=!(HK o.op||TF E iK i)||TG E iK ops is σ
def Se (σ:St):List Nat->(St->Option R)->Option R
 | [],K=>K σ
 | i::is,K=>match σ.get i with
  | .box t m H v=>if H.isEmpty&&fits m (ak t) then Se ((σ.put i .dead).put i (.cp t v)) is K else none
  | _=>none
def Lu (σ:St) (d:Nat):Bool:=Nat.blt d σ.n&&(match σ.get d with
 | .dead=>true
 | _=>false)&&!Ei σ.ay d&&!σ.gh.any λe=>Nat.beq e.1 d
def TH (E:Env) (iK:Nat) (ops:List Oper) (is:List Nat) (σ:St):Bool:=(pa E.pd iK).all λj=>!is.any (Nat.beq j)||(match (ops[j]?).bind (·.dst) with
 | some d=>Lu σ d
 | none=>false)
def VO (ops:List Oper) (σ:St):List Nat->(St->Option R)->Option R
 | [],K=>K σ
 | j::js,K=>match (ops[j]?).bind (·.dst) with
  | some d=>VO ops (σ.put d .dead) js K
  | none=>none
def F9 (E:Env) (iK:Nat) (ops:List Oper):List Nat->St->(St->Option R)->Option R
 | [],σ,K=>K σ
 | i::is,σ,K=>
  match TH E iK ops (i::is) σ with
  | false=>none
  | true=>
  match ops[i]? with
  | none=>none
  | some o=>F8 ops σ o.guard λb σ=>
   match b with
   | true=>match Ob E iK i&&!Oa σ o with
    | true=>none
    | false=>sM E iK i o σ λσ=>match JL E iK ops i o is σ with
     | true=>F9 E iK ops is σ K
     | false=>none
   | false=>F9 E iK ops is (σ.cq o.dst (.sQ [])) K
def tT:Code->Nat
 | .region id _ _=>id
 | .seq a _=>tT a
 | .block _ b=>tT b
 | .loop b=>tT b
 | .scope b=>tT b
 | _=>0
def F_ (live:List Nat) (fr:List (Nat×Md)) (r:Nat):Bool:=live.any (Nat.beq r)&&(match oD fr r with
 | none=>true
 | some _=>false)
def lB (live:List Nat) (fr:List (Nat×Md)) (σ:St) (i:Nat):Slot:=
 match σ.get i with
 | .ptr r p snap=>if σ.ok r snap&&F_ live fr r then .ptr r p (snap.map λ_=>0) else .dead
 | .ref r p snap=>if σ.ok r snap&&F_ live fr r then .ref r p (snap.map λ_=>0) else .dead
 | .sub r p snap lo hi=>if σ.ok r snap&&F_ live fr r then .sub r p (snap.map λ_=>0) lo hi else .dead
 | s=>s
def AI (live:List Nat) (σ:St):St:={ n:=σ.n,sl:=live.map λi=>(i,lB live [] σ i),vr:=[],ay:=σ.ay }
def CR (fr:List (Nat×Md)) (i:Nat) (s:Slot):Slot:=
 match oD fr i with
 | none=>s
 | some m1=>
  match s with
  | .own t m H v=>if H.isEmpty&&fits m m1 then (if m1=ak t then .val t v else .own t m1 [] v) else .dead
  | .box t m H v=>if H.isEmpty&&fits m m1 then .box t m1 [] v else .dead
  | s=>s
def fm (live:List Nat) (fr:List (Nat×Md)) (σ:St):St:={ n:=σ.n,sl:=live.map λi=>(i,CR fr i (lB live fr σ i)),vr:=[],ay:=σ.ay }
def TJ (l:List (Nat×List (Nat×Md))) (i:Nat):List (Nat×Md):=match oD l i with | some x=>x | none=>[]
inductive Ex where
 | normal
 | exit (id:Nat)
def im (rec:St->Option R) (kp:St->St) (K:Ex->St->Option R):Ex->St->Option R
 | .normal,σ=>rec (kp σ)
 | .exit j,σ=>K (.exit j) σ
def aw (B:St->(Ex->St->Option R)->Option R) (K:Ex->St->Option R):Ex->St->Option R
 | .normal,σ=>B σ K
 | .exit j,σ=>K (.exit j) σ
def ah (id:Nat) (K:Ex->St->Option R):Ex->St->Option R
 | .normal,σ=>K .normal σ
 | .exit j,σ=>if Nat.beq j id then K .normal σ else K (.exit j) σ
def HL (F:St->(Ex->St->Option R)->Option R) (kp:St->St) (K:Ex->St->Option R):Nat->St->Option R
 | 0,_=>none
 | k+1,σ=>F σ (im (HL F kp K k) kp K)
def vX (E:Env) (k:Nat) (fin:St->Option R):Code->St->(Ex->St->Option R)->Option R
 | .skip,σ,K=>K .normal σ
 | .region id ops d,σ,K=>match d with
  | false=>Lt E id ops.toList ops.toList 0 σ λσ=>Se σ (pa E.bx id) λσ=>K .normal σ
  | true=>Se σ (pa E.bx id) λσ=>VO ops.toList σ (pa E.pd id) λσ=>F9 E id ops.toList (pa E.od id) σ λσ=>K .normal σ
 | .seq a b,σ,K=>vX E k fin a σ (aw (vX E k fin b) K)
 | .cond c a b,σ,K=>JH (eh σ c) λc=>match c with
  | true=>vX E k fin a σ K
  | false=>vX E k fin b σ K
 | .block id b,σ,K=>vX E k fin b σ (ah id K)
 | .loop b,σ,K=>HL (vX E k fin b) (fm (pa E.lv (tT b)) (TJ E.lf (tT b))) K k (fm (pa E.lv (tT b)) (TJ E.lf (tT b)) σ)
 | .scope b,σ,K=>vX E k fin b σ K
 | .exit id,σ,K=>K (.exit id) (AI (pa E.lx id) σ)
 | .ret,σ,_=>fin σ
 | _,_,_=>none
end
def sub:List Nat->Code->Code
 | [],c=>c
 | i::p,.seq a b=>match i with
  | 0=>sub p a
  | _=>sub p b
 | i::p,.cond _ a b=>match i with
  | 0=>sub p a
  | _=>sub p b
 | _::p,.block _ b=>sub p b
 | _::p,.loop b=>sub p b
 | _::p,.scope b=>sub p b
 | _,c=>c
def am {V R:Type} (B:(V->Option R)->V->Option R):Nat->V->Option R
 | 0,_=>none
 | k+1,v=>B (am B k) v
theorem ap {V R:Type} (F:St->(Ex->St->Option R)->Option R) (kp:St->St) (K:Ex->St->Option R) (σ:V->St) (B:(V->Option R)->V->Option R)
  (h:∀ (rec:St->Option R) (v:V),F (σ v) (im rec kp K)=B (λv'=>rec (σ v')) v):∀ (n:Nat) (v:V),HL F kp K n (σ v)=am B n v:=by
 intro n
 induction n with
 | zero=>intro v;rfl
 | succ n ih=>
  intro v;show F (σ v) (im (HL F kp K n) kp K)=B (am B n) v;simp_all
end
end OT
namespace OT
open Go
noncomputable section
def jg:(ps:List (PM×Ty))->(b_ (ps.map (·.2))).den->List Slot
 | [],_=>[]
 | (.ro,.ptr e)::ps,v=>.cp e v.1::jg ps v.2
 | (.fix f,.fn)::ps,v=>.val .fn (f,v.1.2)::jg ps v.2
 | (.fix _,_)::ps,v=>.dead::jg ps v.2
 | (.ro,t)::ps,v=>.val t v.1::jg ps v.2
 | (.jl m _,t)::ps,v=>.box t m [] v.1::jg ps v.2
 | (.lR m,t)::ps,v=>.own t m [] v.1::jg ps v.2
 | (.pG m,t)::ps,v=>.own t m [] v.1::jg ps v.2
 | (.tj m,t)::ps,v=>.box t m [] v.1::jg ps v.2
def BL:Nat->List Slot->List (Nat×Slot)
 | _,[]=>[]
 | i,s::ss=>(i,s)::BL (i+1) ss
def v7:Nat->List (PM×Ty)->List (Nat×Nat×Bool)
 | _,[]=>[]
 | i,(.jl _ _,_)::ps=>(i,i,false)::v7 (i+1) ps
 | i,(.lR _,_)::ps=>(i,i,true)::v7 (i+1) ps
 | i,(.tj _,_)::ps=>(i,i,false)::v7 (i+1) ps
 | i,_::ps=>v7 (i+1) ps
def DQ (ps:List (PM×Ty)) (v:(b_ (ps.map (·.2))).den) (n:Nat):St:={ n:=n,sl:=BL 0 (jg ps v),vr:=[],ay:=v7 0 ps }
section
variable {R:Type}
def yj (σ:St):Nat->(ps:List (PM×Ty))->List Nat->((b_ (lL ps)).den->Option R)->Option R
 | _,[],_,K=>K ()
 | j,(.ro,_)::ps,es,K=>yj σ (j+1) ps es K
 | j,(.fix _,_)::ps,es,K=>yj σ (j+1) ps es K
 | j,(.tj _,_)::ps,es,K=>yj σ (j+1) ps es K
 | j,(.pG _,_)::ps,es,K=>yj σ (j+1) ps es K
 | j,(.jl _ m,t)::ps,i::es,K=>match σ.get i with
  | .box t' m' H v=>if H.isEmpty&&(decide (m'=m)||fits m' m)&&DP σ.ay i j false then jS t' t v λv=>yj σ (j+1) ps es λvs=>K (v,vs) else none
  | _=>none
 | j,(.lR m,t)::ps,i::es,K=>match σ.get i with
  | .own t' m' H v | .box t' m' H v=>if H.isEmpty&&(decide (m'=m)||fits m' m)&&DP σ.ay i j true then jS t' t v λv=>yj σ (j+1) ps es λvs=>K (v,vs) else none
  | _=>none
 | _,_,_,_=>none
def JM (σ:St):ResultVar->Slot
 | .tmp i=>eh σ (.tmp i)
 | .cell a _=>match σ.get a with
  | .box _ _ _ _=>.ref a [] (σ.lA a)
  | _=>.dead
def TK (σ:St) (ts:List Ty) (mv:Nat->Bool) (fin:St->((b_ ts).den->Option R)->Option R) :
    (rs:List (Ty×Md))->List ResultVar->Nat->((b_ (rs.map (·.1)++ts)).den->Option R)->Option R
 | [],[],_,K=>fin σ K
 | (t,m)::rs,x::xs,j,K=>nw σ (JM σ x) (mv j) t λm' v σ'=>
  if m'=m\/fits m' m=true then TK σ' ts mv fin rs xs (j+1) λvs=>K (v,vs) else none
 | _,_,_,_=>none
end
def Oc (ps:List (PM×Ty)) (rs:List (Ty×Md)) (es:List Nat) (DR:List ResultVar) (mv:Nat->Bool) (σ:St):Option (b_ (rs.map (·.1)++lL ps)).den:=
 TK σ (lL ps) mv (λσ K=>yj σ 0 ps es K) rs DR 0 some
def ZT (fr:List Nat) (j:Nat):Bool:=!(fr.any (Nat.beq j))
def abB {R:Type} (fin:St->Option R):Ex->St->Option R
 | .normal,σ=>fin σ
 | .exit _,_=>none
def Ga (fn:Func):Code:=match fn.body with
 | some c=>c
 | none=>.refuse ""
abbrev PQ:Type:=List (PM×Ty)
abbrev RQ:Type:=List (Ty×Md)
abbrev TL:Type:=List (Nat×Ty)
abbrev GL:Type:=List (Nat×vV)
abbrev KT (R:Type):Type:=Ex->St->Option R
abbrev RT (R:Type):Type:=St->Option R
def NG (E:Env) (k:Nat) (fn:Func) (ps:List (PM×Ty)) (rs:List (Ty×Md)) (es fr:List Nat) (v:(b_ (ps.map (·.2))).den):Option (b_ (rs.map (·.1)++lL ps)).den:=
 vX E k (Oc ps rs es fn.results.toList (ZT fr)) (Ga fn) (DQ ps v fn.ntmps) (abB (Oc ps rs es fn.results.toList (ZT fr)))
def lift {R:Type} (f:Nat->Option R):Option R:=open Classical in if h:∃ out,∃ k,∀ k',k<=k'->f k'=some out then some h.choose else none
theorem ag {R:Type} {f:Nat->Option R} {out:R} {k:Nat} (h:∀ k',k<=k'->f k'=some out):lift f=some out:=by
 have hex:∃ out,∃ k,∀ k',k<=k'->f k'=some out:=⟨out,k,h⟩
 unfold lift;rw[dif_pos hex];obtain ⟨k2,h2⟩:=hex.choose_spec;have e1:=h (max k k2) (Nat.le_max_left _ _);grind
theorem VP {R:Type} {f:Nat->Option R} {out:R} (h:lift f=some out):∃ k,f k=some out:=by
 unfold lift at h;split at h
 ·rename_i hex;obtain ⟨k,hk⟩:=hex.choose_spec;injection h with h;exact ⟨k,by grind⟩
 ·cases h
abbrev i64:Ty:=.int .i64
abbrev u8:Ty:=.int .u8
def af (n:Int):Int:=IntKind.wrap .i64 n
end
end OT
set_option linter.unusedVariables false
set_option linter.unusedSimpArgs false
namespace OT
open Go
abbrev FP:=Nat->Nat->Nat
abbrev Cells:=Nat->Nat->Prop
def isAgg:Ty->Bool
 | .unit | .pair _ _ | .arr _ _=>true
 | _=>false
def dm (t:Ty) (cs:List Value):Value:=if isAgg t then .agg cs.toArray else cs.headD undef
def Eo (vx:List (Value×Value)):Value:=.tuple (vx.map λkv=>Value.tuple #[kv.1,kv.2]).toArray
def entriesOf (es:Array MapEntry):List (Value×Value):=es.toList.map λe=>(e.key,e.val)
def TM (u:Value):Option Value:=if u.oneCell' then some u else none
def ce (w:World) (b i:Nat):Option Value:=match w.heap[b]? with
 | some (.map es _)=>if i=0 then some (Eo (entriesOf es)) else none
 | _=>(w.cell? ⟨b,i,none⟩).bind TM
theorem BM {w w2:World} {b:Nat} (h:w2.heap[b]?=w.heap[b]?) (i:Nat):ce w2 b i=ce w b i:=by grind [ce,World.cell?]
theorem Gb {u v:Value} (h:TM u=some v):v=u/\u.oneCell'=true:=by
 grind [TM]
theorem vK {w:World} {b i:Nat} {u:Value} (h:ce w b i=some u) (hu:u.oneCell'=true):w.cell? ⟨b,i,none⟩=some u:=by
 unfold ce at h;split at h
 ·split at h
  ·injection h with h;subst h;cases hu
  ·cases h
 ·cases hc:w.cell? ⟨b,i,none⟩ with
  | none=>grind
  | some v=>
   rw[hc] at h;have:=Gb h;rw[this.1]
theorem HM {w:World} {b i:Nat} {u:Value} (h:w.cell? ⟨b,i,none⟩=some u) (hu:u.oneCell'=true):ce w b i=some u:=by
 grind [World.cell?,ce,TM]
theorem Ye:∀ {a b:List (Value×Value)},Eo a=Eo b->a=b:=by
 have main:∀ (a b:List (Value×Value)),(a.map λkv=>Value.tuple #[kv.1,kv.2])=(b.map λkv=>Value.tuple #[kv.1,kv.2])->a=b:=by
  intro a
  induction a with
  | nil=>simp_all
  | cons x a ih=>
   intro b h;cases b <;> grind
 grind [Eo]
theorem VQ {w:World} {r:Nat} {vx:List (Value×Value)} (h:ce w r 0=some (Eo vx)):∃ es clock,w.heap[r]?=some (.map es clock)/\entriesOf es=vx:=by
 unfold ce at h;split at h
 ·grind [Ye]
 ·cases hc:w.cell? ⟨r,0,none⟩ with
  | none=>grind
  | some v=>
   rw[hc] at h;have:=Gb h;have h2:=this.2;rw[<-this.1] at h2;cases h2
theorem VR {w:World} {r:Nat} {es:Array MapEntry} {clock:Nat} (h:w.heap[r]?=some (.map es clock)):ce w r 0=some (Eo (entriesOf es)):=by
 grind [ce]
def Has (w:World) (b o:Nat) (L:List Value):Prop:=∀ j u,L[j]?=some u->ce w b (o+j)=some u
def IV:Ty->Bool
 | .int .u8=>true
 | _=>false
def jf (w:World) (b:Nat) (n:Nat×Bool):Prop:=∃ c e fr,w.heap[b]?=some (.cells c e fr)/\c.size=n.1/\(∀ i,i < n.1->¬ (fr.1<=i/\i < fr.2))/\(n.2=false->¬ (fr.1<=n.1/\n.1 < fr.2))
def d8 (b o n:Nat):FP:=λb' i=>if b'=b/\o<=i/\i < o+n then 1 else 0
def bi:Nat->(Nat->FP)->FP
 | 0,_=>λ_ _=>0
 | n+1,f=>λb i=>bi n f b i+f n b i
def gv (f:Nat->FP) (j:Nat) (g:FP):Nat->FP:=λi=>if i=j then g else f i
theorem yk {n:Nat} {f g:Nat->FP} (h:∀ j,j < n->f j=g j):bi n f=bi n g:=by
 induction n with
 | zero=>rfl
 | succ n ih=>
  funext b i;simp only[bi];rw[ih (λj hj=>h j Bys),h n Bys]
theorem uX {n:Nat} (f:Nat->FP) {j:Nat} (hj:j < n) (g:FP) (b i:Nat):bi n (gv f j g) b i+f j b i=bi n f b i+g b i:=by
 induction n with
 | zero=>omega
 | succ n ih=>
  simp only[bi];by_cases h:j=n
  ·subst h;have:bi j (gv f j g)=bi j f:=yk λk hk=>by grind [gv]
   rw[this];simp[gv];omega
  ·have:=ih Bys;have e:gv f j g n=f n:=by grind [gv]
   rw[e];omega
theorem Od {n:Nat} (f:Nat->FP) {j:Nat} (hj:n<=j) (g:FP):bi n (gv f j g)=bi n f:=
 yk λk hk=>by grind [gv]
theorem dy {n:Nat} (f:Nat->FP) {j:Nat} (hj:j < n) (b i:Nat):f j b i<=bi n f b i:=by
 induction n <;> grind [bi]
theorem v_ {n:Nat} (f:Nat->FP) {j k:Nat} (hj:j < n) (hk:k < n) (lU:j≠k) (b i:Nat):f j b i+f k b i<=bi n f b i:=by
 have h1:=uX f hj (λ_ _=>0) b i;have h2:=dy (gv f j λ_ _=>0) hk b i;have e:gv f j (λ_ _=>0) k=f k:=by grind [gv]
 rw[e] at h2;grind
theorem nH (n:Nat) (b i:Nat):bi n (λ_ _ _=>0) b i=0:=by
 induction n <;> grind [bi]
theorem wa (n m:Nat) (f:Nat->FP) (b i:Nat):bi (n+m) f b i=bi n f b i+bi m (λj=>f (n+j)) b i:=by
 induction m <;> grind [bi]
theorem Lv {n:Nat} {f g:Nat->FP} (b i:Nat) (h:∀ j,j < n->f j b i<=g j b i):bi n f b i<=bi n g b i:=by
 induction n <;> grind [bi]
theorem Mq (n:Nat) (f:Nat->FP) (k m:Nat) (h:k+m<=n) (b i:Nat):bi m (λj=>f (k+j)) b i<=bi n f b i:=by
 have e:n=k+(m+(n - k - m)):=by omega
 grind [wa]
theorem Oe {n:Nat} {f:Nat->FP} {b i:Nat} (h:1<=bi n f b i):∃ j,j < n/\1<=f j b i:=by
 induction n <;> grind [bi]
section
variable (P:Program) (w:World) (A:Cells)
def Ro:(t:Ty)->t.den->List Value->Prop
 | .int k,v,cs=>cs=[.int k (qK k v)]
 | .bool,v,cs=>cs=[.bool v]
 | .str,v,cs=>cs=[.string ⟨List.toArray v⟩]
 | .unit,_,cs=>cs=[]
 | .pair a b,v,cs=>Ro a v.1 (cs.take a.sz)/\Ro b v.2 (cs.drop a.sz)
 | .arr n e,v,cs=>e.flat=true/\List.length v=n/\cs.length=n*e.sz/\∀ (i:Nat) (x:e.den),v[i]?=some x->Ro e x ((cs.drop (i*e.sz)).take e.sz)
 | .aa e,v,cs=>∃ a cap,cs=[.slice a (List.length v) cap]/\List.length v<=cap/\(a=none->List.length v=0)/\∀ ad,a=some ad->(0 < cap->ad.spot=none) /\
   ∀ (i:Nat) (x:e.den),v[i]?=some x->∃ L:List Value,L.length=e.sz/\(∀ j u,L[j]?=some u->ce w ad.block (ad.off+i*e.sz+j)=some u/\A ad.block (ad.off+i*e.sz+j))/\Ro e x L
 | .ptr e,v,cs=>∃ ad,cs=[.pointer (some ad)]/\ad.spot=none /\
   ∃ L:List Value,L.length=e.sz/\(∀ j u,L[j]?=some u->ce w ad.block (ad.off+j)=some u/\A ad.block (ad.off+j))/\Ro e v L
 | .fn,v,cs=>∃ AJ,cs=[.func (.func v.1) #[] AJ]/\∃ fn,P.funcs[v.1]?=some fn /\
   ((fn.nfree=0/\AJ=#[])\/(fn.nfree=1/\∃ ad:Addr,AJ=#[.pointer (some ad)]/\ad.spot=none/\ce w ad.block ad.off=some (.int .i64 v.2)/\A ad.block ad.off))
 | .map k v,x,cs=>k.flat=true/\v.flat=true/\∃ (r:Nat) (vx:List (Value×Value)),cs=[.map (some r)]/\ce w r 0=some (Eo vx)/\A r 0/\vx.length=List.length x /\
   ∀ (i:Nat) (y:k.den×v.den),x[i]?=some y->∃ (kc vc:List Value),vx[i]?=some (dm k kc,dm v vc)/\Ro k y.1 kc/\Ro v y.2 vc
def hole (H:List Path):Bool:=H.any (·.isEmpty)
def lc (i:Nat):Path->Option Path
 | .idx j::p=>if i=j then some p else none
 | _=>none
def au:(t:Ty)->Md->List Path->t.den->List Value->FP->Prop
 | .pair a b,m,H,v,cs,F=>hole H=false/\∃ F1 F2:FP,(∀ x i,F1 x i+F2 x i<=F x i) /\
   au a m.l (H.filterMap xg) v.1 (cs.take a.sz) F1/\au b m.r (H.filterMap xh) v.2 (cs.drop a.sz) F2
 | .aa e,m,H,v,cs,F=>
   if hole H then ∃ x:Value,cs=[x]/\x.oneCell'=true
   else if m.own then ∃ a cap,cs=[.slice a (List.length v) cap]/\List.length v<=cap/\cap<=maxLen/\(a=none->cap=0)/\∀ ad,a=some ad->ad.off=0/\ad.spot=none /\
    jf w ad.block (cap*e.sz,IV e)/\∃ Fi:Nat->FP,(∀ x i,d8 ad.block 0 (cap*e.sz) x i+bi (List.length v) Fi x i<=F x i) /\
    ∀ (i:Nat) (x:e.den),v[i]?=some x->∃ L:List Value,L.length=e.sz/\Has w ad.block (i*e.sz) L/\au e m.e (H.filterMap (lc i)) x L (Fi i)
   else H=[]/\m.e.kU=true/\Ro P w A (.aa e) v cs
 | .ptr e,m,H,v,cs,F=>
   if hole H then ∃ x:Value,cs=[x]/\x.oneCell'=true
   else if m.own then ∃ b,cs=[.pointer (some ⟨b,0,none⟩)]/\jf w b (e.sz,false)/\∃ (L:List Value) (F1:FP),L.length=e.sz/\Has w b 0 L /\
    (∀ x i,d8 b 0 e.sz x i+F1 x i<=F x i)/\au e m.e [] v L F1
   else H=[]/\m.e.kU=true/\Ro P w A (.ptr e) v cs
 | .int k,_,_,v,cs,_=>Ro P w A (.int k) v cs
 | .bool,_,_,v,cs,_=>Ro P w A .bool v cs
 | .str,_,_,v,cs,_=>Ro P w A .str v cs
 | .unit,_,_,v,cs,_=>Ro P w A .unit v cs
 | .arr n e,_,H,v,cs,_=>H=[]/\Ro P w A (.arr n e) v cs
 | .fn,_,_,v,cs,_=>Ro P w A .fn v cs
 | .map k v,m,H,x,cs,F=>
   if hole H then ∃ x:Value,cs=[x]/\x.oneCell'=true
   else if m.own then k.flat=true/\v.flat=true/\∃ (r:Nat) (vx:List (Value×Value)),cs=[.map (some r)]/\ce w r 0=some (Eo vx)/\1<=F r 0/\vx.length=List.length x /\
    ∀ (i:Nat) (y:k.den×v.den),x[i]?=some y->∃ (kc vc:List Value),vx[i]?=some (dm k kc,dm v vc)/\Ro P w A k y.1 kc/\Ro P w A v y.2 vc
   else H=[]/\m.e.kU=true/\Ro P w A (.map k v) x cs
end
theorem Ro.length {P:Program} {w:World} {A:Cells}:∀ (t:Ty) {v:t.den} {cs:List Value},Ro P w A t v cs->cs.length=t.sz:=by
 intro t
 induction t <;> grind [Ty.sz,Ro]
theorem au.length {P:Program} {w:World} {A:Cells}:∀ (t:Ty) {m:Md} {H:List Path} {v:t.den} {cs:List Value} {F:FP},au P w A t m H v cs F->cs.length=t.sz:=by
 intro t
 induction t <;> grind [Ty.sz,au,Ro.length]
structure Agr (w w':World) (S:Nat->Nat->Prop):Prop where
 cell:∀ b i,S b i->∀ u,ce w b i=some u->ce w' b i=some u
 xT:∀ b n,jf w b n->jf w' b n
theorem Ro.mono {P:Program} {w w':World} {A A':Cells} (hc:∀ b i,A b i->∀ u,ce w b i=some u->ce w' b i=some u) (hA:∀ b i,A b i->A' b i) :
  ∀ (t:Ty) {v:t.den} {cs:List Value},Ro P w A t v cs->Ro P w' A' t v cs:=by
 intro t
 induction t with
 | pair a b nz nr=>intro v cs h;exact ⟨nz h.1,nr h.2⟩
 | arr n e ih=>intro v cs h;exact ⟨h.1,h.2.1,h.2.2.1,λi x hx=>ih (h.2.2.2 i x hx)⟩
 | aa e ih=>
  rintro v cs ⟨a,cap,h1,h2,h3,h4⟩;refine ⟨a,cap,h1,h2,h3,λad lN=>⟨(h4 ad lN).1,λi x hx=>?_⟩⟩
  grind
 | ptr e ih=>
  rintro v cs ⟨ad,h1,h2,L,hl,hL,hr⟩;exact ⟨ad,h1,h2,L,hl,λj u hu=>⟨hc _ _ (hL j u hu).2 u (hL j u hu).1,hA _ _ (hL j u hu).2⟩,ih hr⟩
 | fn=>
  rintro v cs ⟨AJ,h1,fn,h2,h3⟩;refine ⟨AJ,h1,fn,h2,?_⟩
  grind
 | map k v ihk ihv=>
  rintro x cs ⟨h1,h2,r,vx,h3,h4,h5,h6,h7⟩;refine ⟨h1,h2,r,vx,h3,hc _ _ h5 _ h4,hA _ _ h5,h6,λi y hy=>?_⟩
  grind
 | _=>intro v cs h;exact h
theorem au.mono {P:Program} {w w':World} {A A':Cells} (hA:∀ b i,A b i->A' b i) (hc:∀ b i,A b i->∀ u,ce w b i=some u->ce w' b i=some u) (hb:∀ b n,jf w b n->jf w' b n) :
  ∀ (t:Ty) {m:Md} {H:List Path} {v:t.den} {cs:List Value} {F F':FP},au P w A t m H v cs F->(∀ b i,F b i<=F' b i)->(∀ b i,1<=F b i->∀ u,ce w b i=some u->ce w' b i=some u)->au P w' A' t m H v cs F':=by
 intro t
 induction t with
 | pair a b nz nr=>
  intro m H v cs F F' h hF BN;obtain ⟨h0,F1,F2,hs,h1,h2⟩:=h
  exact ⟨h0,F1,F2,λx i=>bH (hs x i) (hF x i),nz h1 (λ_ _=>aI _) (λb i hp=>BN b i (by grind)),
   nr h2 (λ_ _=>aI _) (λb i hp=>BN b i (by grind))⟩
 | aa e ih=>
  intro m H v cs F F' h hF BN;simp only[au] at h ⊢;split at h
  ·grind
  ·rename_i hh;rw[aV hh];split at h
   ·rename_i hm;rw[aM hm];obtain ⟨a,cap,h1,h2,h3,h4,h5⟩:=h;refine ⟨a,cap,h1,h2,h3,h4,λad lN=>?_⟩
    obtain ⟨g1,g2,g3,Fi,g4,g5⟩:=h5 ad lN;refine ⟨g1,g2,hb _ _ g3,Fi,λx i=>bH (g4 x i) (hF x i),λi x hx=>?_⟩
    obtain ⟨L,hl,hL,hr⟩:=g5 i x hx;have hi:i < List.length v:=(aP.1 hx).1;refine ⟨L,hl,λj u hu=>BN _ _ ?_ u (hL j u hu),ih hr (λ_ _=>aI _) (λb k hp=>BN b k ?_)⟩
    ·have:=g4 ad.block (i*e.sz+j);have hj:j < e.sz:=hl ▸ (aP.1 hu).1
     have:i*e.sz+j < cap*e.sz:=by
      have h1:(i+1)*e.sz<=cap*e.sz:=aZ _ Bys;grind
     grind [d8]
    grind [dy]
   grind [Ro.mono]
 | ptr e ih=>
  intro m H v cs F F' h hF BN;simp only[au] at h ⊢;split at h
  ·grind
  ·rename_i hh;rw[aV hh];split at h
   ·rename_i hm;rw[aM hm];obtain ⟨b,h1,h2,L,F1,h3,h4,h5,h6⟩:=h;refine ⟨b,h1,hb _ _ h2,L,F1,h3,λj u hu=>BN _ _ ?_ u (h4 j u hu),λx i=>bH (h5 x i) (hF x i),ih h6 (λ_ _=>aI _) (λb' k hp=>BN b' k ?_)⟩
    all_goals grind [d8]
   grind [Ro.mono]
 | arr n e ih=>intro m H v cs F F' h hF BN;exact ⟨h.1,Ro.mono hc hA _ h.2⟩
 | map k v ihk ihv=>
  grind [au,Ro.mono]
 | _=>intro m H v cs F F' h hF BN;exact Ro.mono hc hA _ h
theorem au.le {P:Program} {w:World} {A:Cells} {t:Ty} {m:Md} {H:List Path} {v:t.den} {cs:List Value} {F F':FP} (h:au P w A t m H v cs F) (hF:∀ b i,F b i<=F' b i):au P w A t m H v cs F':=
 au.mono (λ_ _ h=>h) (λ_ _ _ _ h=>h) (λ_ _ h=>h) t h hF (λ_ _ _ _ h=>h)
theorem au.ym {P:Program} {w:World} {A A':Cells} (hA:∀ b i,A b i->A' b i) :
  ∀ (t:Ty) {m:Md} {v:t.den} {cs:List Value} {F:FP},au P w A t m [] v cs F->(∀ b i,1<=F b i->A' b i)->Ro P w A' t v cs:=by
 intro t
 induction t with
 | pair a b nz nr=>
  intro m v cs F h hF;obtain ⟨h0,F1,F2,hs,h1,h2⟩:=h;exact ⟨nz h1 (λb i hp=>hF b i (by grind)),nr h2 (λb i hp=>hF b i (by grind))⟩
 | aa e ih=>
  intro m v cs F h hF;simp only[au,hole,bP,aF,aS] at h;split at h
  ·obtain ⟨a,cap,h1,h2,h3,h4,h5⟩:=h;refine ⟨a,cap,h1,h2,λhn=>by grind,λad lN=>?_⟩
   obtain ⟨g1,g2,g3,Fi,g4,g5⟩:=h5 ad lN;refine ⟨λ_=>g2,λi x hx=>?_⟩
   obtain ⟨L,hl,hL,hr⟩:=g5 i x hx;have hi:i < List.length v:=(aP.1 hx).1;refine ⟨L,hl,λj u hu=>?_,ih hr λb k hp=>hF b k ?_⟩
   ·rw[g1,bQ];refine ⟨hL j u hu,hF _ _ ?_⟩
    have:=g4 ad.block (i*e.sz+j);have hj:j < e.sz:=hl ▸ (aP.1 hu).1
    have:i*e.sz+j < cap*e.sz:=by
     have h1:(i+1)*e.sz<=cap*e.sz:=aZ _ Bys;grind
    grind [d8]
   grind [dy]
  grind [Ro.mono]
 | ptr e ih=>
  intro m v cs F h hF;simp only[au,hole,bP,aF,aS] at h;split at h
  ·obtain ⟨b,h1,h2,L,F1,h3,h4,h5,h6⟩:=h;refine ⟨_,h1,rfl,L,h3,λj u hu=>⟨h4 j u hu,hF _ _ ?_⟩,ih h6 λb' k hp=>hF _ _ ?_⟩
   all_goals grind [d8]
  grind [Ro.mono]
 | arr n e ih=>intro m v cs F h hF;exact Ro.mono (λ_ _ _ _ h=>h) hA _ h.2
 | map k v ihk ihv=>
  intro m x cs F h hF;simp only[au,hole,bP,aF,aS] at h;split at h
  ·obtain ⟨h1,h2,r,vx,h3,h4,h5,h6,h7⟩:=h;refine ⟨h1,h2,r,vx,h3,h4,hF _ _ h5,h6,λi y hy=>?_⟩
   grind [Ro.mono]
  grind [Ro.mono]
 | _=>intro m v cs F h hF;exact Ro.mono (λ_ _ _ _ h=>h) hA _ h
end OT
set_option linter.unusedVariables false
set_option linter.unusedSimpArgs false
namespace OT
open Go
theorem Sf {m:Md} (h:m.kU=true):m.l.kU=true:=by cases m <;> simp_all [Md.kU,Md.l]
theorem Sg {m:Md} (h:m.kU=true):m.r.kU=true:=by cases m <;> simp_all [Md.kU,Md.r]
theorem Lw {m:Md} (h:m.kU=true):m.e.kU=true:=by cases m <;> simp_all [Md.kU,Md.e]
theorem xU {m:Md} (h:m.kU=true):m.own=false:=by cases m <;> simp_all [Md.kU,Md.own]
theorem iP (t:Ty):(ak t).kU=true:=by
 induction t <;> simp_all [ak,vS,Md.kU]
theorem abC {m m1:Md} (h:fits m m1=true):fits m.l m1.l=true:=by cases m <;> cases m1 <;> simp_all [fits,Md.l]
theorem abD {m m1:Md} (h:fits m m1=true):fits m.r m1.r=true:=by cases m <;> cases m1 <;> simp_all [fits,Md.r]
theorem VS {m m1:Md} (h:fits m m1=true):fits m.e m1.e=true:=by cases m <;> cases m1 <;> simp_all [fits,Md.e]
theorem IW {m m1:Md} (h:fits m m1=true):m1.own=true->m.own=true:=by
 intro h1;cases m <;> cases m1 <;> simp_all [fits,Md.own]
theorem Lx {m m1:Md} (h:fits m m1=true) (h1:m1.own=false):m1.e.kU=true\/∃ e,m1=.arr e:=by
 cases m <;> cases m1 <;> simp_all [fits,Md.own,Md.e,Md.kU]
theorem Ep:∀ {m m1:Md},fits m m1=true->m.kU=true->m1.kU=true:=by
 intro m
 induction m with
 | leaf=>grind [fits]
 | pair a b nz nr=>
  intro m1 h hn;cases m1 <;> grind [fits,Md.kU]
 | arr e ih=>
  intro m1 h hn;cases m1 <;> grind [fits,Md.kU]
 | aa o e ih=>
  intro m1 h hn;cases m1 <;> grind [fits,Md.kU]
 | ptr o e ih=>
  intro m1 h hn;cases m1 <;> grind [fits,Md.kU]
section
variable {P:Program} {w:World} {A:Cells}
theorem Ro.rep:∀ (t:Ty) {m:Md} {v:t.den} {cs:List Value} (F:FP),m.kU=true->Ro P w A t v cs->au P w A t m [] v cs F:=by
 intro t
 induction t with
 | pair a b nz nr=>
  intro m v cs F hm h;exact ⟨rfl,λ_ _=>0,λ_ _=>0,λ_ _=>aW _,nz _ (Sf hm) h.1,nr _ (Sg hm) h.2⟩
 | aa e ih=>grind [au,hole,xU,Lw]
 | ptr e ih=>grind [au,hole,xU,Lw]
 | arr n e ih=>intro m v cs F hm h;exact ⟨rfl,h⟩
 | map k v=>grind [au,hole,xU,Lw]
 | _=>intro m v cs F hm h;exact h
theorem au.ro:∀ (t:Ty) {m:Md} {v:t.den} {cs:List Value} {F:FP},m.kU=true->au P w A t m [] v cs F->Ro P w A t v cs:=by
 intro t
 induction t with
 | pair a b nz nr=>
  intro m v cs F hm h;obtain ⟨_,F1,F2,_,h1,h2⟩:=h;exact ⟨nz (Sf hm) h1,nr (Sg hm) h2⟩
 | aa e ih=>grind [au,hole,xU]
 | ptr e ih=>grind [au,hole,xU]
 | arr n e ih=>intro m v cs F hm h;exact h.2
 | map k v=>grind [au,hole,xU]
 | _=>intro m v cs F hm h;exact h
theorem Ro.flat:∀ (t:Ty) {m:Md} {v:t.den} {cs:List Value} (F:FP),t.flat=true->Ro P w A t v cs->au P w A t m [] v cs F:=by
 intro t
 induction t with
 | pair a b nz nr=>
  intro m v cs F hm h;simp only[Ty.flat,aD] at hm;exact ⟨rfl,λ_ _=>0,λ_ _=>0,λ_ _=>aW _,nz _ hm.1 h.1,nr _ hm.2 h.2⟩
 | aa e ih=>grind [Ty.flat]
 | ptr e ih=>grind [Ty.flat]
 | arr n e ih=>intro m v cs F hm h;exact ⟨rfl,h⟩
 | map k v=>grind [Ty.flat]
 | _=>intro m v cs F hm h;exact h
theorem au.flat:∀ (t:Ty) {m:Md} {H:List Path} {v:t.den} {cs:List Value} {F:FP},t.flat=true->au P w A t m H v cs F->Ro P w A t v cs:=by
 intro t
 induction t with
 | pair a b nz nr=>
  intro m H v cs F hm h;simp only[Ty.flat,aD] at hm;obtain ⟨_,F1,F2,_,h1,h2⟩:=h;exact ⟨nz hm.1 h1,nr hm.2 h2⟩
 | aa e ih=>grind [Ty.flat]
 | ptr e ih=>grind [Ty.flat]
 | arr n e ih=>intro m H v cs F hm h;exact h.2
 | map k v=>grind [Ty.flat]
 | _=>intro m H v cs F hm h;exact h
theorem au.fits:∀ (t:Ty) {m m1:Md} {v:t.den} {cs:List Value} {F:FP},fits m m1=true->au P w A t m [] v cs F->(∀ b i,F b i<=1) ->
  ∃ F1:FP,(∀ b i,F1 b i<=F b i)/\∀ A':Cells,(∀ b i,A b i->A' b i)->(∀ b i,1<=F b i->F1 b i=0->A' b i)->au P w A' t m1 [] v cs F1:=by
 intro t
 induction t with
 | pair a b nz nr=>
  intro m m1 v cs F hf h hF;obtain ⟨_,Fa,Fb,hs,h1,h2⟩:=h;obtain ⟨G1,hG1,k1⟩:=nz (abC hf) h1 (λb i=>by grind);obtain ⟨G2,hG2,k2⟩:=nr (abD hf) h2 (λb i=>by grind);refine ⟨λb i=>G1 b i+G2 b i,λb i=>by grind,λA' hA oh=>⟨rfl,G1,G2,λ_ _=>aI _,k1 A' hA λb i hp hz=>?_,k2 A' hA λb i hp hz=>?_⟩⟩
  ·have:=hs b i;have:=hF b i;have:=hG2 b i
   exact oh b i Bys (by grind)
  ·have:=hs b i;have:=hF b i;have:=hG1 b i
   exact oh b i Bys (by grind)
 | aa e ih=>
  intro m m1 v cs F hf h hF;by_cases DS:m1.own=true
  ·have hm:=IW hf DS;simp only[au,hole,bP,aF,aS,hm,aH] at h;obtain ⟨a,cap,h1,h2,h3,h4,h5⟩:=h
   cases a with
   | none=>
    refine ⟨λ_ _=>0,λ_ _=>aW _,λA' hA oh=>?_⟩
    grind [au,hole]
   | some ad=>
    obtain ⟨g1,g2,g3,Fi,g4,g5⟩:=h5 ad rfl
    have each:∀ i,∃ Gi:FP,(∀ b k,Gi b k<=Fi i b k)/\∀ A':Cells,(∀ b i,A b i->A' b i)->(∀ b k,1<=Fi i b k->Gi b k=0->A' b k) ->
      ∀ x,v[i]?=some x->∃ L:List Value,L.length=e.sz/\Has w ad.block (i*e.sz) L/\au P w A' e m1.e (([]:List Path).filterMap (lc i)) x L Gi:=by
     intro i
     cases hx:(v:List e.den)[i]? with
     | none=>exact ⟨λ_ _=>0,λ_ _=>aW _,λA' _ _ x VT=>by cases VT⟩
     | some x=>
      obtain ⟨L,hl,hL,hr⟩:=g5 i x hx;have hi:i < List.length v:=(aP.1 hx).1;obtain ⟨G,hG,k⟩:=ih (VS hf) hr (λb k=>by have:=dy Fi hi b k;grind);exact ⟨G,hG,λA' hA oh x' VT=>by injection VT with VT;subst VT;exact ⟨L,hl,hL,k A' hA oh⟩⟩
    have ⟨Gi,hGi⟩:=fN each;refine ⟨λb k=>d8 ad.block 0 (cap*e.sz) b k+bi (List.length v) Gi b k,λb k=>?_,λA' hA oh=>?_⟩
    ·have:=g4 b k;have:=Lv b k (f:=Gi) (g:=Fi) (n:=List.length v) λj _=>(hGi j).1 b k
     grind
    ·simp only[au,hole,bP,aF,aS,DS,aH];refine ⟨some ad,cap,h1,h2,h3,h4,λdr TN=>?_⟩
     injection TN with TN;subst TN;refine ⟨g1,g2,g3,Gi,λ_ _=>aI _,λi x hx=>(hGi i).2 A' hA (λb k hp hz=>?_) x hx⟩
     have hi:i < List.length v:=(aP.1 hx).1;have h1:=g4 b k;have h2:=hF b k;have h3:=dy Fi hi b k
     refine oh b k Bys ?_;show d8 ad.block 0 (cap*e.sz) b k+bi (List.length v) Gi b k=0
     have:bi (List.length v) Gi b k=0:=by
      rcases bI (bi (List.length v) Gi b k) with h0 | h0
      ·exact h0
      ·obtain ⟨j,hj,hp'⟩:=Oe h0;have:=(hGi j).1 b k;by_cases pc:j=i
       all_goals grind [v_]
     omega
  ·have Of:m1.own=false:=by simpa using DS
   have rP:m1.e.kU=true:=by
    rcases Lx hf Of with h | ⟨e',rfl⟩
    ·exact h
    ·cases m <;> simp[OT.fits] at hf;simp only[au,hole,bP,aF,aS,Md.own] at h;exact Ep hf h.2.1
   refine ⟨λ_ _=>0,λ_ _=>aW _,λA' hA oh=>?_⟩
   grind [au.ym,au]
 | ptr e ih=>
  intro m m1 v cs F hf h hF;by_cases DS:m1.own=true
  ·have hm:=IW hf DS;simp only[au,hole,bP,aF,aS,hm,aH] at h;obtain ⟨b,h1,h2,L,F1,h3,h4,h5,h6⟩:=h;obtain ⟨G,hG,k⟩:=ih (VS hf) h6 (λb' i=>by grind);refine ⟨λb' k=>d8 b 0 e.sz b' k+G b' k,λb' k=>by grind,λA' hA oh=>?_⟩
   simp only[au,hole,bP,aF,aS,DS,aH];refine ⟨b,h1,h2,L,G,h3,h4,λ_ _=>aI _,k A' hA λb' i hp hz=>oh b' i ?_ ?_⟩
   all_goals grind
  ·have Of:m1.own=false:=by simpa using DS
   have rP:m1.e.kU=true:=by
    rcases Lx hf Of with h | ⟨e',rfl⟩
    ·exact h
    ·cases m <;> simp[OT.fits] at hf;simp only[au,hole,bP,aF,aS,Md.own] at h;exact Ep hf h.2.1
   refine ⟨λ_ _=>0,λ_ _=>aW _,λA' hA oh=>?_⟩
   grind [au.ym,au]
 | arr n e ih=>intro m m1 v cs F hf h hF;exact ⟨λ_ _=>0,λ_ _=>aW _,λA' hA oh=>⟨rfl,Ro.mono (λ_ _ _ _ h=>h) hA _ h.2⟩⟩
 | map k v ihk ihv=>
  intro m m1 x cs F hf h hF;by_cases DS:m1.own=true
  ·have hm:=IW hf DS;simp only[au,hole,bP,aF,aS,hm,aH] at h;obtain ⟨h1,h2,r,vx,h3,h4,h5,h6,h7⟩:=h;refine ⟨F,λ_ _=>aI _,λA' hA oh=>?_⟩
   grind [au,hole,Ro.mono]
  ·have Of:m1.own=false:=by simpa using DS
   have rP:m1.e.kU=true:=by
    rcases Lx hf Of with h | ⟨e',rfl⟩
    ·exact h
    ·cases m <;> simp[OT.fits] at hf;simp only[au,hole,bP,aF,aS,Md.own] at h;exact Ep hf h.2.1
   refine ⟨λ_ _=>0,λ_ _=>aW _,λA' hA oh=>?_⟩
   grind [au.ym,au]
 | _=>intro m m1 v cs F hf h hF;exact ⟨λ_ _=>0,λ_ _=>aW _,λA' hA oh=>Ro.mono (λ_ _ _ _ h=>h) hA _ h⟩
end
end OT
set_option linter.unusedVariables false
set_option linter.unusedSimpArgs false
namespace OT
open Go
def rd (w:World) (b o n:Nat):List Value:=(List.range n).map λj=>(ce w b (o+j)).getD undef
theorem Ai (w:World) (b o n:Nat):(rd w b o n).length=n:=by simp[rd]
theorem fy {w:World} {b o:Nat} {L:List Value} {n:Nat} (h:Has w b o L) (hn:L.length=n):rd w b o n=L:=by
 subst hn;apply eB;intro j;unfold rd;rw[eL];by_cases hj:j < L.length
 ·rw[gE hj];have:=h j L[j] (aB hj);grind
 grind
structure Pl where
 t:Ty
 H:List Path
 cs:List Value
 ad:Option (Nat×Nat)
def iQ (ad:Option (Nat×Nat)) (k:Nat):Option (Nat×Nat):=ad.map λx=>(x.1,x.2+k)
def cb (w:World):Path->Ty->List Path->List Value->Option (Nat×Nat)->Option Pl
 | [],t,H,cs,ad=>some ⟨t,H,cs,ad⟩
 | .fst::p,.pair a _,H,cs,ad=>if hole H then none else cb w p a (H.filterMap xg) (cs.take a.sz) ad
 | .snd::p,.pair a b,H,cs,ad=>if hole H then none else cb w p b (H.filterMap xh) (cs.drop a.sz) (iQ ad a.sz)
 | .idx i::p,.aa e,H,cs,_=>if hole H then none else match cs with
  | [.slice (some a) n _]=>if i < n then cb w p e (H.filterMap (lc i)) (rd w a.block (a.off+i*e.sz) e.sz) (some (a.block,a.off+i*e.sz)) else none
  | _=>none
 | .rO i::p,.arr n e,H,cs,ad=>if H.isEmpty then (if i < n then cb w p e [] ((cs.drop (i*e.sz)).take e.sz) (iQ ad (i*e.sz)) else none) else none
 | _,_,_,_,_=>none
def yn:Ty->Bool
 | .aa _ | .map _ _=>true
 | _=>false
def sW (d:Nat) (full:Prop) (w:World) (t:Ty) (H:List Path) (cs:List Value) (ad:Option (Nat×Nat)) (w2:World) (H2:List Path) (d9:List Value):Prop:=
 ∀ q pl,ej q<=d->cb w q t H cs ad=some pl->∃ H' co,cb w2 q t H2 d9 ad=some ⟨pl.t,H',co,pl.ad⟩/\((ej q < d/\yn pl.t=true)\/full->co=pl.cs)
theorem Gc {R:Type} {H:List Path} {i:Nat} {K:List Path->Option R} {r:R} (h:zu H i K=some r) :
  K (H.filterMap (lc i))=some r/\(∀ j,j≠i->H.filterMap (lc j)=[])/\hole H=false:=by
 unfold zu at h;split at h
 ·exact ⟨h,λ_ _=>rfl,rfl⟩
 ·rename_i j q;split at h
  ·rename_i sw;subst sw;refine ⟨by simpa [lc] using h,λj hj=>by simp[lc,hj],rfl⟩
  ·cases h
 ·cases h
theorem Er {R S:Type} {H:List Path} {i:Nat} {K:List Path->Option R} {r:R} (h:zu H i K=some r) (K2:List Path->Option S) :
  zu H i K2=K2 (H.filterMap (lc i)):=by
 unfold zu at h ⊢;grind [lc]
theorem vy (H:List Path):(H.map (.fst::·)).filterMap xg=H:=by
 induction H <;> simp_all [xg]
theorem vz (H:List Path):(H.map (.snd::·)).filterMap xh=H:=by
 induction H <;> simp_all [xh]
theorem wb (H:List Path):(H.map (.snd::·)).filterMap xg=[]:=by
 simp_all [xg]
theorem wc (H:List Path):(H.map (.fst::·)).filterMap xh=[]:=by
 simp_all [xh]
theorem FL (i:Nat) (H:List Path):(H.map (.idx i::·)).filterMap (lc i)=H:=by
 induction H <;> simp_all [lc]
theorem BO {i j:Nat} (h:j≠i) (H:List Path):(H.map (.idx i::·)).filterMap (lc j)=[]:=by
 simp_all [lc]
theorem sx (s:Step) (H:List Path):hole (H.map (s::·))=false:=by
 grind [hole]
theorem tU (H1 H2:List Path):hole (H1++H2)=(hole H1||hole H2):=by simp[hole]
theorem acI {w:World}:∀ (q:Path) (t:Ty) {H H2:List Path} {cs:List Value} {ad:Option (Nat×Nat)} {pl Mr:Pl},cb w q t H cs ad=some pl->cb w q t H2 cs ad=some Mr->Mr.t=pl.t/\Mr.cs=pl.cs/\Mr.ad=pl.ad:=by
 intro q
 induction q with
 | nil=>grind [cb]
 | cons s q ih=>
  intro t H H2 cs ad pl Mr h h2
  cases t with
  | pair a b=>
   cases s <;> grind [cb]
  | aa e=>
   cases s with
   | idx i=>
    simp only[cb] at h h2;grind
   | _=>simp[cb] at h
  | arr n e=>
   cases s <;> grind [cb]
  | _=>grind [cb]
section
variable {P:Program}
theorem xV {w w2:World} {A:Cells} (hA:∀ b i,A b i->∀ u,ce w b i=some u->ce w2 b i=some u) :
  ∀ (q:Path) (t:Ty) {m:Md} {H:List Path} {v:t.den} {cs:List Value} {F:FP} {ad:Option (Nat×Nat)} {pl:Pl},au P w A t m H v cs F->(∀ b i,1<=F b i->∀ u,ce w b i=some u->ce w2 b i=some u) ->
  cb w q t H cs ad=some pl->cb w2 q t H cs ad=some pl:=by
 intro q
 induction q with
 | nil=>intro t m H v cs F ad pl _ _ h;exact h
 | cons s q ih=>
  intro t m H v cs F ad pl hr hF h
  cases t with
  | pair a b=>
   obtain ⟨h0,F1,F2,hs,h1,h2⟩:=hr;cases s <;> grind [cb]
  | aa e=>
   cases s with
   | fst=>simp[cb] at h
   | snd=>simp[cb] at h
   | rO i=>simp[cb] at h
   | idx i=>
    simp only[au] at hr;simp only[cb] at h ⊢;split at h
    ·cases h
    ·rename_i hh;rw[aV hh];rw[aV hh] at hr;split at hr
     ·obtain ⟨a,cap,rfl,h2,h3,h4,h5⟩:=hr
      cases a with
      | none=>cases h
      | some iy=>
       obtain ⟨g1,g2,g3,Fi,g4,g5⟩:=h5 iy rfl;simp only at h ⊢;split at h
       ·rename_i hi;rw[aM hi];obtain ⟨L,hl,hL,ja⟩:=g5 i _ (aB hi);have a8:(i+1)*e.sz<=cap*e.sz:=aZ _ Bys;rw[cU] at a8
        have hL2:Has w2 iy.block (i*e.sz) L:=λj u hu=>by
         have hj:j < e.sz:=hl ▸ (aP.1 hu).1;refine hF _ _ ?_ u (hL j u hu);grind [d8]
        rw[g1,bQ,fy hL hl] at h;grind [fy,dy]
       ·cases h
     ·obtain ⟨rfl,rP,a,cap,rfl,h2,h3,h4⟩:=hr
      cases a with
      | none=>cases h
      | some iy=>
       simp only at h ⊢;split at h
       ·rename_i hi;rw[aM hi];obtain ⟨L,hl,hL,ja⟩:=(h4 iy rfl).2 i _ (aB hi);rw[fy (λj u hu=>(hL j u hu).1) hl] at h;rw[fy (λj u hu=>hA _ _ (hL j u hu).2 u (hL j u hu).1) hl];exact ih e (Ro.rep e (λ_ _=>0) rP ja) (λb k hp=>by simp at hp) h
       ·cases h
  | arr n e=>
   cases s with
   | fst=>simp[cb] at h
   | snd=>simp[cb] at h
   | idx i=>simp[cb] at h
   | rO i=>
    obtain ⟨rfl,hf,hl,hlen,hr⟩:=hr;simp only[cb,cJ,aH] at h ⊢;split at h
    ·rename_i hi;rw[aM hi];exact ih e (Ro.flat e (m:=.leaf) (λ_ _=>0) hf (hr i _ (aB (by grind)))) (λb k hp=>by simp at hp) h
    ·cases h
  | _=>grind [cb]
theorem VU {w:World} {A:Cells} {S:Nat->Nat->Prop} (hA:∀ b i,A b i->S b i) :
  ∀ (q:Path) (t:Ty) {m:Md} {H:List Path} {v:t.den} {cs:List Value} {F:FP} {ad:Option (Nat×Nat)} {pl:Pl},au P w A t m H v cs F->(∀ b i,1<=F b i->S b i) ->
  (∀ b o,ad=some (b,o)->∀ j,j < t.sz->S b (o+j))->cb w q t H cs ad=some pl->∀ b o,pl.ad=some (b,o)->∀ j,j < pl.t.sz->S b (o+j):=by
 intro q
 induction q with
 | nil=>grind [cb]
 | cons s q ih=>
  intro t m H v cs F ad pl hr hF lN h
  cases t with
  | pair a b=>
   obtain ⟨h0,F1,F2,hs,h1,h2⟩:=hr
   cases s with
   | fst=>grind [cb,Ty.sz]
   | snd=>
    simp only[cb,h0,aS] at h;refine ih b h2 (λb i hp=>hF b i (by grind)) (λb' o e j hj=>?_) h
    cases ad with
    | none=>cases e
    | some y=>
     simp only[iQ,bN,aQ,bJ] at e;obtain ⟨rfl,rfl⟩:=e;grind [Ty.sz]
   | idx i=>simp[cb] at h
   | rO i=>simp[cb] at h
  | aa e=>
   cases s with
   | fst=>simp[cb] at h
   | snd=>simp[cb] at h
   | rO i=>simp[cb] at h
   | idx i=>
    simp only[au] at hr;simp only[cb] at h;split at h
    ·cases h
    ·rename_i hh;rw[aV hh] at hr;split at hr
     ·obtain ⟨a,cap,rfl,h2,h3,h4,h5⟩:=hr
      cases a with
      | none=>cases h
      | some iy=>
       obtain ⟨g1,g2,g3,Fi,g4,g5⟩:=h5 iy rfl;simp only at h;split at h
       ·rename_i hi;obtain ⟨L,hl,hL,ja⟩:=g5 i _ (aB hi);have a8:(i+1)*e.sz<=cap*e.sz:=aZ _ Bys;rw[cU] at a8;rw[g1,bQ,fy hL hl] at h;grind [dy,d8]
       ·cases h
     ·obtain ⟨rfl,rP,a,cap,rfl,h2,h3,h4⟩:=hr
      cases a with
      | none=>cases h
      | some iy=>
       simp only at h;split at h
       ·rename_i hi;obtain ⟨L,hl,hL,ja⟩:=(h4 iy rfl).2 i _ (aB hi);rw[fy (λj u hu=>(hL j u hu).1) hl] at h;refine ih e (Ro.rep e (λ_ _=>0) rP ja) (λb k hp=>by simp at hp) (λb' o e' j hj=>?_) h;simp only[aQ,bJ] at e';obtain ⟨rfl,rfl⟩:=e';exact hA _ _ (hL j _ (aB Bys)).2
       ·cases h
  | arr n e=>
   cases s with
   | fst=>simp[cb] at h
   | snd=>simp[cb] at h
   | idx i=>simp[cb] at h
   | rO i=>
    obtain ⟨rfl,hf,hl,hlen,hr⟩:=hr;simp only[cb,cJ,aH] at h;split at h
    ·rename_i hi;refine ih e (Ro.flat e (m:=.leaf) (λ_ _=>0) hf (hr i _ (aB (by grind)))) (λb k hp=>by simp at hp) (λb' o e' j hj=>?_) h
     cases ad with
     | none=>cases e'
     | some y=>
      simp only[iQ,bN,aQ,bJ] at e';obtain ⟨rfl,rfl⟩:=e';have a8:(i+1)*e.sz<=n*e.sz:=aZ _ hi;rw[cU] at a8;have:=lN y.1 y.2 rfl (i*e.sz+j) (by grind [Ty.sz])
      rwa [cM]
    ·cases h
  | _=>grind [cb]
theorem Sh {w:World} {A:Cells} :
  ∀ (q:Path) (t:Ty) {m:Md} {H:List Path} {v:t.den} {cs:List Value} {F:FP} {ad:Option (Nat×Nat)} {pl:Pl},au P w A t m H v cs F ->
  (∀ b o,ad=some (b,o)->Has w b o cs)->cb w q t H cs ad=some pl->(∀ b o,pl.ad=some (b,o)->Has w b o pl.cs)/\∃ (m':Md) (v':pl.t.den) (F':FP),au P w A pl.t m' pl.H v' pl.cs F':=by
 intro q
 induction q with
 | nil=>grind [cb]
 | cons s q ih=>
  intro t m H v cs F ad pl hr lN h
  cases t with
  | pair a b=>
   obtain ⟨h0,F1,F2,hs,h1,h2⟩:=hr
   cases s with
   | fst=>
    simp only[cb,h0,aS] at h;exact ih a h1 (λb' o e j u hu=>lN b' o e j u (by grind)) h
   | snd=>
    simp only[cb,h0,aS] at h;refine ih b h2 (λb' o e j u hu=>?_) h
    cases ad with
    | none=>cases e
    | some y=>
     simp only[iQ,bN,aQ,bJ] at e;obtain ⟨rfl,rfl⟩:=e;rw[bM] at hu;have:=lN y.1 y.2 rfl (a.sz+j) u hu
     rwa [cM]
   | idx i=>simp[cb] at h
   | rO i=>simp[cb] at h
  | aa e=>
   cases s with
   | fst=>simp[cb] at h
   | snd=>simp[cb] at h
   | rO i=>simp[cb] at h
   | idx i=>
    simp only[au] at hr;simp only[cb] at h;split at h
    ·cases h
    ·rename_i hh;rw[aV hh] at hr;split at hr
     ·obtain ⟨a,cap,rfl,h2,h3,h4,h5⟩:=hr
      cases a with
      | none=>cases h
      | some iy=>
       obtain ⟨g1,g2,g3,Fi,g4,g5⟩:=h5 iy rfl;simp only at h;split at h
       ·rename_i hi;obtain ⟨L,hl,hL,ja⟩:=g5 i _ (aB hi);grind [fy]
       ·cases h
     ·obtain ⟨rfl,rP,a,cap,rfl,h2,h3,h4⟩:=hr
      cases a with
      | none=>cases h
      | some iy=>
       simp only at h;split at h
       ·rename_i hi;obtain ⟨L,hl,hL,ja⟩:=(h4 iy rfl).2 i _ (aB hi);rw[fy (λj u hu=>(hL j u hu).1) hl] at h;refine ih e (Ro.rep e (λ_ _=>0) rP ja) (λb' o e'=>?_) h;simp only[aQ,bJ] at e';obtain ⟨rfl,rfl⟩:=e';exact λj u hu=>(hL j u hu).1
       ·cases h
  | arr n e=>
   cases s with
   | fst=>simp[cb] at h
   | snd=>simp[cb] at h
   | idx i=>simp[cb] at h
   | rO i=>
    obtain ⟨rfl,hf,hl,hlen,hr⟩:=hr;simp only[cb,cJ,aH] at h;split at h
    ·rename_i hi;refine ih e (Ro.flat e (m:=.leaf) (λ_ _=>0) hf (hr i _ (aB (by grind)))) (λb' o e' j u hu=>?_) h
     cases ad with
     | none=>cases e'
     | some y=>
      simp only[iQ,bN,aQ,bJ] at e';obtain ⟨rfl,rfl⟩:=e';rw[bT] at hu;split at hu
      ·rw[bM] at hu;have:=lN y.1 y.2 rfl (i*e.sz+j) u hu
       rwa [cM]
      ·cases hu
    ·cases h
  | _=>grind [cb]
theorem CS {w w2:World} {A A2:Cells} :
  ∀ (q:Path) (t:Ty) {m m2:Md} {H H2:List Path} {v v2:t.den} {cs d9:List Value} {F F2:FP} {ad:Option (Nat×Nat)} {pl:Pl},
  au P w2 A2 t m2 H2 v2 d9 F2->(ej q=0\/t.flat=true) ->
  cb w q t H cs ad=some pl->∃ H' co,cb w2 q t H2 d9 ad=some ⟨pl.t,H',co,pl.ad⟩/\(t.flat=true->yn pl.t=false):=by
 intro q
 induction q with
 | nil=>
  intro t m m2 H H2 v v2 cs d9 F F2 ad pl hr hq h;simp only[cb,aQ] at h;subst h;exact ⟨_,_,rfl,λhf=>by cases t <;> simp_all [Ty.flat,yn]⟩
 | cons s q ih=>
  intro t m m2 H H2 v v2 cs d9 F F2 ad pl hr hq h
  cases t with
  | pair a b=>
   obtain ⟨h0,F1,F2,hs,h1,h2⟩:=hr;simp only[Ty.flat,aD] at hq ⊢
   cases s with
   | fst=>
    simp only[cb,h0,aS] at h ⊢;split at h
    ·cases h
    ·obtain ⟨H',co,h3,h4⟩:=ih a (v:=v.1) (m:=.leaf) (F:=F) h1 (hq.imp (λh=>by simpa [ej] using h) (·.1)) h;grind
   | snd=>
    simp only[cb,h0,aS] at h ⊢;split at h
    ·cases h
    ·obtain ⟨H',co,h3,h4⟩:=ih b (v:=v.2) (m:=.leaf) (F:=F) h2 (hq.imp (λh=>by simpa [ej] using h) (·.2)) h;grind
   | idx i=>simp[cb] at h
   | rO i=>simp[cb] at h
  | aa e=>
   cases s <;> grind [cb,ej,Ty.flat]
  | arr n e=>
   cases s with
   | fst=>simp[cb] at h
   | snd=>simp[cb] at h
   | idx i=>simp[cb] at h
   | rO i=>
    obtain ⟨rfl,hf,hl,hlen,hr⟩:=hr;simp only[cb,cJ,aH] at h ⊢;split at h
    ·split at h
     ·rename_i hi;rw[aM hi];obtain ⟨H',co,h3,h4⟩:=ih e (v:=e.zero) (m:=.leaf) (F:=F) (Ro.flat e (m:=.leaf) (λ_ _=>0) hf (hr i _ (aB (by grind)))) (.inr hf) h;grind
     ·cases h
    ·cases h
  | _=>grind [cb]
theorem sW.zero {w w2:World} {A A2:Cells} {t:Ty} {m2:Md} {H H2:List Path} {v2:t.den} {cs d9:List Value} {F2:FP} (ad:Option (Nat×Nat)) (h:au P w2 A2 t m2 H2 v2 d9 F2):sW 0 False w t H cs ad w2 H2 d9:=by
 intro q pl hq hp;obtain ⟨H',co,h1,_⟩:=CS (A:=A) (m:=m2) (v:=v2) (F:=F2) q t h (.inl Bys) hp;grind
theorem sW.flat {w w2:World} {A A2:Cells} {t:Ty} {m2:Md} {H H2:List Path} {v2:t.den} {cs d9:List Value} {F2:FP} (ad:Option (Nat×Nat)) (h:au P w2 A2 t m2 H2 v2 d9 F2) (hf:t.flat=true) (d:Nat):sW d False w t H cs ad w2 H2 d9:=by
 intro q pl hq hp;obtain ⟨H',co,h1,h2⟩:=CS (A:=A) (m:=m2) (v:=v2) (F:=F2) q t h (.inr hf) hp;grind
theorem sW.same {w w2:World} {A:Cells} {t:Ty} {m:Md} {H:List Path} {v:t.den} {cs:List Value} {F:FP} (ad:Option (Nat×Nat)) (h:au P w A t m H v cs F)
  (hA:∀ b i,A b i->∀ u,ce w b i=some u->ce w2 b i=some u) (hF:∀ b i,1<=F b i->∀ u,ce w b i=some u->ce w2 b i=some u) (d:Nat) (full:Prop):sW d full w t H cs ad w2 H cs:=by
 intro q pl hq hp;exact ⟨pl.H,pl.cs,xV hA q t h hF hp,λ_=>rfl⟩
end
end OT
set_option linter.unusedVariables false
set_option linter.unusedSimpArgs false
namespace OT
open Go
def BP (cs:List Value) (off:Nat) (n:Nat) (c2:List Value):List Value:=cs.take off++c2++cs.drop (off+n)
def lS (loc:Option Nat) (cs:List Value) (n:Nat) (c2:List Value):List Value:=match loc with
 | some off=>BP cs off n c2
 | none=>cs
theorem wG {cs c2:List Value} {off n:Nat} (h:off+n<=cs.length) (h2:c2.length=n):(BP cs off n c2).length=cs.length:=by
 simp[BP];omega
theorem BQ {cs:List Value} {off n:Nat} (h:off+n<=cs.length):BP cs off n ((cs.drop off).take n)=cs:=by
 unfold BP;rw[bK]
 have:(cs.drop off).take n++cs.drop (off+n)=cs.drop off:=by
  rw[<-dE];exact cP n (cs.drop off)
 rw[this];exact cP off cs
theorem DT {cs c2:List Value} {off n:Nat} (h:off+n<=cs.length) (h2:c2.length=n) (j:Nat):(BP cs off n c2)[j]?=if off<=j/\j < off+n then c2[j - off]? else cs[j]?:=by
 unfold BP;rw[List.getElem?_append,List.getElem?_append];simp only[cB,dQ];have h1:min off cs.length=off:=by omega
 rw[h1,h2];split
 ·split
  ·rw[aV Bys,bT,aM Bys]
  ·rw[aM Bys]
 ·rw[aV Bys,bM];congr 1;omega
theorem aax {cs c2:List Value} {k n' off n:Nat} (h:off+n<=n') (h':k+n'<=cs.length) (h2:c2.length=n) :
  BP cs k n' (BP ((cs.drop k).take n') off n c2)=BP cs (k+off) n c2:=by
 have hl:((cs.drop k).take n').length=n':=by simp;omega
 apply eB;intro j;rw[DT h' (by rw[wG Bys h2,hl]),DT Bys h2,DT Bys h2];by_cases h3:k<=j/\j < k+n'
 ·rw[aM h3];by_cases h4:off<=j - k/\j - k < off+n
  ·rw[aM h4,aM Bys];congr 1;omega
  ·rw[aV h4,aV Bys,bT,aM Bys,bM];congr 1;omega
 ·rw[aV h3,aV Bys]
theorem Si {w2:World} {b o:Nat} {cs c2:List Value} {off n:Nat} (h:off+n<=cs.length) (h2:c2.length=n)
  (hc:Has w2 b (o+off) c2) (hk:∀ j u,cs[j]?=some u->¬ (off<=j/\j < off+n)->ce w2 b (o+j)=some u):Has w2 b o (BP cs off n c2):=by
 intro j u hu;rw[DT h h2] at hu;split at hu
 ·have:=hc _ u hu;rw[show o+off+(j - off)=o+j by omega] at this;exact this
 ·exact hk j u hu (by assumption)
section
variable {P:Program} {R:Type}
theorem abE {w:World} {A:Cells} {r:R}:∀ (p:Path) (t:Ty) {m:Md} {H:List Path} {v:t.den} {cs:List Value} {F:FP} {ad:Option (Nat×Nat)} {K:(t':Ty)->Md->List Path->t'.den->Option R},
  o3 p t m H v K=some r->au P w A t m H v cs F->(∀ b o,ad=some (b,o)->Has w b o cs) ->
  ∃ (t':Ty) (m':Md) (H':List Path) (v':t'.den) (co:List Value) (dr:Option (Nat×Nat)) (F':FP),K t' m' H' v'=some r/\(∀ {S:Type} (K0:(t:Ty)->Md->List Path->t.den->Option S),o3 p t m H v K0=K0 t' m' H' v')/\cb w p t H cs ad=some ⟨t',H',co,dr⟩/\au P w A t' m' H' v' co F' /\
   (∀ b i,F' b i<=F b i)/\(∀ b o,dr=some (b,o)->Has w b o co)/\(ad.isSome=true->dr.isSome=true):=by
 intro p
 induction p with
 | nil=>intro t m H v cs F ad K h hr lN;exact ⟨t,m,H,v,cs,ad,F,h,λ_=>rfl,rfl,hr,λ_ _=>aI _,lN,λh=>h⟩
 | cons s p ih=>
  intro t m H v cs F ad K h hr lN
  cases t with
  | pair a b=>
   obtain ⟨h0,F1,F2,hs,h1,h2⟩:=hr;have hle:=au.length a h1;have Og:=au.length b h2;simp only[dQ,bX] at hle Og
   cases s with
   | fst=>
    have Ib:H.any (·.isEmpty)=false:=h0;simp only[o3,Ib] at h
    obtain ⟨t',m',H',v',co,dr,F',k1,kn,k2,k3,k4,k5,k6⟩:=ih a h h1 (ad:=ad) (λb o hb j u hu=>by
     rw[bT] at hu;split at hu;exact lN b o hb j u hu;cases hu)
    exact ⟨t',m',H',v',co,dr,F',k1,λK0=>by simp only[o3,Ib];exact kn K0,by simp only[cb,h0];exact k2,k3,λb i=>by have:=hs b i;have:=k4 b i;omega,k5,k6⟩
   | snd=>
    have Ib:H.any (·.isEmpty)=false:=h0;simp only[o3,Ib] at h
    obtain ⟨t',m',H',v',co,dr,F',k1,kn,k2,k3,k4,k5,k6⟩:=ih b h h2 (ad:=iQ ad a.sz) (λb' o hb j u hu=>by
     cases ad with
     | none=>cases hb
     | some x=>
      simp only[iQ,bN,aQ,bJ] at hb;obtain ⟨rfl,rfl⟩:=hb;rw[bM] at hu;have:=lN x.1 x.2 rfl _ u hu
      rwa [cM])
    exact ⟨t',m',H',v',co,dr,F',k1,λK0=>by simp only[o3,Ib];exact kn K0,by simp only[cb,h0];exact k2,k3,λb i=>by have:=hs b i;have:=k4 b i;omega,k5,λh=>k6 (by cases ad <;> simp_all [iQ])⟩
   | idx i=>simp[o3] at h
   | rO i=>simp[o3] at h
  | aa e=>
   cases s with
   | fst=>simp[o3] at h
   | snd=>simp[o3] at h
   | rO i=>simp[o3] at h
   | idx i=>
    simp only[o3] at h;obtain ⟨h1,h2,h3⟩:=Gc h
    cases hx:(v:List e.den)[i]? with
    | none=>rw[hx] at h1;cases h1
    | some x=>
     rw[hx] at h1;simp only[aA] at h1;have hi:i < List.length v:=(aP.1 hx).1;simp only[au,h3,aF,aS] at hr;split at hr
     ·obtain ⟨a,cap,rfl,g2,g3,g4,g5⟩:=hr
      cases a with
      | none=>have:=g4 rfl;omega
      | some iy=>
       obtain ⟨q1,q2,q3,Fi,q4,q5⟩:=g5 iy rfl;obtain ⟨L,hl,hL,ja⟩:=q5 i x hx
       obtain ⟨t',m',H',v',co,dr,F',k1,kn,k2,k3,k4,k5,k6⟩:=ih e h1 ja (ad:=some (iy.block,i*e.sz)) (λb o hb=>by
        simp only[aQ,bJ] at hb;obtain ⟨rfl,rfl⟩:=hb;exact hL)
       refine ⟨t',m',H',v',co,dr,F',k1,λK0=>by simp only[o3];rw[Er h,hx];exact kn K0,?_,k3,λb k=>?_,k5,λ_=>k6 rfl⟩
       ·simp only[cb,h3,aF,aS,hi,aH,q1,bQ,fy hL hl];exact k2
       ·have:=k4 b k;have:=q4 b k;have:=dy Fi hi b k;omega
     ·obtain ⟨rfl,rP,a,cap,rfl,g2,g3,g4⟩:=hr
      cases a with
      | none=>have:=g3 rfl;omega
      | some iy=>
       obtain ⟨L,hl,hL,ja⟩:=(g4 iy rfl).2 i x hx;have ZU:Has w iy.block (iy.off+i*e.sz) L:=λj u hu=>(hL j u hu).1
       obtain ⟨t',m',H',v',co,dr,F',k1,kn,k2,k3,k4,k5,k6⟩:=ih e h1 (Ro.rep e (λ_ _=>0) rP ja) (ad:=some (iy.block,iy.off+i*e.sz)) (λb o hb=>by
        simp only[aQ,bJ] at hb;obtain ⟨rfl,rfl⟩:=hb;exact ZU)
       refine ⟨t',m',H',v',co,dr,F',k1,λK0=>by simp only[o3];rw[Er h,hx];exact kn K0,?_,k3,λb k=>?_,k5,λ_=>k6 rfl⟩
       ·simp only[cb,h3,aF,aS,hi,aH,fy ZU hl];exact k2
       ·have:=k4 b k;omega
  | arr n e=>
   cases s with
   | fst=>simp[o3] at h
   | snd=>simp[o3] at h
   | idx i=>simp[o3] at h
   | rO i=>
    obtain ⟨rfl,hf,hl,hlen,hr⟩:=hr;simp only[o3,cJ,aH] at h
    cases hx:(v:List e.den)[i]? with
    | none=>rw[hx] at h;cases h
    | some x=>
     rw[hx] at h;simp only[aA] at h;have hi:i < n:=hl ▸ (aP.1 hx).1
     obtain ⟨t',m',H',v',co,dr,F',k1,kn,k2,k3,k4,k5,k6⟩:=ih e h (Ro.flat e (λ_ _=>0) hf (hr i x hx)) (ad:=iQ ad (i*e.sz)) (λb' o hb j u hu=>by
      cases ad with
      | none=>cases hb
      | some y=>
       simp only[iQ,bN,aQ,bJ] at hb;obtain ⟨rfl,rfl⟩:=hb;rw[bT] at hu;split at hu
       ·rw[bM] at hu;have:=lN y.1 y.2 rfl _ u hu
        rwa [cM]
       ·cases hu)
     exact ⟨t',m',H',v',co,dr,F',k1,λK0=>by simp only[o3,cJ,aH,hx,aA];exact kn K0,by simp only[cb,cJ,aH,hi];exact k2,k3,λb k=>by have:=k4 b k;omega,k5,λh=>k6 (by cases ad <;> simp_all [iQ])⟩
  | _=>cases s <;> simp[o3] at h
structure acJ (P:Program) (w:World) (A:Cells) {R:Type} (r:R) (p:Path) (t:Ty) (m:Md) (H:List Path) (v:t.den) (cs:List Value) (F:FP) (ad:Option (Nat×Nat))
  (f:(t':Ty)->Md->List Path->t'.den->(Md->List Path->t'.den->Option R)->Option R) (K:Md->List Path->t.den->Option R)
  (t':Ty) (m':Md) (H':List Path) (v':t'.den) (co:List Value) (dr:Option (Nat×Nat)) (F' G:FP) (kk:Md->List Path->t'.den->Option R) (loc:Option Nat):Prop where
 run:f t' m' H' v' kk=some r
 VV:∀ {S:Type} (K0:(t':Ty)->Md->List Path->t'.den->Option S),o3 p t m H v K0=K0 t' m' H' v'
 place:cb w p t H cs ad=some ⟨t',H',co,dr⟩
 rep:au P w A t' m' H' v' co F'
 sum:∀ b i,F' b i+G b i<=F b i
 has:∀ b o,dr=some (b,o)->Has w b o co
 vA:∀ off,loc=some off->off+t'.sz<=t.sz/\co=(cs.drop off).take t'.sz/\dr=iQ ad off
 TO:1<=ej p->loc=none
 out:loc=none->∃ b o,dr=some (b,o)/\∀ j,j < t'.sz->1<=G b (o+j)/\w.frozen? ⟨b,o+j,none⟩=false
 back:∀ m2 H2 (v2:t'.den),kk m2 H2 v2=some r->∀ (w2:World) (A2:Cells) (d9:List Value) (F2:FP),
  (∀ b n,jf w b n->jf w2 b n)->(∀ b i,A b i->A2 b i)->(∀ b i,A b i->∀ u,ce w b i=some u->ce w2 b i=some u) ->
  (∀ b i,1<=G b i->(∀ o,dr=some (b,o)->¬ (o<=i/\i < o+t'.sz))->∀ u,ce w b i=some u->ce w2 b i=some u) ->
  (∀ b o,dr=some (b,o)->Has w2 b o d9)->au P w2 A2 t' m2 H2 v2 d9 F2->(∀ b i,F2 b i+G b i<=1) ->
  ∃ m3 H3 v3 F3,K m3 H3 v3=some r/\(∀ b i,F3 b i<=F2 b i+G b i) /\
   (∀ A3:Cells,(∀ b i,A2 b i->A3 b i)->(∀ b i,1<=F2 b i+G b i->F3 b i=0->A3 b i)->au P w2 A3 t m3 H3 v3 (lS loc cs t'.sz d9) F3) /\
   (∀ d full,sW d full w t' H' co dr w2 H2 d9->sW (d+ej p) full w t H cs ad w2 H3 (lS loc cs t'.sz d9))
theorem jf.frozen {w:World} {b:Nat} {n:Nat×Bool} (h:jf w b n) {i:Nat} (hi:i < n.1):w.frozen? ⟨b,i,none⟩=false:=by
 obtain ⟨c,e,fr,h1,h2,h3,_⟩:=h;obtain ⟨lo,sR⟩:=fr;have:=h3 i hi;simp only[World.frozen?,h1];simp only[Bool.and_eq_false_iff,decide_eq_false_iff_not];simp only at this;omega
theorem abF {w:World} {A:Cells} {r:R}:∀ (p:Path) (t:Ty) {m:Md} {H:List Path} {v:t.den} {cs:List Value} {F:FP} {ad:Option (Nat×Nat)}
  {f:(t':Ty)->Md->List Path->t'.den->(Md->List Path->t'.den->Option R)->Option R} {K:Md->List Path->t.den->Option R},
  sv p t m H v f K=some r->au P w A t m H v cs F->(∀ b i,F b i<=1)->(∀ b o,ad=some (b,o)->Has w b o cs)->(∀ b o,ad=some (b,o)->∀ j,j < t.sz->F b (o+j)=0) ->
  ∃ t' m' H' v' co dr F' G kk loc,acJ P w A r p t m H v cs F ad f K t' m' H' v' co dr F' G kk loc:=by
 intro p
 induction p with
 | nil=>
  intro t m H v cs F ad f K h hr hF lN zx;have hlen:=au.length t hr;refine ⟨t,m,H,v,cs,ad,F,λ_ _=>0,K,some 0,h,λ_=>rfl,rfl,hr,λ_ _=>by simp,lN,?_,(λh=>by simp[ej] at h),(λh=>by cases h),?_⟩
  ·intro off ho;injection ho with ho;subst ho;refine ⟨by omega,?_,?_⟩
   ·rw[dM,<- hlen,dW]
   ·cases ad <;> simp[iQ]
  ·intro m2 H2 v2 hk w2 A2 d9 F2 hb hA uA hG Es wd hs;have zp:=au.length t wd
   have adD:lS (some 0) cs t.sz d9=d9:=by
    simp[lS,BP,List.drop_eq_nil_of_le (show cs.length<=t.sz by omega)]
   rw[adD];refine ⟨m2,H2,v2,F2,hk,λ_ _=>by simp,λA3 sy _=>au.mono sy (λ_ _ _ _ h=>h) (λ_ _ h=>h) t wd (λ_ _=>aI _) (λ_ _ _ _ h=>h),λd full hd=>hd⟩
 | cons s p ih=>
  intro t m H v cs F ad f K h hr hF lN zx
  cases t with
  | pair a b=>
   obtain ⟨h0,F1,F2,hs,h1,h2⟩:=hr;have hle:=au.length a h1;have Og:=au.length b h2;simp only[dQ,bX] at hle Og;have Ib:H.any (·.isEmpty)=false:=h0
   have acK:∀ b o,ad=some (b,o)->Has w b o (cs.take a.sz):=λb o hb j u hu=>by
    rw[bT] at hu;split at hu;exact lN b o hb j u hu;cases hu
   have acL:∀ b' o,iQ ad a.sz=some (b',o)->Has w b' o (cs.drop a.sz):=λb' o hb j u hu=>by
    cases ad with
    | none=>cases hb
    | some x=>
     simp only[iQ,bN,aQ,bJ] at hb;obtain ⟨rfl,rfl⟩:=hb;rw[bM] at hu;have:=lN x.1 x.2 rfl _ u hu
     rwa [cM]
   cases s with
   | fst=>
    simp only[sv,Ib] at h
    obtain ⟨t',m',H',v',co,dr,F',G,kk,loc,M⟩:=ih a h h1 (λb i=>by have:=hs b i;have:=hF b i;omega) acK (λb' o hb j hj=>by
     have:=zx b' o hb j (by simp only[Ty.sz];omega);have:=hs b' (o+j);omega)
    refine ⟨t',m',H',v',co,dr,F',λb i=>G b i+F2 b i,kk,loc,M.run,λK0=>by simp only[o3,Ib];exact M.VV K0,by simp only[cb,h0];exact M.place,M.rep,λb i=>by have:=hs b i;have:=M.sum b i;omega,M.has,?_,(λh=>M.TO (by simpa [ej] using h)),?_,?_⟩
    ·intro off ho;obtain ⟨q1,q2,q3⟩:=M.vA off ho;refine ⟨by simp only[Ty.sz];omega,?_,q3⟩
     rw[q2,eQ,eR];congr 1;omega
    ·intro ho;obtain ⟨b',o,q1,q2⟩:=M.out ho;exact ⟨b',o,q1,λj hj=>⟨by have:=(q2 j hj).1;omega,(q2 j hj).2⟩⟩
    ·intro m2 H2 v2 hk w2 A2 d9 Ms hb hA uA hG Es wd qR;obtain ⟨m3,H3,v3,F3,k1,k2,k3,k4⟩:=M.back m2 H2 v2 hk w2 A2 d9 Ms hb hA uA (λb' i hp hn=>hG b' i Bys hn) Es wd (λb' i=>by have:=qR b' i;omega);have zp:=au.length t' wd
     have sS:lS loc cs t'.sz d9=lS loc (cs.take a.sz) t'.sz d9++cs.drop a.sz:=by
      cases loc with
      | none=>simp[lS]
      | some off=>
       have:=(M.vA off rfl).1;simp only[lS,BP];rw[eR,show min off a.sz=off by omega,bK,bK,bK];congr 2;rw[eQ];have e:cs.drop a.sz=(cs.drop (off+t'.sz)).drop (a.sz - (off+t'.sz)):=by rw[dE];congr 1;omega
       rw[e,cP]
     have xW:(lS loc (cs.take a.sz) t'.sz d9).length=a.sz:=by
      cases loc with
      | none=>simp[lS];omega
      | some off=>have:=(M.vA off rfl).1;simp only[lS];rw[wG (by simp;omega) zp];simp;omega
     have A9:∀ d full,sW d full w t' H' co dr w2 H2 d9->full->lS loc cs t'.sz d9=cs:=λd full hd yo=>by
      obtain ⟨H5,c5,e1,e2⟩:=hd [] ⟨t',H',co,dr⟩ (aW _) rfl;simp only[cb,aQ,Pl.mk.injEq] at e1;have e3:d9=co:=e1.2.2.1.trans (e2 (.inr yo))
      cases loc with
      | none=>rfl
      | some off=>
       have:=M.vA off rfl;rw[e3,this.2.1,eQ,eR,show min t'.sz (a.sz - off)=t'.sz by omega];exact BQ Bys
     have rm:(lS loc cs t'.sz d9).take a.sz=lS loc (cs.take a.sz) t'.sz d9:=by rw[sS];exact gX xW
     have JN:(lS loc cs t'.sz d9).drop a.sz=cs.drop a.sz:=by rw[sS];exact gY xW
     have Mt:∀ b' i,1<=F2 b' i->∀ u,ce w b' i=some u->ce w2 b' i=some u:=λb' i hp u hu=>by
      refine hG b' i Bys (λo mU BR=>?_) u hu;have hsb:=hs b' i;have hFb:=hF b' i
      cases loc with
      | none=>
       obtain ⟨b0,o0,q1,q2⟩:=M.out rfl;rw[q1] at mU;simp only[aQ,bJ] at mU;obtain ⟨rfl,rfl⟩:=mU;have:=(q2 (i - o0) Bys).1;rw[show o0+(i - o0)=i by omega] at this;have:=M.sum b0 i;omega
      | some off=>
       obtain ⟨q1,q2,q3⟩:=M.vA off rfl
       cases ad with
       | none=>rw[q3] at mU;cases mU
       | some x=>
        rw[q3] at mU;simp only[iQ,bN,aQ,bJ] at mU;obtain ⟨rfl,rfl⟩:=mU;have:=zx x.1 x.2 rfl (i - x.2) (by simp only[Ty.sz];omega);rw[show x.2+(i - x.2)=i by omega] at this;omega
     refine ⟨_,_,_,λb' i=>F3 b' i+F2 b' i,k1,λb' i=>by have:=k2 b' i;show F3 b' i+F2 b' i<=_;omega,λA3 sy oh=>?_,λd full hd=>?_⟩
     ·refine ⟨by rw[tU,sx,sx];rfl,F3,F2,λ_ _=>aI _,?_,?_⟩
      ·rw[rm,cL,vy,wb,cY];refine k3 A3 sy λb' i hp hz=>oh b' i Bys ?_;have:=qR b' i;show F3 b' i+F2 b' i=0;omega
      ·rw[JN,cL,wc,vz,cG];exact au.mono (λb' i ha=>sy b' i (hA b' i ha)) uA hb b h2 (λ_ _=>aI _) Mt
     ·intro q pl hq hp
      cases q with
      | nil=>
       simp only[cb,aQ] at hp;subst hp;refine ⟨_,_,rfl,λh=>?_⟩
       rcases h with ⟨_,hs⟩ | yo
       ·simp[yn] at hs
       ·exact A9 d full hd yo
      | cons s q=>
       cases s with
       | fst=>
        simp only[cb,h0,aF,aS] at hp;obtain ⟨H4,ZV,e1,e2⟩:=k4 d full hd q pl (by simpa [ej] using hq) hp;refine ⟨H4,ZV,?_,λuB=>e2 (by simpa [ej] using uB)⟩
        simp only[cb,tU,sx,gG,aF,aS];rw[rm,cL,vy,wb,cY];exact e1
       | snd=>
        simp only[cb,h0,aF,aS] at hp;refine ⟨pl.H,pl.cs,?_,λ_=>rfl⟩
        simp only[cb,tU,sx,gG,aF,aS];rw[JN,cL,wc,vz,cG];exact xV uA q b h2 Mt hp
       | idx i=>simp[cb] at hp
       | rO i=>simp[cb] at hp
   | snd=>
    simp only[sv,Ib] at h
    obtain ⟨t',m',H',v',co,dr,F',G,kk,loc,M⟩:=ih b h h2 (λb i=>by have:=hs b i;have:=hF b i;omega) acL (λb' o hb j hj=>by
     cases ad with
     | none=>cases hb
     | some x=>
      simp only[iQ,bN,aQ,bJ] at hb;obtain ⟨rfl,rfl⟩:=hb;have:=zx x.1 x.2 rfl (a.sz+j) (by simp only[Ty.sz];omega);have:=hs x.1 (x.2+(a.sz+j))
      rw[cM];omega)
    refine ⟨t',m',H',v',co,dr,F',λb i=>G b i+F1 b i,kk,loc.map (a.sz+·),M.run,λK0=>by simp only[o3,Ib];exact M.VV K0,by simp only[cb,h0];exact M.place,M.rep,λb i=>by have:=hs b i;have:=M.sum b i;omega,M.has,?_,(λh=>by rw[M.TO (by simpa [ej] using h)];rfl),?_,?_⟩
    ·intro abG ho;obtain ⟨off,VW,rfl⟩:=Option.map_eq_some_iff.1 ho;obtain ⟨q1,q2,q3⟩:=M.vA off VW;refine ⟨by simp only[Ty.sz];omega,by rw[q2,dE],?_⟩
     rw[q3];cases ad <;> simp[iQ,cM]
    ·intro ho;obtain ⟨b',o,q1,q2⟩:=M.out (by simpa using ho);exact ⟨b',o,q1,λj hj=>⟨by have:=(q2 j hj).1;omega,(q2 j hj).2⟩⟩
    ·intro m2 H2 v2 hk w2 A2 d9 Ms hb hA uA hG Es wd qR;obtain ⟨m3,H3,v3,F3,k1,k2,k3,k4⟩:=M.back m2 H2 v2 hk w2 A2 d9 Ms hb hA uA (λb' i hp hn=>hG b' i Bys hn) Es wd (λb' i=>by have:=qR b' i;omega);have zp:=au.length t' wd
     have sS:lS (loc.map (a.sz+·)) cs t'.sz d9=cs.take a.sz++lS loc (cs.drop a.sz) t'.sz d9:=by
      cases loc with
      | none=>simp[lS]
      | some off=>
       have:=(M.vA off rfl).1;simp only[lS,BP,bN];rw[List.take_add,dE,bK,bK,bK,cM]
     have xW:(cs.take a.sz).length=a.sz:=by simp;omega
     have A9:∀ d full,sW d full w t' H' co dr w2 H2 d9->full->lS (loc.map (a.sz+·)) cs t'.sz d9=cs:=λd full hd yo=>by
      obtain ⟨H5,c5,e1,e2⟩:=hd [] ⟨t',H',co,dr⟩ (aW _) rfl;simp only[cb,aQ,Pl.mk.injEq] at e1;have e3:d9=co:=e1.2.2.1.trans (e2 (.inr yo))
      cases loc with
      | none=>rfl
      | some off=>
       have:=M.vA off rfl;rw[e3,this.2.1,dE];exact BQ (show a.sz+off+t'.sz<=cs.length by omega)
     have rm:(lS (loc.map (a.sz+·)) cs t'.sz d9).take a.sz=cs.take a.sz:=by rw[sS];exact gX xW
     have JN:(lS (loc.map (a.sz+·)) cs t'.sz d9).drop a.sz=lS loc (cs.drop a.sz) t'.sz d9:=by rw[sS];exact gY xW
     have Mt:∀ b' i,1<=F1 b' i->∀ u,ce w b' i=some u->ce w2 b' i=some u:=λb' i hp u hu=>by
      refine hG b' i Bys (λo mU BR=>?_) u hu;have hsb:=hs b' i;have hFb:=hF b' i
      cases loc with
      | none=>
       obtain ⟨b0,o0,q1,q2⟩:=M.out rfl;rw[q1] at mU;simp only[aQ,bJ] at mU;obtain ⟨rfl,rfl⟩:=mU;have:=(q2 (i - o0) Bys).1;rw[show o0+(i - o0)=i by omega] at this;have:=M.sum b0 i;omega
      | some off=>
       obtain ⟨q1,q2,q3⟩:=M.vA off rfl
       cases ad with
       | none=>rw[q3] at mU;cases mU
       | some x=>
        rw[q3] at mU;simp only[iQ,bN,aQ,bJ] at mU;obtain ⟨rfl,rfl⟩:=mU;have:=zx x.1 x.2 rfl (i - x.2) (by simp only[Ty.sz];omega);rw[show x.2+(i - x.2)=i by omega] at this;omega
     refine ⟨_,_,_,λb' i=>F3 b' i+F1 b' i,k1,λb' i=>by have:=k2 b' i;show F3 b' i+F1 b' i<=_;omega,λA3 sy oh=>?_,λd full hd=>?_⟩
     ·refine ⟨by rw[tU,sx,sx];rfl,F1,F3,λb' i=>by show F1 b' i+F3 b' i<=F3 b' i+F1 b' i;omega,?_,?_⟩
      ·rw[rm,cL,vy,wb,cY];exact au.mono (λb' i ha=>sy b' i (hA b' i ha)) uA hb a h1 (λ_ _=>aI _) Mt
      ·rw[JN,cL,wc,vz,cG];refine k3 A3 sy λb' i hp hz=>oh b' i Bys ?_;have:=qR b' i;show F3 b' i+F1 b' i=0;omega
     ·intro q pl hq hp
      cases q with
      | nil=>
       simp only[cb,aQ] at hp;subst hp;refine ⟨_,_,rfl,λh=>?_⟩
       rcases h with ⟨_,hs⟩ | yo
       ·simp[yn] at hs
       ·exact A9 d full hd yo
      | cons s q=>
       cases s with
       | snd=>
        simp only[cb,h0,aF,aS] at hp;obtain ⟨H4,ZV,e1,e2⟩:=k4 d full hd q pl (by simpa [ej] using hq) hp;refine ⟨H4,ZV,?_,λuB=>e2 (by simpa [ej] using uB)⟩
        simp only[cb,tU,sx,gG,aF,aS];rw[JN,cL,wc,vz,cG];exact e1
       | fst=>
        simp only[cb,h0,aF,aS] at hp;refine ⟨pl.H,pl.cs,?_,λ_=>rfl⟩
        simp only[cb,tU,sx,gG,aF,aS];rw[rm,cL,vy,wb,cY];exact xV uA q a h1 Mt hp
       | idx i=>simp[cb] at hp
       | rO i=>simp[cb] at hp
   | idx i=>simp[sv] at h
   | rO i=>simp[sv] at h
  | aa e=>
   cases s with
   | fst=>simp[sv] at h
   | snd=>simp[sv] at h
   | rO i=>simp[sv] at h
   | idx i=>
    simp only[sv] at h;split at h
    ·rename_i jz;obtain ⟨h1,h2,h3⟩:=Gc h
     cases hx:(v:List e.den)[i]? with
     | none=>rw[hx] at h1;cases h1
     | some x=>
      rw[hx] at h1;simp only[aA] at h1;have hi:i < List.length v:=(aP.1 hx).1;simp only[au,h3,aF,aS,jz,aH] at hr;obtain ⟨a,cap,rfl,g2,g3,g4,g5⟩:=hr
      cases a with
      | none=>have:=g4 rfl;omega
      | some iy=>
       obtain ⟨q1,q2,q3,Fi,q4,q5⟩:=g5 iy rfl;obtain ⟨L,hl,hL,ja⟩:=q5 i x hx
       have a8:∀ k,k < List.length v->∀ j,j < e.sz->k*e.sz+j < cap*e.sz:=λk hk j hj=>by
        have a8:(k+1)*e.sz<=cap*e.sz:=aZ _ Bys;rw[cU] at a8;omega
       have Oh:∀ k,k < cap*e.sz->d8 iy.block 0 (cap*e.sz) iy.block k=1:=λk hk=>by simp[d8,hk]
       obtain ⟨t',m',H',v',co,dr,F',G,kk,loc,M⟩:=ih e h1 ja (λb k=>by have:=q4 b k;have:=hF b k;have:=dy Fi hi b k;omega)
        (ad:=some (iy.block,i*e.sz)) (λb o hb=>by simp only[aQ,bJ] at hb;obtain ⟨rfl,rfl⟩:=hb;exact hL)
        (λb o hb j hj=>by
         simp only[aQ,bJ] at hb;obtain ⟨rfl,rfl⟩:=hb;have:=q4 iy.block (i*e.sz+j);have:=hF iy.block (i*e.sz+j);have:=dy Fi hi iy.block (i*e.sz+j)
         have:=Oh _ (a8 i hi j hj);omega)
       have Gd:∀ b k,bi (List.length v) (gv Fi i G) b k+Fi i b k=bi (List.length v) Fi b k+G b k:=uX Fi hi G
       have Dq:∀ b k,G b k<=bi (List.length v) (gv Fi i G) b k:=λb k=>by
        have:=dy (gv Fi i G) hi b k;simpa [gv] using this
       refine ⟨t',m',H',v',co,dr,F',λb k=>d8 iy.block 0 (cap*e.sz) b k+bi (List.length v) (gv Fi i G) b k,kk,none,M.run,λK0=>by simp only[o3];rw[Er h,hx];exact M.VV K0,?_,M.rep,λb k=>by have:=Gd b k;have:=M.sum b k;have:=q4 b k;omega,M.has,(λoff ho=>by cases ho),(λ_=>rfl),?_,?_⟩
       ·simp only[cb,h3,aF,aS,hi,aH,q1,bQ,fy hL hl];exact M.place
       ·intro _
        cases loc with
        | none=>
         obtain ⟨b',o,e1,e2⟩:=M.out rfl;exact ⟨b',o,e1,λj hj=>⟨by have:=(e2 j hj).1;have:=Dq b' (o+j);omega,(e2 j hj).2⟩⟩
        | some off=>
         obtain ⟨e1,e2,e3⟩:=M.vA off rfl;refine ⟨iy.block,i*e.sz+off,e3,λj hj=>?_⟩
         have AZ:=a8 i hi (off+j) Bys;rw[<-cM] at AZ;exact ⟨by have:=Oh _ AZ;omega,q3.frozen AZ⟩
       ·intro m2 H2 v2 hk w2 A2 d9 Ms hb hA uA hG Es wd qR
        obtain ⟨m3,H3,v3,F3,k1,k2,k3,k4⟩:=M.back m2 H2 v2 hk w2 A2 d9 Ms hb hA uA (λb' i hp hn=>hG b' i (by have:=Dq b' i;omega) hn) Es wd
         (λb' i=>by have:=qR b' i;have:=Dq b' i;omega)
        have zp:=au.length t' wd
        have apart:∀ b' k,(∀ o,dr=some (b',o)->o<=k/\k < o+t'.sz->1<=Fi i b' k\/(b'=iy.block/\i*e.sz<=k/\k < i*e.sz+e.sz)):=λb' k o mU BR=>by
         cases loc with
         | none=>
          obtain ⟨b0,o0,e1,e2⟩:=M.out rfl;rw[e1] at mU;simp only[aQ,bJ] at mU;obtain ⟨rfl,rfl⟩:=mU;have:=(e2 (k - o0) Bys).1;rw[show o0+(k - o0)=k by omega] at this;have:=M.sum b0 k;left;omega
         | some off=>
          obtain ⟨e1,e2,e3⟩:=M.vA off rfl;rw[e3] at mU;simp only[iQ,bN,aQ,bJ] at mU;obtain ⟨rfl,rfl⟩:=mU;exact .inr ⟨rfl,by omega,by omega⟩
        have Mt:∀ j,j < List.length v->j≠i->∀ b' k,1<=Fi j b' k->∀ u,ce w b' k=some u->ce w2 b' k=some u:=λj hj pc b' k hp u hu=>by
         have h1:=dy (gv Fi i G) hj b' k;have e1:gv Fi i G j=Fi j:=by simp[gv,pc]
         rw[e1] at h1;refine hG b' k Bys (λo mU BR=>?_) u hu;have h2:=q4 b' k;have h3:=hF b' k;have h4:=v_ Fi hj hi pc b' k
         rcases apart b' k o mU BR with h | ⟨rfl,hb1,hb2⟩
         ·omega
         ·have:=Oh (i*e.sz+(k - i*e.sz)) (a8 i hi _ Bys);rw[show i*e.sz+(k - i*e.sz)=k by omega] at this;omega
        have cell:∀ j,j < List.length v->j≠i->∀ k,k < e.sz->∀ u,ce w iy.block (j*e.sz+k)=some u->ce w2 iy.block (j*e.sz+k)=some u:=λj hj pc k hk u hu=>by
         have xi:=Oh _ (a8 j hj k hk);refine hG _ _ Bys (λo mU BR=>?_) u hu;have h2:=q4 iy.block (j*e.sz+k);have h3:=hF iy.block (j*e.sz+k)
         rcases apart _ _ o mU BR with h | ⟨_,hb1,hb2⟩
         ·have:=dy Fi hi iy.block (j*e.sz+k);omega
         ·have lU:j < i\/i < j:=by omega
          rcases lU with BS | BS
          ·have:(j+1)*e.sz<=i*e.sz:=aZ _ BS;rw[cU] at this;omega
          ·have:(i+1)*e.sz<=j*e.sz:=aZ _ BS;rw[cU] at this;omega
        have hL3:Has w2 iy.block (i*e.sz) (lS loc L t'.sz d9):=by
         have AI:∀ j u,L[j]?=some u->(∀ off,loc=some off->¬ (off<=j/\j < off+t'.sz))->ce w2 iy.block (i*e.sz+j)=some u:=λj u hu hn=>by
          have hj:j < e.sz:=hl ▸ (aP.1 hu).1;have xi:=Oh _ (a8 i hi j hj);refine hG _ _ Bys (λo mU BR=>?_) u (hL j u hu)
          cases loc with
          | none=>
           obtain ⟨b0,o0,e1,e2⟩:=M.out rfl;rw[e1] at mU;simp only[aQ,bJ] at mU;obtain ⟨rfl,rfl⟩:=mU;have:=(e2 (i*e.sz+j - o0) Bys).1;rw[show o0+(i*e.sz+j - o0)=i*e.sz+j by omega] at this;have h2:=q4 iy.block (i*e.sz+j);have h3:=hF iy.block (i*e.sz+j);have:=Dq iy.block (i*e.sz+j);have:=Gd iy.block (i*e.sz+j);have:=M.sum iy.block (i*e.sz+j)
           have:=dy Fi hi iy.block (i*e.sz+j);omega
          | some off=>
           obtain ⟨e1,e2,e3⟩:=M.vA off rfl;rw[e3] at mU;simp only[iQ,bN,aQ,bJ] at mU;obtain ⟨_,rfl⟩:=mU;exact hn off rfl Bys
         cases loc with
         | none=>exact λj u hu=>AI j u hu (λoff ho=>by cases ho)
         | some off=>
          obtain ⟨e1,e2,e3⟩:=M.vA off rfl;exact Si Bys zp (Es _ _ e3) (λj u hu hn=>AI j u hu (λabG ho=>by injection ho with ho;subst ho;exact hn))
        have VX:(lS loc L t'.sz d9).length=e.sz:=by
         cases loc with
         | none=>exact hl
         | some off=>have:=(M.vA off rfl).1;simp only[lS];rw[wG Bys zp,hl]
        have BT:∀ (j:Nat) (y:e.den),(List.set v i v3)[j]?=some y->(j=i/\y=v3)\/(j≠i/\(v:List e.den)[j]?=some y):=λj y hy=>by
         rw[eC] at hy;split at hy
         ·rename_i sw;subst sw;injection hy with hy;exact .inl ⟨rfl,hy.symm⟩
         ·rename_i sw;exact .inr ⟨λh=>sw h.symm,hy⟩
        have others:∀ A3:Cells,(∀ b i,A2 b i->A3 b i)->∀ (j:Nat) (y:e.den),j≠i->(v:List e.den)[j]?=some y->∃ L:List Value,L.length=e.sz/\Has w2 iy.block (j*e.sz) L/\Has w iy.block (j*e.sz) L/\au P w A e m.e [] y L (Fi j)/\au P w2 A3 e m.e [] y L (Fi j):=λA3 sy j y pc hy=>by
         have hj:j < List.length v:=(aP.1 hy).1;obtain ⟨Lj,JO,ZW,VY⟩:=q5 j y hy;rw[h2 j pc] at VY;exact ⟨Lj,JO,λk u hu=>cell j hj pc k (JO ▸ (aP.1 hu).1) u (ZW k u hu),ZW,VY,au.mono (λb' i ha=>sy b' i (hA b' i ha)) uA hb e VY (λ_ _=>aI _) (Mt j hj pc)⟩
        have abH:∀ H4:List Path,hole H4=false->H4.filterMap (lc i)=H3->(∀ j,j≠i->H4.filterMap (lc j)=[])->∀ d full,sW d full w t' H' co dr w2 H2 d9->sW (d+ej (.idx i::p)) full w (.aa e) H [.slice (some iy) (List.length v) cap] ad w2 H4 [.slice (some iy) (List.length v) cap]:=by
         intro H4 hH4 hHi hHj d full hd q pl hq hp
         cases q with
         | nil=>
          simp only[cb,aQ] at hp;subst hp;exact ⟨_,_,rfl,λ_=>rfl⟩
         | cons s q=>
          cases s with
          | fst=>simp[cb] at hp
          | snd=>simp[cb] at hp
          | rO j=>simp[cb] at hp
          | idx j=>
           simp only[cb,h3,aF,aS] at hp;split at hp
           ·rename_i hj;by_cases pc:j=i
            ·subst pc;rw[q1,bQ,fy hL hl] at hp;obtain ⟨H5,cs5,e1,e2⟩:=k4 d full hd q pl (by simp only[ej] at hq;omega) hp;refine ⟨H5,cs5,?_,λuB=>e2 (uB.imp (λh=>⟨by have:=h.1;simp only[ej] at this;omega,h.2⟩) id)⟩
             simp only[cb,hH4,aF,aS,hj,aH,q1,bQ,fy hL3 VX,hHi];exact e1
            ·obtain ⟨Lj,JO,Oi,ZW,VY,_⟩:=others A2 (λ_ _ h=>h) j _ pc (aB hj);rw[q1,bQ,fy ZW JO,h2 j pc] at hp;refine ⟨pl.H,pl.cs,?_,λ_=>rfl⟩
             simp only[cb,hH4,aF,aS,hj,aH,q1,bQ,fy Oi JO,hHj j pc];exact xV uA q e VY (Mt j hj pc) hp
           ·cases hp
        simp only[lS];by_cases CT:m3=m.e
        ·rw[aM CT] at k1;subst CT;refine ⟨_,_,_,λb' k=>d8 iy.block 0 (cap*e.sz) b' k+bi (List.length v) (gv Fi i F3) b' k,k1,λb' k=>?_,λA3 sy oh=>?_,abH _ (sx _ _) (FL _ _) (λj hj=>BO hj _)⟩
         ·have:=uX Fi hi F3 b' k;have:=Gd b' k;have:=k2 b' k
          show d8 iy.block 0 (cap*e.sz) b' k+bi (List.length v) (gv Fi i F3) b' k<=_;omega
         ·simp only[au,sx,aF,aS,Md.own,aH];refine ⟨some iy,cap,by simp,by simpa using g2,g3,(λhn=>by cases hn),λIc IX=>?_⟩
          injection IX with IX;subst IX;refine ⟨q1,q2,hb _ _ q3,gv Fi i F3,λb' k=>by simp,λj y hy=>?_⟩
          rcases BT j y hy with ⟨rfl,rfl⟩ | ⟨pc,Id⟩
          ·refine ⟨_,VX,hL3,?_⟩
           rw[FL];simp only[Md.e,gv,aH];refine k3 A3 sy λb' k hp hz=>oh b' k ?_ ?_
           ·have:=Dq b' k;omega
           ·have h5:=qR b' k;have h6:=uX Fi hi F3 b' k;have h7:=Gd b' k;have:=Dq b' k
            have h8:=q4 b' k;have h9:=M.sum b' k
            have:=k2 b' k;show d8 iy.block 0 (cap*e.sz) b' k+bi (List.length v) (gv Fi j F3) b' k=0;omega
          ·obtain ⟨Lj,JO,Oi,_,_,Yf⟩:=others A3 sy j y pc Id;refine ⟨Lj,JO,Oi,?_⟩
           rw[BO pc];simp only[gv,aV pc];exact Yf
        ·rw[aV CT] at k1;split at k1
         ·rename_i Ge;have Ge:H3=[]:=bC.1 Ge;refine ⟨_,_,_,λb' k=>d8 iy.block 0 (cap*e.sz) b' k,k1,λb' k=>by show d8 iy.block 0 (cap*e.sz) b' k<=_;omega,λA3 sy oh=>?_,abH _ rfl (by rw[Ge];rfl) (λj hj=>rfl)⟩
          simp only[au,hole,bP,aF,aS,Md.own,aH];refine ⟨some iy,cap,by simp,by simpa using g2,g3,(λhn=>by cases hn),λIc IX=>?_⟩
          injection IX with IX;subst IX;refine ⟨q1,q2,hb _ _ q3,λ_ _ _=>0,λb' k=>by rw[nH];simp,λj y hy=>?_⟩
          have fz:∀ b' k,1<=Ms b' k+(d8 iy.block 0 (cap*e.sz) b' k+bi (List.length v) (gv Fi i G) b' k)->d8 iy.block 0 (cap*e.sz) b' k=0->A3 b' k:=oh
          rcases BT j y hy with ⟨rfl,rfl⟩ | ⟨pc,Id⟩
          ·refine ⟨_,VX,hL3,?_⟩
           have hr3:=k3 A3 sy λb' k hp hz=>fz b' k (by have:=Dq b' k;omega) (by
            have h5:=qR b' k;have:=Dq b' k;omega)
           rw[Ge] at hr3;refine Ro.rep e _ (iP e) (au.ym (λ_ _ h=>h) e hr3 λb' k hp=>fz b' k ?_ ?_)
           ·have:=k2 b' k;have:=Dq b' k;omega
           ·have h5:=qR b' k;have:=Dq b' k;have:=k2 b' k;omega
          ·obtain ⟨Lj,JO,Oi,_,_,Yf⟩:=others A3 sy j y pc Id;have hj:j < List.length v:=(aP.1 Id).1;refine ⟨Lj,JO,Oi,Ro.rep e _ (iP e) (au.ym (λ_ _ h=>h) e Yf λb' k hp=>?_)⟩
           have h1:=dy (gv Fi i G) hj b' k;have e1:gv Fi i G j=Fi j:=by simp[gv,pc]
           rw[e1] at h1;have h5:=qR b' k;exact fz b' k Bys Bys
         ·cases k1
    ·cases h
  | arr n e=>
   cases s with
   | fst=>simp[sv] at h
   | snd=>simp[sv] at h
   | idx i=>simp[sv] at h
   | rO i=>
    obtain ⟨rfl,hf,hl,hlen,hr⟩:=hr;simp only[sv,cJ,aH] at h
    cases hx:(v:List e.den)[i]? with
    | none=>rw[hx] at h;cases h
    | some x=>
     rw[hx] at h;simp only[aA] at h;have hi:i < n:=hl ▸ (aP.1 hx).1
     have gw:∀ j,j < n->j*e.sz+e.sz<=cs.length:=λj hj=>by
      have:(j+1)*e.sz<=n*e.sz:=aZ _ hj;rw[cU] at this;omega
     have mF:∀ j,j < n->((cs.drop (j*e.sz)).take e.sz).length=e.sz:=λj hj=>by have:=gw j hj;simp;omega
     obtain ⟨t',m',H',v',co,dr,F',G,kk,loc,M⟩:=ih e h (Ro.flat e (λ_ _=>0) hf (hr i x hx)) (λ_ _=>aW _) (ad:=iQ ad (i*e.sz)) (λb' o hb j u hu=>by
      cases ad with
      | none=>cases hb
      | some y=>
       simp only[iQ,bN,aQ,bJ] at hb;obtain ⟨rfl,rfl⟩:=hb;rw[bT] at hu;split at hu
       ·rw[bM] at hu;have:=lN y.1 y.2 rfl _ u hu
        rwa [cM]
       ·cases hu) (λ_ _ _ _ _=>rfl)
     have Sj:∀ b k,G b k=0:=λb k=>by have:=M.sum b k;omega
     have Ie:∀ b k,F' b k=0:=λb k=>by have:=M.sum b k;omega
     have JP:∀ h:loc=none,t'.sz=0:=λh=>by
      obtain ⟨b',o,e1,e2⟩:=M.out h;rcases bI t'.sz with h0 | h0
      ·exact h0
      ·have:=(e2 0 h0).1;rw[Sj] at this;omega
     refine ⟨t',m',H',v',co,dr,F',F,kk,loc.map (i*e.sz+·),M.run,λK0=>by simp only[o3,cJ,aH,hx,aA];exact M.VV K0,by simp only[cb,cJ,aH,hi];exact M.place,M.rep,λb k=>by rw[Ie];omega,M.has,?_,(λh=>by rw[M.TO (by simpa [ej] using h)];rfl),?_,?_⟩
     ·intro abG ho;obtain ⟨off,VW,rfl⟩:=Option.map_eq_some_iff.1 ho;obtain ⟨q1,q2,q3⟩:=M.vA off VW;have:=gw i hi;refine ⟨by simp only[Ty.sz];omega,?_,by rw[q3];cases ad <;> simp[iQ,cM]⟩
      rw[q2,eQ,eR,dE];congr 1;omega
     ·intro ho;obtain ⟨b',o,q1,q2⟩:=M.out (by simpa using ho);have:=JP (by simpa using ho);exact ⟨b',o,q1,λj hj=>by omega⟩
     ·intro m2 H2 v2 hk w2 A2 d9 Ms hb hA uA hG Es wd qR;obtain ⟨m3,H3,v3,F3,k1,k2,k3,k4⟩:=M.back m2 H2 v2 hk w2 A2 d9 Ms hb hA uA (λb' i hp hn=>by rw[Sj] at hp;omega) Es wd (λb' i=>by have:=qR b' i;rw[Sj];omega);have zp:=au.length t' wd;split at k1
      ·rename_i Ge;have Ge:H3=[]:=bC.1 Ge
       have sS:lS (loc.map (i*e.sz+·)) cs t'.sz d9=BP cs (i*e.sz) e.sz (lS loc ((cs.drop (i*e.sz)).take e.sz) t'.sz d9):=by
        cases loc with
        | none=>simp only[lS,gZ];exact (BQ (gw i hi)).symm
        | some off=>
         have:=(M.vA off rfl).1;exact (aax this (gw i hi) zp).symm
       have xW:(lS loc ((cs.drop (i*e.sz)).take e.sz) t'.sz d9).length=e.sz:=by
        cases loc with
        | none=>exact mF i hi
        | some off=>have:=(M.vA off rfl).1;simp only[lS];rw[wG (by rw[mF i hi];omega) zp,mF i hi]
       have TP:∀ j,j < n->((lS (loc.map (i*e.sz+·)) cs t'.sz d9).drop (j*e.sz)).take e.sz=if j=i then lS loc ((cs.drop (i*e.sz)).take e.sz) t'.sz d9 else (cs.drop (j*e.sz)).take e.sz:=λj hj=>by
        rw[sS];apply eB;intro k;rw[bT];split
        ·rename_i hk;rw[bM,DT (gw i hi) xW];by_cases pc:j=i
         ·subst pc;rw[aM Bys,aM rfl];congr 1;omega
         ·rw[aV pc,bT,aM hk,bM,aV];have lU:j < i\/i < j:=by omega
          rcases lU with BS | BS
          ·have:(j+1)*e.sz<=i*e.sz:=aZ _ BS;rw[cU] at this;omega
          ·have:(i+1)*e.sz<=j*e.sz:=aZ _ BS;rw[cU] at this;omega
        ·rename_i hk;by_cases pc:j=i
         ·rw[aM pc,eX Bys]
         ·rw[aV pc,eX (by rw[mF j hj];omega)]
       have A9:∀ d full,sW d full w t' H' co dr w2 H2 d9->full->lS (loc.map (i*e.sz+·)) cs t'.sz d9=cs:=λd full hd yo=>by
        obtain ⟨H5,c5,e1,e2⟩:=hd [] ⟨t',H',co,dr⟩ (aW _) rfl;simp only[cb,aQ,Pl.mk.injEq] at e1;have e3:d9=co:=e1.2.2.1.trans (e2 (.inr yo))
        cases loc with
        | none=>rfl
        | some off=>
         have:=M.vA off rfl;have:=gw i hi;rw[e3,(M.vA off rfl).2.1,eQ,eR,show min t'.sz (e.sz - off)=t'.sz by omega,dE];exact BQ (show i*e.sz+off+t'.sz<=cs.length by omega)
       have acM:(lS (loc.map (i*e.sz+·)) cs t'.sz d9).length=n*e.sz:=by rw[sS,wG (gw i hi) xW,hlen]
       refine ⟨_,_,_,λb' k=>F3 b' k+F b' k,k1,λb' k=>by have:=k2 b' k;have:=Sj b' k;show F3 b' k+F b' k<=_;omega,λA3 sy oh=>?_,λd full hd=>?_⟩
       ·refine ⟨rfl,hf,by simpa using hl,acM,λj y hy=>?_⟩
        have hj:j < n:=by have:=(aP.1 hy).1;rw[bB] at this;omega
        rw[TP j hj];rw[eC] at hy;split at hy
        ·rename_i sw;subst sw
         have hy:some v3=some y:=by
          split at hy
          ·exact hy
          ·cases hy
         injection hy with hy;rw[aM rfl,<- hy];exact au.flat e hf (k3 A3 sy λb' k hp hz=>oh b' k (by have:=Sj b' k;omega) (by have:=qR b' k;have:=Sj b' k;show F3 b' k+F b' k=0;omega))
        ·rename_i sw;rw[aV (λh=>sw h.symm)];exact Ro.mono uA (λb' k ha=>sy b' k (hA b' k ha)) e (hr j y hy)
       ·intro q pl hq hp
        cases q with
        | nil=>
         simp only[cb,aQ] at hp;subst hp;refine ⟨_,_,rfl,λh=>?_⟩
         rcases h with ⟨_,hs⟩ | yo
         ·simp[yn] at hs
         ·exact A9 d full hd yo
        | cons s q=>
         cases s with
         | fst=>simp[cb] at hp
         | snd=>simp[cb] at hp
         | idx j=>simp[cb] at hp
         | rO j=>
          simp only[cb,cJ,aH] at hp;split at hp
          ·rename_i hj;by_cases pc:j=i
           ·subst pc;obtain ⟨H5,cs5,e1,e2⟩:=k4 d full hd q pl (by simp only[ej] at hq;omega) hp;refine ⟨H5,cs5,?_,λuB=>e2 (uB.imp (λh=>⟨by have:=h.1;simp only[ej] at this;omega,h.2⟩) id)⟩
            simp only[cb,cJ,aH,hj];rw[TP j hj,aM rfl];rw[Ge] at e1;exact e1
           ·refine ⟨pl.H,pl.cs,?_,λ_=>rfl⟩
            simp only[cb,cJ,aH,hj];rw[TP j hj,aV pc];exact xV uA q e (Ro.flat e (m:=.leaf) (λ_ _=>0) hf (hr j _ (aB (by rw[hl];exact hj)))) (λb k hp=>by simp at hp) hp
          ·cases hp
      ·cases k1
  | _=>cases s <;> simp[sv] at h
end
end OT
set_option linter.unusedVariables false
set_option linter.unusedSimpArgs false
namespace OT
open Go
def tmp (a:Act) (i:Nat):Value:=a.tmps.getD i undef
section
variable {P:Program} {w:World} {A:Cells}
theorem Ro.one:∀ (t:Ty) {v:t.den} {cs:List Value},Ro P w A t v cs->∀ x ∈ cs,x.oneCell'=true:=by
 intro t
 induction t with
 | pair a b nz nr=>
  intro v cs h x hx;rw[<-cP a.sz cs] at hx;rcases bO.1 hx with hx | hx
  ·exact nz h.1 x hx
  ·exact nr h.2 x hx
 | arr n e ih=>
  intro v cs h x hx;obtain ⟨hf,hl,hlen,hr⟩:=h;obtain ⟨k,hk,rfl⟩:=cV.1 hx;rw[hlen] at hk
  have ol:0 < e.sz:=by
   grind
  have hi:k / e.sz < n:=(eY ol).2 hk;refine ih (hr (k / e.sz) _ (aB (by grind))) _ ?_;rw[eZ];refine ⟨k % e.sz,?_⟩
  grind [Nat.mod_lt,Nat.div_add_mod]
 | aa e ih=>rintro v cs ⟨a,cap,rfl,_⟩ x hx;simp at hx;subst hx;rfl
 | ptr e ih=>rintro v cs ⟨a,rfl,_⟩ x hx;simp at hx;subst hx;rfl
 | fn=>rintro v cs ⟨a,rfl,_⟩ x hx;simp at hx;subst hx;rfl
 | map k v=>rintro v cs ⟨_,_,r,vx,rfl,_⟩ x hx;simp at hx;subst hx;rfl
 | unit=>grind [Ro]
 | _=>intro v cs h x hx;simp only[Ro] at h;subst h;simp at hx;subst hx;rfl
theorem au.one:∀ (t:Ty) {m:Md} {H:List Path} {v:t.den} {cs:List Value} {F:FP},au P w A t m H v cs F->∀ x ∈ cs,x.oneCell'=true:=by
 intro t
 induction t with
 | pair a b nz nr=>
  intro m H v cs F h x hx;obtain ⟨_,F1,F2,_,h1,h2⟩:=h;grind [List.take_append_drop]
 | aa e ih=>
  intro m H v cs F h x hx;simp only[au] at h;split at h
  ·grind
  ·split at h
   ·obtain ⟨a,cap,rfl,_⟩:=h;simp at hx;subst hx;rfl
   grind [Ro.one]
 | ptr e ih=>
  intro m H v cs F h x hx;simp only[au] at h;split at h
  ·grind
  ·split at h
   ·obtain ⟨a,rfl,_⟩:=h;simp at hx;subst hx;rfl
   grind [Ro.one]
 | arr n e ih=>intro m H v cs F h;exact Ro.one _ h.2
 | map k v=>
  intro m H v cs F h x hx;simp only[au] at h;split at h
  ·grind
  ·split at h
   ·obtain ⟨_,_,r,vx,rfl,_⟩:=h;simp at hx;subst hx;rfl
   grind [Ro.one]
 | _=>intro m H v cs F h;exact Ro.one _ h
end
theorem lV {t:Ty} {cs:List Value} (hl:cs.length=t.sz) (h1:∀ x ∈ cs,x.oneCell'=true):(dm t cs).cells.toList=cs:=by
 unfold dm;split
 ·simp[Value.cells]
 ·rename_i h;have:t.sz=1:=by cases t <;> simp_all [isAgg,Ty.sz]
  match cs,hl with
  | [x],_=>
   have:=h1 x (by simp);cases x <;> simp_all [Value.cells,Value.oneCell']
  | [],hl=>grind
  | _::_::_,hl=>grind
def Below (snap v:List Nat):Prop:=∀ (j x:Nat),snap[j]?=some x->∃ y,v[j]?=some y/\x<=y
theorem IY:∀ (s v:List Nat),preB s v=true↔∀ (j x:Nat),s[j]?=some x->v[j]?=some x
 | [],v=>by simp[preB]
 | a::s,[]=>by
  simp only[preB,aF,false_iff];intro h;have:=h 0 a rfl;cases this
 | a::s,b::v=>by
  simp only[preB,aD,eI,IY s v];constructor
  ·grind
  ·intro h;refine ⟨by have:=h 0 a rfl;simpa using this.symm,λj x hj=>h (j+1) x hj⟩
theorem HN {s v v':List Nat} (hs:Below s v) (hv:Below v v') (h:preB s v'=true):preB s v=true/\∀ (j:Nat),j < s.length->v[j]?=v'[j]?:=by
 have key:∀ (j x:Nat),s[j]?=some x->v[j]?=some x/\v'[j]?=some x:=λj x hj=>by
  obtain ⟨y,hy,uO⟩:=hs j x hj;obtain ⟨z,hz,hyz⟩:=hv j y hy;grind [IY]
 grind [IY]
theorem Below.trans {s v v':List Nat} (h1:Below s v) (h2:Below v v'):Below s v':=λj x hj=>by
 obtain ⟨y,hy,uO⟩:=h1 j x hj;obtain ⟨z,hz,hyz⟩:=h2 j y hy;grind
theorem Below.refl (s:List Nat):Below s s:=λj x hj=>⟨x,hj,aI _⟩
def ei (w:World) (tv:Value):Slot->Option Pl
 | .own t _ H _=>some ⟨t,H,tv.cells.toList,none⟩
 | .box t _ H _=>match tv with
  | .pointer (some a)=>some ⟨t,H,rd w a.block a.off t.sz,some (a.block,a.off)⟩
  | _=>none
 | _=>none
def place (σ:St) (a:Act) (w:World) (r:Nat) (p:Path):Option Pl:=
 (ei w (tmp a r) (σ.get r)).bind λR=>cb w p R.t R.H R.cs R.ad
def sA (σ:St) (a:Act) (w:World) (tv:Value) (r:Nat) (p:Path) (snap:List Nat):Prop:=
 Below snap (σ.lA r)/\(σ.ok r snap=true->∃ pl,place σ a w r p=some pl/\tv=dm pl.t pl.cs/\((yn pl.t=true/\snap.length=min 5 (2+ej p))\/snap.length=5))
def DU (σ:St) (a:Act) (w:World) (tv:Value) (r:Nat) (p:Path) (snap:List Nat):Prop:=
 Below snap (σ.lA r)/\(σ.ok r snap=true->∃ pl b o,place σ a w r p=some pl/\pl.ad=some (b,o)/\tv=.pointer (some ⟨b,o,none⟩)/\snap.length=min 5 (1+ej p))
def Gf (σ:St) (a:Act) (w:World) (tv:Value) (r:Nat) (p:Path) (snap:List Nat) (lo hi:Nat):Prop:=
 Below snap (σ.lA r)/\(σ.ok r snap=true->∃ pl e x n cap x' cap',place σ a w r p=some pl/\pl.t=.aa e/\pl.cs=[.slice x n cap]/\lo<=hi/\hi<=n/\tv=.slice x' (hi - lo) cap'/\cap'+lo=cap/\(lo=0->x'=x) /\
  (x=none->x'=none)/\(∀ ad,x=some ad->∃ dr,x'=some dr/\dr.spot=ad.spot/\dr.block=ad.block/\(lo < hi->dr.off=ad.off+lo*e.sz))/\(snap.length=min 5 (2+ej p)\/snap.length=5))
section
variable (P:Program) (A:Cells)
def abI (w:World) (x:JF) (tv:Value) (F:FP):Prop:=x.t=.unit\/∃ cs,tv=dm x.t cs/\au P w A x.t x.m [] x.v cs F
def dn (σ:St) (a:Act) (w:World) (tv:Value):Slot->FP->Prop
 | .dead,_=>True
 | .ye,_=>tv=.slice none 0 0
 | .val t v,_=>∃ cs,tv=dm t cs/\Ro P w A t v cs
 | .cp t v,_=>Ro P w A (.ptr t) v [tv]
 | .own t m H v,F=>∃ cs,tv=dm t cs/\au P w A t m H v cs F
 | .box t m H v,F=>∃ b o L F1,tv=.pointer (some ⟨b,o,none⟩)/\L.length=t.sz/\Has w b o L/\(∀ j,j < t.sz->w.frozen? ⟨b,o+j,none⟩=false) /\
   (∀ x i,d8 b o t.sz x i+F1 x i<=F x i)/\au P w A t m H v L F1
 | .ref r p snap,_=>sA σ a w tv r p snap
 | .ptr r p snap,_=>DU σ a w tv r p snap
 | .sub r p snap lo hi,_=>Gf σ a w tv r p snap lo hi
 | .sQ xs,F=>∃ (vs:Array Value) (Fi:Nat->FP),tv=.tuple vs/\(∀ b i,bi xs.length Fi b i<=F b i)/\∀ j x,xs[j]?=some x->∃ v,vs[j]?=some v/\abI P A w x v (Fi j)
end
structure Ext (w w':World) (F:FP):Prop where
 size:w.heap.size<=w'.heap.size
 cell:∀ b i,b < w.heap.size->F b i=0->∀ u,ce w b i=some u->ce w' b i=some u
 xT:∀ b n,jf w b n->jf w' b n
 AK:∀ b i,b < w.heap.size->w'.frozen? ⟨b,i,none⟩=w.frozen? ⟨b,i,none⟩
 os:w'.os=w.os
 tape:w'.tape=w.tape
 output:w'.output=w.output
 obj:∀ b,b < w.heap.size->(∀ i,F b i=0)->w'.heap[b]?=w.heap[b]?
 drawn:w.drawn<=w'.drawn
def VZ (P:Program):Bool:=(P.globalNamed "internal/strconv.uint64pow10").isSome||(P.globalNamed "internal/bytealg.MaxLen").isSome
def xA (P:Program) (w:World) (F0:FP):Prop:=VZ P=true->(∃ w0:World,(w0.ShapedOpen P/\((P.globalNamed "internal/strconv.uint64pow10").isSome=true->Go.Lib.TabIs P w0 "internal/strconv.uint64pow10" .u64 Go.Lib.pow10Tab))/\∀ b,b < P.globals.size->w.heap[b]?=w0.heap[b]?) /\
 P.globals.size<=w.heap.size/\∀ b i,b < P.globals.size->F0 b i=0
theorem acN {P:Program} {w:World} {F0:FP} (h:VZ P=false):xA P w F0:=λe=>by grind
theorem xA.ext {P:Program} {w w':World} {F0 G:FP} (h:xA P w F0) (he:Ext w w' F0) (hG:∀ b i,1<=G b i->1<=F0 b i\/w.heap.size<=b):xA P w' G:=λe=>by
 obtain ⟨⟨w0,g,hw⟩,hs,hf⟩:=h e;refine ⟨⟨w0,g,λb hb=>?_⟩,bH hs he.size,λb i hb=>?_⟩
 ·rw[he.obj b Bys (λi=>hf b i hb)];exact hw b hb
 grind
structure Ctx where
 w0:World
 A0:Cells
 F0:FP
 args:Array Value
structure Rel (P:Program) (C:Ctx) (A:Cells) (X:FP) (σ:St) (a:Act) (w:World) (F:Nat->FP):Prop where
 size:a.tmps.size=σ.n
 defers:a.defers=[]
 iZ:∀ i,i < σ.n->dn P A σ a w (tmp a i) (σ.get i) (F i)
 gh:∀ d r p snap,(d,r,p,snap) ∈ σ.gh->sA σ a w (tmp a d) r p snap
 qe:∀ b i,X b i+bi σ.n F b i<=1
 qS:∀ b i,1<=X b i+bi σ.n F b i->¬ A b i
 ld:∀ b i,1<=X b i+bi σ.n F b i\/A b i->b < w.heap.size
 mD:∀ i,(σ.lA i).length=5
 ext:Ext C.w0 w C.F0
 own:∀ b i,1<=X b i+bi σ.n F b i->1<=C.F0 b i\/C.w0.heap.size<=b
 a0:∀ b i,C.A0 b i->A b i
 a1:∀ b i,A b i->C.A0 b i\/1<=C.F0 b i\/C.w0.heap.size<=b
 pu:∀ j k,(j,k,false) ∈ σ.ay->tmp a j=C.args.getD k undef
 whole:∀ r t m H v,σ.get r=.box t m H v->(∀ k,(r,k,false) ∉ σ.ay)->∃ b,tmp a r=.pointer (some ⟨b,0,none⟩)/\jf w b (t.sz,false)
 om:∀ j k,(j,k,true) ∈ σ.ay->∀ R,ei w (tmp a j) (σ.get j)=some R->dm R.t R.cs=C.args.getD k undef
 yp:xA P C.w0 C.F0
theorem Rel.Et {P:Program} {C:Ctx} {A:Cells} {X:FP} {σ:St} {a:Act} {w:World} {F:Nat->FP} (h:Rel P C A X σ a w F) {G:FP} (hG:∀ b i,1<=G b i->1<=X b i+bi σ.n F b i):xA P w G:=
 h.yp.ext h.ext λb i hp=>h.own b i (hG b i hp)
def zy (σ:St) (a:Act) (w:World) (σ':St) (a':Act) (w':World):Prop:=
 ∀ r p snap,Below snap (σ.lA r)->Below snap (σ'.lA r)/\(σ'.ok r snap=true->σ.ok r snap=true /\
  (snap.length=min 5 (1+ej p)\/snap.length=min 5 (2+ej p)\/snap.length=5->∀ pl,place σ a w r p=some pl->∃ H' co,place σ' a' w' r p=some ⟨pl.t,H',co,pl.ad⟩ /\
   ((yn pl.t=true/\snap.length=min 5 (2+ej p))\/snap.length=5->co=pl.cs)))
section
variable {P:Program} {A A':Cells} {σ σ':St} {a a':Act} {w w':World} {tv:Value} {F:FP}
theorem sA.nx (hp:zy σ a w σ' a' w') {r:Nat} {p:Path} {snap:List Nat} (h:sA σ a w tv r p snap):sA σ' a' w' tv r p snap:=by
 obtain ⟨h1,h2⟩:=h;obtain ⟨h3,h4⟩:=hp r p snap h1;refine ⟨h3,λbd=>?_⟩
 grind
theorem DU.nx (hp:zy σ a w σ' a' w') {r:Nat} {p:Path} {snap:List Nat} (h:DU σ a w tv r p snap):DU σ' a' w' tv r p snap:=by
 obtain ⟨h1,h2⟩:=h;obtain ⟨h3,h4⟩:=hp r p snap h1;refine ⟨h3,λbd=>?_⟩
 grind
theorem Gf.nx (hp:zy σ a w σ' a' w') {r:Nat} {p:Path} {snap:List Nat} {lo hi:Nat} (h:Gf σ a w tv r p snap lo hi):Gf σ' a' w' tv r p snap lo hi:=by
 obtain ⟨h1,h2⟩:=h;obtain ⟨h3,h4⟩:=hp r p snap h1;refine ⟨h3,λbd=>?_⟩
 grind [yn]
theorem dn.nx (hp:zy σ a w σ' a' w') (hA:∀ b i,A b i->A' b i) (hc:∀ b i,A b i->∀ u,ce w b i=some u->ce w' b i=some u) (hb:∀ b n,jf w b n->jf w' b n)
  (hF:∀ b i,1<=F b i->(∀ u,ce w b i=some u->ce w' b i=some u)/\w'.frozen? ⟨b,i,none⟩=w.frozen? ⟨b,i,none⟩) {s:Slot} (h:dn P A σ a w tv s F):dn P A' σ' a' w' tv s F:=by
 cases s with
 | dead=>trivial
 | ye=>exact h
 | val t v=>obtain ⟨cs,h1,h2⟩:=h;exact ⟨cs,h1,Ro.mono hc hA t h2⟩
 | cp t v=>exact Ro.mono hc hA (.ptr t) h
 | own t m H v=>obtain ⟨cs,h1,h2⟩:=h;exact ⟨cs,h1,au.mono hA hc hb t h2 (λ_ _=>aI _) (λb i hp=>(hF b i hp).1)⟩
 | box t m H v=>
  obtain ⟨b,o,L,F1,h1,h2,h3,h4,h5,h6⟩:=h
  have hr:∀ j,j < t.sz->1<=F b (o+j):=λj hj=>by
   grind [d8]
  exact ⟨b,o,L,F1,h1,h2,λj u hu=>(hF _ _ (hr j (h2 ▸ (aP.1 hu).1))).1 u (h3 j u hu),λj hj=>by grind,h5,
   au.mono hA hc hb t h6 (λ_ _=>aI _) (λb i hp=>(hF b i (by grind)).1)⟩
 | ref r p snap=>exact sA.nx hp h
 | ptr r p snap=>exact DU.nx hp h
 | sub r p snap lo hi=>exact Gf.nx hp h
 | sQ xs=>
  obtain ⟨vs,Fi,h1,h2,h3⟩:=h;refine ⟨vs,Fi,h1,h2,λj x hx=>?_⟩
  obtain ⟨v,h4,h5⟩:=h3 j x hx;refine ⟨v,h4,h5.imp id λ⟨cs,h6,h7⟩=>⟨cs,h6,au.mono hA hc hb x.t h7 (λ_ _=>aI _) (λb i hp=>(hF b i ?_).1)⟩⟩
  grind [dy]
end
end OT
set_option linter.unusedVariables false
set_option linter.unusedSimpArgs false
namespace OT
open Go
theorem A_ {α:Type} (k:Nat) (x:α) (l:List (Nat×α)) (i:Nat):oD ((k,x)::l) i=if k=i then some x else oD l i:=by
 simp_all [oD]
theorem zA (σ:St) (d:Nat) (s:Slot) (i:Nat):(σ.put d s).get i=if d=i/\i < σ.n then s else σ.get i:=by
 grind [St.get,St.put,A_,Nat.blt_eq]
theorem HO (σ:St) (d:Nat) (s:Slot) (i:Nat):(σ.ml d s).get i=if d=i/\i < σ.n then s else σ.get i:=by
 grind [St.get,St.ml,A_,Nat.blt_eq]
theorem Bz (σ:St) (d:Nat) (s:Slot) (i:Nat):(σ.put d s).lA i=if d=i then tS (σ.lA d) else σ.lA i:=by
 grind [St.lA,St.put,A_]
theorem rS (σ:St) (d:Nat) (f:List Nat->List Nat) (i:Nat):(σ.nq d f).lA i=if d=i then f (σ.lA d) else σ.lA i:=by
 grind [St.lA,St.nq,A_]
theorem Ba {l:List (Nat×Nat×Bool)} {d:Nat} {e:Nat×Nat×Bool} (h:e ∈ BF l d):e ∈ l/\e.1≠d:=by
 induction l with
 | nil=>cases h
 | cons x l ih=>
  obtain ⟨k,b⟩:=x;simp only[BF] at h;split at h
  ·grind
  ·rename_i hk;rcases aY.1 h with rfl | h
   all_goals simp_all
theorem JQ {l:List (Nat×Nat×Bool)} {d:Nat} {e:Nat×Nat×Bool} (h:e ∈ l) (hd:e.1≠d):e ∈ BF l d:=by
 induction l with
 | nil=>cases h
 | cons x l ih=>
  obtain ⟨k,b⟩:=x;simp only[BF];rcases aY.1 h with rfl | h
  ·simp_all
  grind
theorem TQ {l:List (Nat×Nat×Bool)} {d j k:Nat} (h:(j,k,false) ∈ l):(j,k,false) ∈ BG l d:=by
 induction l <;> grind [BG]
theorem JR {l:List (Nat×Nat×Bool)} {d:Nat} {e:Nat×Nat×Bool} (h:e ∈ BG l d):e ∈ l/\¬ (e.1=d/\e.2.2=true):=by
 induction l with
 | nil=>cases h
 | cons x l ih=>
  obtain ⟨k,n,b⟩:=x;simp only[BG] at h;split at h
  ·grind
  ·rename_i hk;rcases aY.1 h with rfl | h
   all_goals simp_all
theorem Oj {l:List (Nat×Nat×Path×List Nat)} {d:Nat} {e:Nat×Nat×Path×List Nat} (h:e ∈ N0 l d):e ∈ l/\e.1≠d:=by
 induction l with
 | nil=>cases h
 | cons x l ih=>
  obtain ⟨k,b⟩:=x;simp only[N0] at h;split at h
  ·grind
  ·rename_i hk;rcases aY.1 h with rfl | h
   all_goals simp_all
theorem uC (v:List Nat):Below v (tS v):=λj x hj=>⟨x+1,by simp[tS,hj],by omega⟩
theorem Gg {v:List Nat} (h:v.length=5):∃ b x y z w,v=[b,x,y,z,w]:=by
 match v,h with
 | [b,x,y,z,w],_=>grind
theorem V0 {b x y z w b' x' y' z' w':Nat} (h0:b<=b') (h1:x<=x') (h2:y<=y') (h3:z<=z') (h4:w<=w'):Below [b,x,y,z,w] [b',x',y',z',w']:=by
 intro j n hj;grind
theorem we (d:Nat) {v:List Nat} (h:v.length=5):Below v (vw d v):=by
 obtain ⟨b,x,y,z,w,rfl⟩:=Gg h
 match d with
 | 0 | 1 | 2 | n+3=>exact V0 Bys Bys Bys Bys Bys
theorem zR {v:List Nat} (h:v.length=5):Below v (yf v):=by
 obtain ⟨b,x,y,z,w,rfl⟩:=Gg h;exact V0 Bys Bys Bys Bys Bys
theorem Gh {v:List Nat}:(tS v).length=v.length:=by simp[tS]
theorem Eu (d:Nat) {v:List Nat} (h:v.length=5):(vw d v).length=5:=by
 obtain ⟨b,x,y,z,w,rfl⟩:=Gg h
 match d with
 | 0 | 1 | 2 | n+3=>rfl
theorem Gj {v:List Nat} (h:v.length=5):(yf v).length=5:=by
 obtain ⟨b,x,y,z,w,rfl⟩:=Gg h;rfl
theorem JS {s v v':List Nat} (hs:Below s v) (hv:Below v v') (h:preB s v'=true) {j:Nat} (hj:v[j]?≠v'[j]?):s.length<=j:=by
 rcases cK j s.length with h' | h'
 ·exact absurd ((HN hs hv h).2 j h') hj
 ·exact h'
theorem If {s v:List Nat} (hl:v.length=5) (hs:Below s v) (h:preB s (tS v)=true):s.length=0:=by
 obtain ⟨b,x,y,z,w,rfl⟩:=Gg hl;have:=JS hs (uC _) h (j:=0) (by simp[tS]);omega
theorem Gk {s v:List Nat} (d:Nat) (hl:v.length=5) (hs:Below s v) (h:preB s (vw d v)=true):s.length<=min 4 (1+d):=by
 have h4:s.length<=4:=by
  refine JS hs (we d hl) h ?_;obtain ⟨b,x,y,z,w,rfl⟩:=Gg hl
  match d with
  | 0 | 1 | 2 | n+3=>simp[vw]
 have hd:s.length<=1+d:=by
  rcases cK d 3 with hd | hd
  ·refine JS hs (we d hl) h ?_;obtain ⟨b,x,y,z,w,rfl⟩:=Gg hl
   match d,hd with
   | 0,_ | 1,_ | 2,_=>simp[vw]
  ·omega
 omega
theorem IZ {s v:List Nat} (hl:v.length=5) (hs:Below s v) (h:preB s (yf v)=true):s.length<=4:=by
 refine JS hs (zR hl) h ?_;grind [Gg,yf]
section
variable {P:Program} {C:Ctx} {A A2:Cells} {X:FP} {σ:St} {a:Act} {w w2:World} {F:Nat->FP}
theorem pe (a:Act) (d:Nat) (v:Value) (i:Nat):tmp (a.put (some d) v) i=if d=i/\i < a.tmps.size then v else tmp a i:=by
 simp only[tmp,Act.put,Array.getD_eq_getD_getElem?,Array.getElem?_setIfInBounds];grind
theorem yq {tv:Value} {s:Slot} {G:FP} {R:Pl} (h:dn P A σ a w tv s G) (hR:ei w tv s=some R) :
  ∃ (m:Md) (v:R.t.den) (F1:FP),au P w A R.t m R.H v R.cs F1/\(∀ b i,F1 b i<=G b i) /\
   (∀ b o,R.ad=some (b,o)->Has w b o R.cs/\(∀ x i,d8 b o R.t.sz x i+F1 x i<=G x i)/\∀ j,j < R.t.sz->w.frozen? ⟨b,o+j,none⟩=false) /\
   ((∃ v',s=.own R.t m R.H v'/\HEq v v'/\R.ad=none)\/(∃ v',s=.box R.t m R.H v'/\HEq v v'/\R.ad.isSome=true)):=by
 cases s with
 | own t m H v=>
  simp only[ei,aQ] at hR;subst hR;obtain ⟨cs,h1,h2⟩:=h;refine ⟨m,v,G,?_,λ_ _=>aI _,(λb o h=>by cases h),.inl ⟨v,rfl,HEq.rfl,rfl⟩⟩
  grind [lV,au.length,au.one]
 | box t m H v=>
  obtain ⟨b,o,L,F1,h1,h2,h3,h4,h5,h6⟩:=h;grind [ei,fy]
 | _=>simp[ei] at hR
theorem yr {tv:Value} {s:Slot} {G:FP} {R:Pl} (h:dn P A σ a w tv s G) (hc:∀ b i,1<=G b i->∀ u,ce w b i=some u->ce w2 b i=some u)
  (hR:ei w tv s=some R):ei w2 tv s=some R:=by
 cases s with
 | own t m H v=>exact hR
 | box t m H v=>
  obtain ⟨b,o,L,F1,h1,h2,h3,h4,h5,h6⟩:=h;subst h1;simp only[ei,aQ] at hR ⊢
  have:Has w2 b o L:=λj u hu=>hc _ _ (by
   grind [d8]) u (h3 j u hu)
  grind [fy]
 | _=>simp[ei] at hR
theorem xj {σ':St} {a':Act} {r:Nat} {p:Path} {G:FP} {pl:Pl} (h:dn P A σ a w (tmp a r) (σ.get r) G) (hg:σ'.get r=σ.get r) (ht:tmp a' r=tmp a r)
  (hA:∀ b i,A b i->∀ u,ce w b i=some u->ce w2 b i=some u) (hc:∀ b i,1<=G b i->∀ u,ce w b i=some u->ce w2 b i=some u)
  (hp:place σ a w r p=some pl):place σ' a' w2 r p=some pl:=by
 unfold place at hp ⊢;rw[hg,ht];cases hR:ei w (tmp a r) (σ.get r) <;> grind [yr,yq,xV]
theorem mN {σ:St} {i:Nat} (h:¬ i < σ.n):σ.get i=.dead:=by simp[St.get,h]
theorem uY {r:Nat} {p:Path} {pl:Pl} (h:place σ a w r p=some pl):r < σ.n:=by
 grind [place,mN,ei]
theorem Rel.put (h:Rel P C A X σ a w F) {d:Nat} (hd:d < σ.n) {s:Slot} {v:Value} {Fd X':FP} (hs:dn P A σ a w v s Fd) (ht:∀ b i,X' b i+Fd b i<=X b i+F d b i)
  (ZX:∀ t m H v',s=.box t m H v'->∃ b,v=.pointer (some ⟨b,0,none⟩)/\jf w b (t.sz,false)) :
  Rel P C A X' (σ.put d s) (a.put (some d) v) w (gv F d Fd):=by
 have ol:=h.size
 have oE:zy σ a w (σ.put d s) (a.put (some d) v) w:=by
  intro r p snap hb;rw[Bz,St.ok,Bz];by_cases hr:d=r
  ·subst hr;simp only[aH];refine ⟨hb.trans (uC _),λbd=>?_⟩
   have h0:=If (h.mD d) hb bd;exact ⟨(HN hb (uC _) bd).1,λhl=>by omega⟩
  ·simp only[aV hr];refine ⟨hb,λbd=>⟨bd,λhl pl i7=>⟨pl.H,pl.cs,?_,λ_=>rfl⟩⟩⟩
   exact xj (h.iZ r (uY i7)) (by grind [zA]) (by grind [pe]) (λ_ _ _ _ h=>h) (λ_ _ _ _ h=>h) i7
 have yt:∀ b i,X' b i+bi σ.n (gv F d Fd) b i<=X b i+bi σ.n F b i:=λb i=>by
  grind [uX]
 refine ⟨by simp[Act.put,ol,St.put],by simpa [Act.put] using h.defers,λi hi=>?_,?_,λb i=>bH (yt b i) (h.qe b i),λb i hp=>h.qS b i (bH hp (yt b i)),
  λb i hp=>h.ld b i (hp.imp (λhp=>bH hp (yt b i)) id),λi=>?_,h.ext,λb i hp=>h.own b i (bH hp (yt b i)),h.a0,h.a1,?_,?_,?_,h.yp⟩
 ·have hi:i < σ.n:=hi;rw[zA,pe,ol];by_cases ZY:d=i
  ·subst ZY;rw[aM ⟨rfl,hi⟩,aM ⟨rfl,hi⟩];simp only[gv,aH];exact dn.nx oE (λ_ _ h=>h) (λ_ _ _ _ h=>h) (λ_ _ h=>h) (λ_ _ _=>⟨λ_ h=>h,rfl⟩) hs
  ·rw[aV (λh=>ZY h.1),aV (λh=>ZY h.1)];simp only[gv,aV (λh:i=d=>ZY h.symm)];exact dn.nx oE (λ_ _ h=>h) (λ_ _ _ _ h=>h) (λ_ _ h=>h) (λ_ _ _=>⟨λ_ h=>h,rfl⟩) (h.iZ i hi)
 ·intro d' r p snap hm;obtain ⟨hm,lU⟩:=Oj hm;rw[pe,aV (λh=>lU h.1.symm)];exact sA.nx oE (h.gh d' r p snap hm)
 ·rw[Bz];split
  ·rw[Gh];exact h.mD d
  ·exact h.mD i
 ·intro j k hm;obtain ⟨hm,lU⟩:=Ba hm;rw[pe,aV (λh=>lU h.1.symm)];exact h.pu j k hm
 ·intro r t m H v' hg hl;rw[zA] at hg;rw[pe,ol];by_cases JN:d=r/\r < σ.n
  ·grind
  ·rw[aV JN] at hg ⊢;refine h.whole r t m H v' hg λk hm=>hl k (JQ hm λe=>JN ⟨e.symm,?_⟩);grind
 ·intro j k hm R hR;obtain ⟨hm,lU⟩:=Ba hm;rw[pe,aV (λh=>lU h.1.symm),zA,aV (λh=>lU h.1.symm)] at hR;exact h.om j k hm R hR
theorem Rel.less (h:Rel P C A X σ a w F) {X':FP} (ht:∀ b i,X' b i<=X b i):Rel P C A X' σ a w F:=
 { h with
  qe:=λb i=>by have:=h.qe b i;grind
  qS:=λb i hp=>h.qS b i (by grind)
  ld:=λb i hp=>h.ld b i (hp.imp (λhp=>by grind) id)
  own:=λb i hp=>h.own b i (by grind) }
theorem Ext.refl (w:World) (F:FP):Ext w w F:=⟨aI _,λ_ _ _ _ _ h=>h,λ_ _ h=>h,λ_ _ _=>rfl,rfl,rfl,rfl,λ_ _ _=>rfl,aI _⟩
theorem Ext.mono {F F':FP} (h:Ext w w2 F) (hF:∀ b i,F' b i=0->F b i=0):Ext w w2 F':={ h with cell:=λb i hb hz=>h.cell b i hb (hF b i hz),obj:=λb hb hz=>h.obj b hb λi=>hF b i (hz i) }
theorem Ext.trans {w3:World} {F G:FP} (h:Ext w w2 F) (h2:Ext w2 w3 G) (hG:∀ b i,b < w.heap.size->F b i=0->G b i=0):Ext w w3 F:=
 ⟨bH h.size h2.size,λb i hb hz u hu=>h2.cell b i (cO hb h.size) (hG b i hb hz) u (h.cell b i hb hz u hu),λb n hn=>h2.xT b n (h.xT b n hn),
  λb i hb=>(h2.AK b i (cO hb h.size)).trans (h.AK b i hb),h2.os.trans h.os,h2.tape.trans h.tape,h2.output.trans h.output,
  λb hb hz=>(h2.obj b (cO hb h.size) λi=>hG b i hb (hz i)).trans (h.obj b hb hz),bH h.drawn h2.drawn⟩
theorem Rel.chg (h:Rel P C A X σ a w F) {r:Nat} (hr:r < σ.n) {σ':St} (hn:σ'.n=σ.n) (yu:∀ i,i≠r->σ'.get i=σ.get i) (abJ:∀ i,i≠r->σ'.lA i=σ.lA i)
  (hvr:Below (σ.lA r) (σ'.lA r)) (Sk:(σ'.lA r).length=5) (Ev:∀ e,e ∈ σ'.ay->e ∈ σ.ay) (abK:∀ j k,(j,k,false) ∈ σ.ay->(j,k,false) ∈ σ'.ay) (ZZ:∀ e,e ∈ σ'.gh->e ∈ σ.gh)
  {X2 V1:FP} {R:Pl} {H2:List Path} {d9:List Value} (hs:dn P A2 σ' a w2 (tmp a r) (σ'.get r) V1) (hR:ei w (tmp a r) (σ.get r)=some R)
  (hR2:ei w2 (tmp a r) (σ'.get r)=some ⟨R.t,H2,d9,R.ad⟩)
  (dt:∀ (p:Path) (snap:List Nat),Below snap (σ.lA r)->σ'.ok r snap=true->(snap.length=min 5 (1+ej p)\/snap.length=min 5 (2+ej p)\/snap.length=5) ->
   ∃ D full,ej p<=D/\(snap.length=min 5 (2+ej p)->ej p < D\/full)/\(snap.length=5->full)/\sW D full w R.t R.H R.cs R.ad w2 H2 d9)
  (hA:∀ b i,A b i->A2 b i) (hA2:∀ b i,A2 b i->A b i\/(1<=X b i+F r b i/\X2 b i+V1 b i=0))
  (hx:∀ b i,X2 b i+V1 b i<=X b i+F r b i) (hw:Ext w w2 λb i=>X b i+F r b i) (abL:∀ t m H v,σ'.get r=.box t m H v->∃ m0 H0 v0,σ.get r=.box t m0 H0 v0) (BU:∀ k,(r,k,true) ∈ σ'.ay->d9=R.cs) :
  Rel P C A2 X2 σ' a w2 (gv F r V1):=by
 have hle:∀ b i,X b i+F r b i<=X b i+bi σ.n F b i:=λb i=>by grind [dy]
 have uA:∀ b i,A b i->∀ u,ce w b i=some u->ce w2 b i=some u:=λb i ha u hu=>by
  refine hw.cell b i (h.ld b i (.inr ha)) ?_ u hu;rcases bI (X b i+F r b i) with h0 | h0
  ·exact h0
  ·exact absurd ha (h.qS b i (bH h0 (hle b i)))
 have Gl:∀ j,j < σ.n->j≠r->∀ b i,1<=F j b i->(∀ u,ce w b i=some u->ce w2 b i=some u)/\w2.frozen? ⟨b,i,none⟩=w.frozen? ⟨b,i,none⟩:=λj hj V2 b i hp=>by
  have h1:=v_ F hj hr V2 b i;have h2:=h.qe b i;have hb:=h.ld b i (.inl (by grind));exact ⟨λu hu=>hw.cell b i hb (by grind) u hu,hw.AK b i hb⟩
 have oE:zy σ a w σ' a w2:=by
  intro r' p snap hb;by_cases Z0:r'=r
  ·subst Z0;refine ⟨hb.trans hvr,λbd=>?_⟩
   refine ⟨(HN hb hvr bd).1,λhl pl i7=>?_⟩
   obtain ⟨D,full,h1,h2,h3,h4⟩:=dt p snap hb bd hl;unfold place at i7 ⊢;rw[hR] at i7;rw[hR2];obtain ⟨H',co,h5,h6⟩:=h4 p pl h1 i7;grind
  ·rw[St.ok,abJ r' Z0];refine ⟨hb,λbd=>⟨bd,λhl pl i7=>⟨pl.H,pl.cs,?_,λ_=>rfl⟩⟩⟩
   have a8:=uY i7;exact xj (h.iZ r' a8) (yu r' Z0) rfl uA (λb i hp=>(Gl r' a8 Z0 b i hp).1) i7
 have yt:∀ b i,X2 b i+bi σ.n (gv F r V1) b i<=X b i+bi σ.n F b i:=λb i=>by
  grind [uX]
 refine ⟨by rw[hn];exact h.size,h.defers,λi hi=>?_,λd r' p snap hm=>sA.nx oE (h.gh d r' p snap (ZZ _ hm)),λb i=>by rw[hn];exact bH (yt b i) (h.qe b i),λb i hp ha=>?_,
  λb i hp=>?_,λi=>?_,h.ext.trans hw λb i hb hz=>?_,λb i hp=>by rw[hn] at hp;exact h.own b i (bH hp (yt b i)),λb i ha=>hA b i (h.a0 b i ha),λb i ha=>?_,
  λj k hm=>h.pu j k (Ev _ hm),λr' t m H v hg hl=>?_,λj k hm R' qf=>?_,h.yp⟩
 ·rw[hn] at hi;by_cases Sl:i=r
  ·grind [gv]
  ·simp only[gv,aV Sl];rw[yu i Sl];exact dn.nx oE hA uA hw.xT (Gl i hi Sl) (h.iZ i hi)
 ·rw[hn] at hp
  rcases hA2 b i ha with ha | ⟨h1,h2⟩
  ·exact h.qS b i (bH hp (yt b i)) ha
  ·have h3:=h.qe b i;grind [uX]
 ·rw[hn] at hp;refine cO (h.ld b i ?_) hw.size;grind
 ·by_cases Sl:i=r
  ·grind
  ·rw[abJ i Sl];exact h.mD i
 ·rcases bI (X b i+F r b i) with h0 | h0
  ·exact h0
  ·have:=h.own b i (bH h0 (hle b i));omega
 ·rcases hA2 b i ha with ha | ⟨h1,_⟩
  ·exact h.a1 b i ha
  ·exact .inr (h.own b i (bH h1 (hle b i)))
 ·have:∃ m0 H0 v0,σ.get r'=.box t m0 H0 v0:=by
   grind
  obtain ⟨m0,H0,v0,hg0⟩:=this;obtain ⟨b,h1,h2⟩:=h.whole r' t m0 H0 v0 hg0 λk hm=>hl k (abK _ _ hm);exact ⟨b,h1,hw.xT _ _ h2⟩
 ·by_cases V2:j=r
  ·subst V2;rw[hR2] at qf;injection qf with qf;subst qf;show dm R.t d9=_;rw[BU k hm];exact h.om j k (Ev _ hm) R hR
  ·rcases cK j σ.n with hj | hj
   ·rw[yu j V2] at qf;have mF:=h.iZ j hj
    cases A4:ei w (tmp a j) (σ.get j) with
    | none=>exfalso;cases hg:σ.get j <;> rw[hg] at A4 qf <;> simp only[ei] at A4 qf <;> first | grind | grind | grind
    | some R0=>
     rw[yr mF (λb i hp=>(Gl j hj V2 b i hp).1) A4] at qf;injection qf with qf;subst qf;exact h.om j k (Ev _ hm) _ A4
   ·rw[mN (by rw[hn];omega)] at qf;cases qf
end
end OT
set_option linter.unusedVariables false
set_option linter.unusedSimpArgs false
namespace OT
open Go
def lC (ad:Option (Nat×Nat)) (n:Nat):FP:=λb i=>match ad with
 | some (b',o)=>d8 b' o n b i
 | none=>0
section
variable {P:Program} {C:Ctx} {A:Cells} {X:FP} {σ:St} {a:Act} {w:World} {F:Nat->FP} {R:Type} {x:R}
theorem JT {r:Nat} {K:(t:Ty)->Md->List Path->t.den->Option R} (h:yg σ r K=some x) :
  r < σ.n/\∃ t m H v,(σ.get r=.own t m H v\/σ.get r=.box t m H v)/\K t m H v=some x:=by
 grind [yg,mN]
structure abM (P:Program) (A:Cells) (σ:St) (a:Act) (w:World) (r:Nat) (G:FP) (t:Ty) (m:Md) (H:List Path) (v:t.den) (cs:List Value) (ad:Option (Nat×Nat)) (F1:FP):Prop where
 root:ei w (tmp a r) (σ.get r)=some ⟨t,H,cs,ad⟩
 rep:au P w A t m H v cs F1
 le:∀ b i,lC ad t.sz b i+F1 b i<=G b i
 has:∀ b o,ad=some (b,o)->Has w b o cs
 AK:∀ b o,ad=some (b,o)->∀ j,j < t.sz->w.frozen? ⟨b,o+j,none⟩=false
 val:ad=none->tmp a r=dm t cs/\σ.get r=.own t m H v
 ptr:∀ b o,ad=some (b,o)->tmp a r=.pointer (some ⟨b,o,none⟩)/\σ.get r=.box t m H v
theorem dn.root {r:Nat} {G:FP} (h:dn P A σ a w (tmp a r) (σ.get r) G) {t:Ty} {m:Md} {H:List Path} {v:t.den} (hg:σ.get r=.own t m H v\/σ.get r=.box t m H v) :
  ∃ cs ad F1,abM P A σ a w r G t m H v cs ad F1:=by
 rcases hg with hg | hg
 ·rw[hg] at h;obtain ⟨cs,h1,h2⟩:=h;refine ⟨cs,none,G,by grind [ei,lV,au.length,au.one],h2,λb i=>by simp[lC],(λb o h=>by cases h),(λb o h=>by cases h),λ_=>⟨h1,hg⟩,(λb o h=>by cases h)⟩
 ·rw[hg] at h;obtain ⟨b,o,L,F1,h1,h2,h3,h4,h5,h6⟩:=h;refine ⟨L,some (b,o),F1,by grind [ei,fy],h6,λb i=>h5 b i,?_,?_,(λh=>by cases h),?_⟩
  all_goals grind
theorem lZ (h:Rel P C A X σ a w F) {r:Nat} {p:Path} {K:(t:Ty)->Md->List Path->t.den->Option R} (hk:qy σ r p K=some x) :
  r < σ.n/\∃ (t':Ty) (m':Md) (H':List Path) (v':t'.den) (co:List Value) (dr:Option (Nat×Nat)) (F':FP),K t' m' H' v'=some x/\(∀ {S:Type} (K0:(t:Ty)->Md->List Path->t.den->Option S),qy σ r p K0=K0 t' m' H' v')/\place σ a w r p=some ⟨t',H',co,dr⟩/\au P w A t' m' H' v' co F' /\
   (∀ b i,F' b i<=F r b i)/\(∀ b o,dr=some (b,o)->Has w b o co):=by
 obtain ⟨hr,t,m,H,v,hg,hk⟩:=JT hk;obtain ⟨cs,ad,F1,RO⟩:=(h.iZ r hr).root hg;obtain ⟨t',m',H',v',co,dr,F',h1,hn,h2,h3,h4,h5,_⟩:=abE p t hk RO.rep (ad:=ad) RO.has;refine ⟨hr,t',m',H',v',co,dr,F',h1,λK0=>?_,?_,h3,λb i=>by have:=h4 b i;have:=RO.le b i;omega,h5⟩
 ·grind [qy,yg]
 unfold place;rw[RO.root];exact h2
theorem zS (r:Nat) (t:Ty) (m:Md) (H:List Path) (v:t.den) (i:Nat) (h:i≠r):(σ.kO r t m H v).get i=σ.get i:=by
 grind [St.kO,HO]
theorem yw {r:Nat} (hr:r < σ.n) {t t0:Ty} {m m0:Md} {H H0:List Path} {v0:t0.den} (v:t.den) (h:σ.get r=.own t0 m0 H0 v0):(σ.kO r t m H v).get r=.own t m H v:=by
 grind [St.kO,HO]
theorem yx {r:Nat} (hr:r < σ.n) {t t0:Ty} {m m0:Md} {H H0:List Path} {v0:t0.den} (v:t.den) (h:σ.get r=.box t0 m0 H0 v0):(σ.kO r t m H v).get r=.box t m H v:=by
 grind [St.kO,HO]
theorem wg (r:Nat) (t:Ty) (m:Md) (H:List Path) (v:t.den):(σ.kO r t m H v).n=σ.n:=by unfold St.kO;split <;> rfl
theorem sb (r:Nat) (t:Ty) (m:Md) (H:List Path) (v:t.den) (i:Nat):(σ.kO r t m H v).lA i=σ.lA i:=by unfold St.kO;split <;> rfl
theorem yy (r:Nat) (t:Ty) (m:Md) (H:List Path) (v:t.den):(σ.kO r t m H v).ay=σ.ay:=by unfold St.kO;split <;> rfl
theorem Ew (r:Nat) (t:Ty) (m:Md) (H:List Path) (v:t.den):(σ.kO r t m H v).gh=σ.gh:=by unfold St.kO;split <;> rfl
def rT (σ σ':St):Prop:=∀ (w:World) (tv:Value) (i:Nat) (R:Pl),ei w tv (σ'.get i)=some R->∃ H,ei w tv (σ.get i)=some ⟨R.t,H,R.cs,R.ad⟩
theorem rT.refl (σ:St):rT σ σ:=λw tv i R h=>⟨R.H,h⟩
theorem rT.trans {σ σ' zB:St} (h:rT σ σ') (h':rT σ' zB):rT σ zB:=by
 intro w tv i R0 hR;obtain ⟨H,h1⟩:=h' w tv i R0 hR;exact h w tv i ⟨R0.t,H,R0.cs,R0.ad⟩ h1
theorem AL {r:Nat} (hr:r < σ.n) {t:Ty} {m m0:Md} {H H0:List Path} {v0:t.den} (v:t.den) (h:σ.get r=.own t m0 H0 v0\/σ.get r=.box t m0 H0 v0) {σ':St} (hg:∀ i,σ'.get i=(σ.kO r t m H v).get i):rT σ σ':=by
 intro w tv i R hR;rw[hg] at hR;by_cases hi:i=r
 ·subst hi;rcases h with h | h
  ·grind [yw,ei]
  ·rw[yx hr v h] at hR;rw[h];simp only[ei] at hR ⊢;grind
 ·rw[zS r t m H v i hi] at hR;exact ⟨R.H,hR⟩
structure Yg (σ:St) (r:Nat) (s:Slot) (abN:Prop) (σ':St):Prop where
 n:σ'.n=σ.n
 get:∀ i,i≠r->σ'.get i=σ.get i
 root:σ'.get r=s
 lA:∀ i,i≠r->σ'.lA i=σ.lA i
 below:Below (σ.lA r) (σ'.lA r)
 mD:(σ'.lA r).length=5
 ay:∀ e,e ∈ σ'.ay->e ∈ σ.ay
 Z1:∀ j k,(j,k,false) ∈ σ.ay->(j,k,false) ∈ σ'.ay
 gh:∀ e,e ∈ σ'.gh->e ∈ σ.gh
 head:∀ k,(r,k,true) ∈ σ'.ay->abN
theorem Rel.AM (h:Rel P C A X σ a w F) {r:Nat} {p:Path} {f:(t':Ty)->Md->List Path->t'.den->(Md->List Path->t'.den->Option R)->Option R}
  {Kf:(t:Ty)->Md->List Path->t.den->Option R} (hk:yg σ r (λt0 m0 H0 v0=>sv p t0 m0 H0 v0 f λm' H' v'=>Kf t0 m' H' v')=some x) :
  r < σ.n/\∃ (t':Ty) (m':Md) (H':List Path) (v':t'.den) (co:List Value) (dr:Option (Nat×Nat)) (F':FP) (kk:Md->List Path->t'.den->Option R),
   f t' m' H' v' kk=some x/\(∀ {S:Type} (K0:(t:Ty)->Md->List Path->t.den->Option S),qy σ r p K0=K0 t' m' H' v')/\place σ a w r p=some ⟨t',H',co,dr⟩/\au P w A t' m' H' v' co F' /\
   (∀ b i,lC dr t'.sz b i+F' b i<=F r b i)/\(∀ b o,dr=some (b,o)->Has w b o co)/\(∀ b o,dr=some (b,o)->∀ j,j < t'.sz->w.frozen? ⟨b,o+j,none⟩=false) /\
   ∀ m2 H2 (v2:t'.den),kk m2 H2 v2=some x->∀ (w2:World) (A2:Cells) (d9:List Value) (F2 X2:FP),
    Ext w w2 (λb i=>X b i+(F' b i+lC dr t'.sz b i))->(∀ b i,A b i->A2 b i)->(∀ b i,A2 b i->A b i\/(1<=X b i+F' b i/\X2 b i+F2 b i=0)) ->
    (∀ b i,X2 b i+F2 b i<=X b i+F' b i)->(∀ b o,dr=some (b,o)->Has w2 b o d9)->(dr=none->d9=co)->au P w2 A2 t' m2 H2 v2 d9 F2 ->
    ∃ (t0:Ty) (m3:Md) (H3:List Path) (v3:t0.den) (Fr:FP) (A3:Cells),Kf t0 m3 H3 v3=some x/\(∃ (m0:Md) (H0:List Path) (v0:t0.den),σ.get r=.own t0 m0 H0 v0\/σ.get r=.box t0 m0 H0 v0)/\(∀ b i,A2 b i->A3 b i)/\(∀ b i,Fr b i<=F r b i+X b i) /\
     ∀ σ',Yg σ r ((σ.kO r t0 m3 H3 v3).get r) (1<=ej p\/d9=co) σ' ->
      (∀ (p':Path) (snap:List Nat),Below snap (σ.lA r)->σ'.ok r snap=true->(snap.length=min 5 (1+ej p')\/snap.length=min 5 (2+ej p')\/snap.length=5) ->
       ∃ D full,ej p'<=D+ej p/\(snap.length=min 5 (2+ej p')->ej p' < D+ej p\/full)/\(snap.length=5->full)/\sW D full w t' H' co dr w2 H2 d9) ->
      Rel P C A3 X2 σ' a w2 (gv F r Fr):=by
 obtain ⟨hr,t,m,H,v,hg,hk⟩:=JT hk;obtain ⟨cs,ad,F1,RO⟩:=(h.iZ r hr).root hg;have Ig:∀ b i,X b i+F r b i<=1:=λb i=>by have:=h.qe b i;grind [dy]
 have zx:∀ b o,ad=some (b,o)->∀ j,j < t.sz->F1 b (o+j)=0:=λb o e j hj=>by
  have h1:=RO.le b (o+j);grind [lC,d8]
 obtain ⟨t',m',H',v',co,dr,F',G,kk,loc,M⟩:=abF p t hk RO.rep (λb i=>by have:=Ig b i;have:=RO.le b i;omega) RO.has zx;have hlen:=au.length t RO.rep
 have Ol:∀ b i,lC dr t'.sz b i+F' b i<=F r b i/\(1<=lC dr t'.sz b i->1<=G b i\/1<=lC ad t.sz b i)/\lC dr t'.sz b i<=1:=λb i=>by
  have h1:=M.sum b i;have h2:=RO.le b i;have h3:=Ig b i
  cases lN:dr with
  | none=>grind [lC]
  | some bo=>
   obtain ⟨b0,o0⟩:=bo;simp only[lC,d8];split
   ·rename_i gw;obtain ⟨rfl,aeL,TR⟩:=gw
    cases loc with
    | none=>
     obtain ⟨b',o',e1,e2⟩:=M.out rfl;rw[lN] at e1;simp only[aQ,bJ] at e1;obtain ⟨rfl,rfl⟩:=e1;have:=(e2 (i - o0) Bys).1;grind
    | some off=>
     obtain ⟨e1,e2,e3⟩:=M.vA off rfl;grind [iQ,d8,lC]
   ·omega
 refine ⟨hr,t',m',H',v',co,dr,F',kk,M.run,λK0=>?_,by unfold place;rw[RO.root];exact M.place,M.rep,λb i=>(Ol b i).1,M.has,λb o e j hj=>?_,?_⟩
 ·unfold qy yg;rcases hg with hg | hg <;> rw[hg] <;> exact M.VV K0
 ·cases loc with
  | none=>
   obtain ⟨b',o',e1,e2⟩:=M.out rfl;grind
  | some off=>
   obtain ⟨e1,e2,e3⟩:=M.vA off rfl
   cases BV:ad with
   | none=>rw[e,BV] at e3;cases e3
   | some y=>
    rw[e,BV] at e3;simp only[iQ,bN,aQ,bJ] at e3;obtain ⟨rfl,rfl⟩:=e3;have:=RO.AK y.1 y.2 BV (off+j) Bys;grind
 intro m2 H2 v2 Om w2 A2 d9 F2 X2 f_ hA hA2 hX w_ JP HP;have zp:=au.length t' HP
 have uA:∀ b i,A b i->∀ u,ce w b i=some u->ce w2 b i=some u:=λb i ha u hu=>by
  refine f_.cell b i (h.ld b i (.inr ha)) ?_ u hu;have h1:=(Ol b i).1;have h2:=dy F hr b i;have h3:=h.qS b i;grind
 have hGc:∀ b i,1<=G b i\/1<=lC ad t.sz b i->(∀ o,dr=some (b,o)->¬ (o<=i/\i < o+t'.sz))->∀ u,ce w b i=some u->ce w2 b i=some u:=λb i hp hn u hu=>by
  have h1:=Ol b i;have h2:=Ig b i;have h3:=M.sum b i;have h4:=RO.le b i
  refine f_.cell b i (h.ld b i (.inl (by grind [dy]))) ?_ u hu;show X b i+(F' b i+lC dr t'.sz b i)=0
  have h5:lC dr t'.sz b i=0:=by
   cases lN:dr <;> grind [lC,d8]
  omega
 have acO:∀ b i,F2 b i+G b i<=1:=λb i=>by
  have:=hX b i;have:=M.sum b i;have:=RO.le b i;grind
 obtain ⟨m3,H3,v3,F3,k1,k2,k3,k4⟩:=M.back m2 H2 v2 Om w2 A2 d9 F2 f_.xT hA uA (λb i hp hn=>hGc b i (.inl hp) hn) w_ HP acO
 have abO:(lS loc cs t'.sz d9).length=t.sz:=by
  cases loc with
  | none=>exact hlen
  | some off=>have:=(M.vA off rfl).1;grind [lS,wG]
 have A9:d9=co->lS loc cs t'.sz d9=cs:=λe=>by
  cases loc with
  | none=>rfl
  | some off=>
   obtain ⟨e1,e2,_⟩:=M.vA off rfl;rw[e,e2];exact BQ Bys
 have TS:∀ b o,ad=some (b,o)->Has w2 b o (lS loc cs t'.sz d9):=λb o e=>by
  have cells:∀ j u,cs[j]?=some u->(∀ o',dr=some (b,o')->¬ (o'<=o+j/\o+j < o'+t'.sz))->ce w2 b (o+j)=some u:=λj u hu hn=>by
   have hj:j < t.sz:=hlen ▸ (aP.1 hu).1;exact hGc b (o+j) (.inr (by grind [lC,d8])) hn u (RO.has b o e j u hu)
  cases On:loc with
  | none=>
   intro j u hu;refine cells j u hu λo' he gw=>?_;have hj:j < t.sz:=hlen ▸ (aP.1 hu).1;obtain ⟨b',o'',e1,e2⟩:=M.out On;rw[he] at e1;simp only[aQ,bJ] at e1;obtain ⟨rfl,rfl⟩:=e1;have h1:=(e2 (o+j - o') Bys).1;rw[show o'+(o+j - o')=o+j by omega] at h1;have h2:=RO.le b (o+j);have h3:=Ig b (o+j);have h4:=M.sum b (o+j)
   grind
  | some off=>
   obtain ⟨e1,e2,e3⟩:=M.vA off On;rw[e] at e3;simp only[iQ,bN] at e3
   exact Si Bys zp (w_ b (o+off) e3) (λj u hu hn=>cells j u hu λo' he gw=>by
    grind)
 refine ⟨t,m3,H3,v3,λb i=>lC ad t.sz b i+F3 b i,λb i=>A2 b i\/(1<=F2 b i+G b i/\F3 b i=0),k1,⟨m,H,v,hg⟩,λ_ _ h=>.inl h,λb i=>?_,λσ' on dt=>?_⟩
 ·have h1:=k2 b i;have h2:=hX b i;have h3:=M.sum b i;have h4:=RO.le b i
  grind
 have TT:=k3 (λb i=>A2 b i\/(1<=F2 b i+G b i/\F3 b i=0)) (λ_ _ h=>.inl h) (λb i h1 h2=>.inr ⟨h1,h2⟩)
 have NH:dn P (λb i=>A2 b i\/(1<=F2 b i+G b i/\F3 b i=0)) σ' a w2 (tmp a r) (σ'.get r) (λb i=>lC ad t.sz b i+F3 b i)/\ei w2 (tmp a r) (σ'.get r)=some ⟨t,H3,lS loc cs t'.sz d9,ad⟩:=by
  rw[on.root]
  cases BV:ad with
  | none=>
   obtain ⟨e1,e2⟩:=RO.val BV
   have e3:lS loc cs t'.sz d9=cs:=by
    cases On:loc with
    | none=>rfl
    | some off=>
     have:=(M.vA off On).2.2;rw[BV] at this;rw[<-On];exact A9 (JP this)
   rw[yw hr v3 e2];rw[e3] at TT ⊢;exact ⟨⟨cs,e1,au.le TT (λb i=>by grind)⟩,by grind [ei,lV,au.one]⟩
  | some bo=>
   obtain ⟨b,o⟩:=bo;obtain ⟨e1,e2⟩:=RO.ptr b o BV;rw[yx hr v3 e2,e1];have hh:=TS b o BV;refine ⟨⟨b,o,_,F3,rfl,abO,hh,λj hj=>?_,λb' i=>?_,TT⟩,by grind [ei,fy]⟩
   ·have hb:b < w.heap.size:=h.ld b (o+j) (.inl (by
     have h1:=RO.le b (o+j);grind [dy,lC,d8]))
    rw[f_.AK b (o+j) hb];exact RO.AK b o BV j hj
   ·exact aI _
 refine h.chg hr on.n on.get on.lA on.below on.mD on.ay on.Z1 on.gh NH.1 RO.root NH.2 (λp' snap h1 h2 h3=>?_) (λb i ha=>.inl (hA b i ha)) (λb i ha=>?_) (λb i=>?_) (f_.mono λb i hz=>?_) (λt5 m5 H5 v5 hg5=>?_) (λk hm=>?_)
 ·grind
 ·have h1:=hX b i;have h2:=k2 b i;have h3:=M.sum b i;have h4:=RO.le b i;grind
 ·have h1:=hX b i;have h2:=k2 b i;have h3:=M.sum b i;have h4:=RO.le b i
  grind
 ·grind
 ·rw[on.root] at hg5;grind [yw,yx]
 ·rcases on.head k hm with hp | he
  ·rw[M.TO hp];rfl
  grind
end
end OT
set_option linter.unusedVariables false
set_option linter.unusedSimpArgs false
namespace OT
open Go
theorem au.Z2 {P:Program} {w:World} {A:Cells}:∀ (t:Ty) {m:Md} {H:List Path} {v:t.den} {cs:List Value} {F:FP},au P w A t m H v cs F->au P w A t m (vI t) v cs (λ_ _=>0):=by
 intro t
 induction t with
 | pair a b nz nr=>
  intro m H v cs F h;obtain ⟨_,F1,F2,hs,h1,h2⟩:=h;refine ⟨by grind [vI,tU,sx],λ_ _=>0,λ_ _=>0,λ_ _=>aI _,?_,?_⟩
  all_goals grind [vI,vy,wb,wc,vz]
 | aa e ih=>
  intro m H v cs F h;have h1:=au.length _ h;have h2:=au.one _ h
  match cs,h1 with
  | [y],_=>grind [au,vI,hole]
 | ptr e ih=>
  intro m H v cs F h;have h1:=au.length _ h;have h2:=au.one _ h
  match cs,h1 with
  | [y],_=>grind [au,vI,hole]
 | arr n e ih=>intro m H v cs F h;rw[vI,h.2.1];obtain ⟨rfl,h⟩:=h;exact ⟨rfl,h⟩
 | map k v=>
  intro m H v cs F h;have h1:=au.length _ h;have h2:=au.one _ h
  match cs,h1 with
  | [y],_=>grind [au,vI,hole]
 | _=>intro m H v cs F h;exact h
section
variable {P:Program} {C:Ctx} {A:Cells} {X:FP} {σ:St} {a:Act} {w:World} {F:Nat->FP} {R:Type} {x:R}
structure At (σ:St) (r:Nat) (p:Path) (t:Ty) (m:Md) (H:List Path) (v:t.den):Prop where
 eq:∀ {S:Type} (K0:(t:Ty)->Md->List Path->t.den->Option S),qy σ r p K0=K0 t m H v
theorem At.inj {r:Nat} {p:Path} {t t':Ty} {m m':Md} {H H':List Path} {v:t.den} {v':t'.den} (h:At σ r p t m H v) (h':At σ r p t' m' H' v'):t=t'/\m=m'/\H=H'/\HEq v v':=by
 have h1:=h.eq (λt m H v=>some (⟨t,m,H,v⟩:(t:Ty)×Md×List Path×t.den));rw[h'.eq] at h1;grind
theorem JU (σ:St) (r d:Nat):(σ.head r d).n=σ.n:=by unfold St.head;split <;> rfl
theorem BW (σ:St) (r d i:Nat):(σ.head r d).get i=σ.get i:=by unfold St.head;split <;> rfl
theorem BX (σ:St) (r d i:Nat):(σ.head r d).lA i=σ.lA i:=by unfold St.head;split <;> rfl
theorem Sm (σ:St) (r d:Nat):(σ.head r d).gh=σ.gh:=by unfold St.head;split <;> rfl
theorem Oo {r d:Nat} {f:List Nat->List Nat} (h1:Below (σ.lA r) (f (σ.lA r))) (h2:(f (σ.lA r)).length=5) {t:Ty} {m:Md} {H:List Path} {v:t.den} {q:Prop} (hq:1<=d->q) :
  Yg σ r ((σ.kO r t m H v).get r) q (((σ.kO r t m H v).nq r f).head r d) where
 n:=by rw[JU];exact wg r t m H v
 get i hi:=by rw[BW];exact zS r t m H v i hi
 root:=by rw[BW];rfl
 lA i hi:=by grind [BX,rS,sb]
 below:=by grind [BX,rS,sb]
 mD:=by grind [BX,rS,sb]
 ay e he:=by
  unfold St.head at he;grind [JR,St.nq,yy]
 Z1 j k hm:=by
  unfold St.head;grind [TQ,St.nq,yy]
 gh e he:=by grind [Sm,St.nq,Ew]
 head k hm:=by
  unfold St.head at hm;split at hm
  ·exact absurd ⟨rfl,rfl⟩ (JR hm).2
  grind
theorem Oq (h:Rel P C A X σ a w F) {r:Nat} {p:Path} {K:St->Option R} (hk:A8 σ r p K=some x) {t':Ty} {m':Md} {H':List Path} {v':t'.den} (hn:At σ r p t' m' H' v') :
  ∃ (A':Cells) (σ':St) (F':Nat->FP) (cs:List Value) (ad:Option (Nat×Nat)) (Fv:FP),K σ'=some x/\(∀ b i,A b i->A' b i)/\Rel P C A' (λb i=>X b i+Fv b i) σ' a w F'/\σ'.n=σ.n/\rT σ σ' /\
   place σ a w r p=some ⟨t',H',cs,ad⟩/\au P w A t' m' H' v' cs Fv/\∀ b i,Fv b i<=F r b i:=by
 obtain ⟨hr,t1,m1,H1,v1,cs,ad,Fv,kk,h1,h2,h3,h4,h5,h6,h7,h8⟩:=h.AM hk;obtain ⟨e1,e2,e3,e4⟩:=hn.inj ⟨h2⟩;subst e1;subst e2;subst e3;have e4:=fW e4;subst e4;obtain ⟨t0,m3,H3,v3,Fr,A3,k1,⟨m0,H0,v0,k0⟩,k2,k3,k4⟩:=h8 _ _ _ h1 w A cs (λ_ _=>0) (λb i=>X b i+Fv b i) (Ext.refl _ _) (λ_ _ h=>h) (λ_ _ h=>.inl h) (λb i=>aI _) h6 (λ_=>rfl) (au.Z2 _ h4);refine ⟨A3,_,_,cs,ad,Fv,k1,k2,k4 _ (Oo (we _ (h.mD r)) (Eu _ (h.mD r)) .inl) (λp' snap hb bd hl=>?_),?_,AL hr v3 k0 (λi=>by rw[BW];rfl),h3,h4,λb i=>by grind⟩
 ·refine ⟨0,False,?_,?_,?_,sW.zero (A:=A) ad (au.Z2 _ h4)⟩
  all_goals
   unfold St.ok at bd;rw[BX,rS,aM rfl,sb] at bd;have:=Gk (ej p) (h.mD r) hb bd
  all_goals omega
 ·rw[JU];exact wg _ _ _ _ _
theorem Ly (h:Rel P C A X σ a w F) {r:Nat} {p:Path} {K:St->Option R} (hk:A8 σ r p K=some x) {t':Ty} {m':Md} {v':t'.den} (hn:At σ r p t' m' [] v') :
  ∃ (A':Cells) (σ':St) (F':Nat->FP) (cs:List Value) (ad:Option (Nat×Nat)) (Fv:FP),K σ'=some x/\(∀ b i,A b i->A' b i)/\Rel P C A' (λb i=>X b i+Fv b i) σ' a w F'/\σ'.n=σ.n/\rT σ σ' /\
   place σ a w r p=some ⟨t',[],cs,ad⟩/\au P w A t' m' [] v' cs Fv:=
 have ⟨A',σ',F',cs,ad,Fv,h1,h2,h3,h4,h5,h6,h7,_⟩:=Oq h hk hn
 ⟨A',σ',F',cs,ad,Fv,h1,h2,h3,h4,h5,h6,h7⟩
theorem Mu {r:Nat} (hv:(σ.lA r).length=5) {t:Ty} {m:Md} {H:List Path} {v:t.den} {q:Prop} (hq:q):Yg σ r ((σ.kO r t m H v).get r) q (σ.kO r t m H v):=
 ⟨wg _ _ _ _ _,λi hi=>zS _ _ _ _ _ i hi,rfl,λi _=>sb _ _ _ _ _ i,by rw[sb];exact Below.refl _,by grind [sb],
  λe he=>by grind [yy],λj k hm=>by grind [yy],λe he=>by grind [Ew],λ_ _=>hq⟩
theorem QQ (h:Rel P C A X σ a w F) {r:Nat} {p:Path} {m2:Md} {K:St->Option R} (hk:xR σ r p m2 K=some x) :
  ∃ (A':Cells) (σ':St) (F':Nat->FP),K σ'=some x/\(∀ b i,A b i->A' b i)/\Rel P C A' X σ' a w F'/\σ'.n=σ.n/\rT σ σ':=by
 obtain ⟨hr,t1,m1,H1,v1,cs,ad,Fv,kk,h1,h2,h3,h4,h5,h6,h7,h8⟩:=h.AM hk;have Ig:∀ b i,X b i+F r b i<=1:=λb i=>by have:=h.qe b i;grind [dy]
 split at h1
 ·rename_i hc;simp only[aD,bC] at hc;obtain ⟨rfl,hc⟩:=hc;obtain ⟨F1,hF1,ja⟩:=au.fits _ hc h4 (λb i=>by grind);have Z3:=ja (λb i=>A b i\/(1<=Fv b i/\F1 b i=0)) (λ_ _ h=>.inl h) (λb i h1 h2=>.inr ⟨h1,h2⟩)
  obtain ⟨t0,m3,H3,v3,Fr,A3,k1,⟨m0,H0,v0,k0⟩,k2,k3,k4⟩:=h8 _ _ _ h1 w (λb i=>A b i\/(1<=Fv b i/\F1 b i=0)) cs F1 X (Ext.refl _ _) (λ_ _ h=>.inl h)
   (λb i ha=>ha.imp id λ⟨h1,h2⟩=>⟨by omega,by grind⟩) (λb i=>by grind) h6 (λ_=>rfl) Z3
  exact ⟨A3,_,_,k1,λb i ha=>k2 b i (.inl ha),k4 _ (Mu (h.mD r) (.inr rfl)) (λp' snap hb bd hl=>⟨ej p'+1,True,by omega,λ_=>.inr trivial,λ_=>trivial,
   sW.same ad h4 (λ_ _ _ _ h=>h) (λ_ _ _ _ h=>h) _ True⟩),wg _ _ _ _ _,AL hr v3 k0 (λi=>rfl)⟩
 ·cases h1
theorem Aj (h:Rel P C A X σ a w F) {r:Nat} {p:Path} {K:St->Option R} (hk:zw σ r p K=some x) :
  ∃ (A':Cells) (σ':St) (F':Nat->FP) (t':Ty) (m':Md) (v':t'.den) (cs:List Value) (ad:Option (Nat×Nat)),K σ'=some x/\(∀ b i,A b i->A' b i)/\Rel P C A' X σ' a w F'/\σ'.n=σ.n/\rT σ σ' /\
   At σ r p t' m' [] v'/\place σ a w r p=some ⟨t',[],cs,ad⟩/\Ro P w A' t' v' cs:=by
 obtain ⟨hr,t1,m1,H1,v1,cs,ad,Fv,kk,h1,h2,h3,h4,h5,h6,h7,h8⟩:=h.AM hk;have Ig:∀ b i,X b i+F r b i<=1:=λb i=>by have:=h.qe b i;grind [dy]
 split at h1
 ·rename_i hc;simp only[aD,bC] at hc;obtain ⟨rfl,hc⟩:=hc;have yz:Ro P w (λb i=>A b i\/1<=Fv b i) t1 v1 cs:=au.ym (λ_ _ h=>.inl h) t1 h4 (λb i hp=>.inr hp)
  obtain ⟨t0,m3,H3,v3,Fr,A3,k1,⟨m0,H0,v0,k0⟩,k2,k3,k4⟩:=h8 _ _ _ h1 w (λb i=>A b i\/1<=Fv b i) cs (λ_ _=>0) X (Ext.refl _ _) (λ_ _ h=>.inl h)
   (λb i ha=>ha.imp id λh1=>⟨by omega,by grind⟩) (λb i=>by omega) h6 (λ_=>rfl) (Ro.rep _ _ (iP _) yz)
  exact ⟨A3,_,_,t1,m1,v1,cs,ad,k1,λb i ha=>k2 b i (.inl ha),k4 _ (Mu (h.mD r) (.inr rfl)) (λp' snap hb bd hl=>⟨ej p'+1,True,by omega,λ_=>.inr trivial,λ_=>trivial,
   sW.same ad h4 (λ_ _ _ _ h=>h) (λ_ _ _ _ h=>h) _ True⟩),wg _ _ _ _ _,AL hr v3 k0 (λi=>rfl),⟨h2⟩,h3,Ro.mono (λ_ _ _ _ h=>h) k2 _ yz⟩
 ·cases h1
theorem di {t t':Ty} {v:t.den} {K:t'.den->Option R} (h:jS t t' v K=some x):∃ e:t=t',K (e ▸ v)=some x:=by
 grind [jS]
theorem DV (h:Rel P C A X σ a w F) {r:Nat} {p:Path} {t:Ty} {m:Md} {v:t.den} {K:St->Option R} (hk:w9 σ r p t m v K=some x) :
  r < σ.n/\∃ (m':Md) (H':List Path) (v':t.den) (cs:List Value) (ad:Option (Nat×Nat)) (F':FP),At σ r p t m' H' v'/\place σ a w r p=some ⟨t,H',cs,ad⟩/\au P w A t m' H' v' cs F' /\
   (∀ b i,lC ad t.sz b i+F' b i<=F r b i)/\(∀ b o,ad=some (b,o)->Has w b o cs/\∀ j,j < t.sz->w.frozen? ⟨b,o+j,none⟩=false) /\
   ∀ (w2:World) (A2:Cells) (d9:List Value) (Fv X2:FP),Ext w w2 (λb i=>X b i+(F' b i+lC ad t.sz b i))->(∀ b i,A b i->A2 b i)->(∀ b i,A2 b i->A b i\/(1<=X b i+F' b i/\X2 b i+Fv b i=0)) ->
    (∀ b i,X2 b i+Fv b i<=X b i+F' b i)->(∀ b o,ad=some (b,o)->Has w2 b o d9)->(ad=none->d9=cs)->au P w2 A2 t m [] v d9 Fv ->
    ∃ (A3:Cells) (σ':St) (Fr:FP),K σ'=some x/\(∀ b i,A2 b i->A3 b i)/\Rel P C A3 X2 σ' a w2 (gv F r Fr)/\σ'.n=σ.n /\
     ∀ g:List Nat->List Nat,Below (σ.lA r) (g (σ.lA r))->(g (σ.lA r)).length=5->d9=cs ->
      (∀ (p':Path) (snap:List Nat),Below snap (σ.lA r)->preB snap (g (σ.lA r))=true->(snap.length=min 5 (1+ej p')\/snap.length=min 5 (2+ej p')\/snap.length=5) ->
       ∃ D full,ej p'<=D+ej p/\(snap.length=min 5 (2+ej p')->ej p' < D+ej p\/full)/\(snap.length=5->full)/\sW D full w t H' cs ad w2 [] d9) ->
      Rel P C A3 X2 { σ' with vr:=(σ.nq r g).vr,ay:=σ.ay } a w2 (gv F r Fr):=by
 obtain ⟨hr,t1,m1,H1,v1,cs,ad,Fv,kk,h1,h2,h3,h4,h5,h6,h7,h8⟩:=h.AM hk;obtain ⟨e,h1⟩:=di h1;subst e;refine ⟨hr,m1,H1,v1,cs,ad,Fv,⟨h2⟩,h3,h4,h5,λb o e=>⟨h6 b o e,h7 b o e⟩,λw2 A2 d9 Fv2 X2 g1 g2 g3 g4 g5 g6 g7=>?_⟩
 obtain ⟨t0,m3,H3,v3,Fr,A3,k1,⟨m0,H0,v0,k0⟩,k2,k3,k4⟩:=h8 m [] v h1 w2 A2 d9 Fv2 X2 g1 g2 g3 g4 g5 g6 g7;refine ⟨A3,_,Fr,k1,k2,k4 _ (Oo ?_ ?_ .inl) (λp' snap hb bd hl=>?_),?_,λg hg1 hg2 sS dt=>?_⟩
 ·split
  ·exact zR (h.mD r)
  ·exact we _ (h.mD r)
 ·split
  ·exact Gj (h.mD r)
  ·exact Eu _ (h.mD r)
 ·unfold St.ok at bd;rw[BX,rS,aM rfl,sb] at bd;by_cases hf:t.flat=true
  ·rw[aM hf] at bd;have:=IZ (h.mD r) hb bd;exact ⟨ej p'+1,False,by omega,λ_=>.inl Bys,λ_=>by omega,sW.flat (A:=A) ad g7 hf _⟩
  ·rw[aV hf] at bd;have:=Gk (ej p) (h.mD r) hb bd;exact ⟨0,False,by omega,λ_=>.inl Bys,λ_=>by omega,sW.zero (A:=A) ad g7⟩
 ·rw[JU];exact wg _ _ _ _ _
 ·refine k4 _ ⟨by rw[JU];exact wg _ _ _ _ _,λi hi=>?_,?_,λi hi=>?_,?_,?_,λe he=>he,λj k hm=>hm,λe he=>?_,λ_ _=>.inr sS⟩ (λp' snap hb bd hl=>dt p' snap hb ?_ hl)
  ·show (((σ.kO r t0 m3 H3 v3).nq r _).head r _).get i=_;rw[BW];exact zS r t0 m3 H3 v3 i hi
  ·show (((σ.kO r t0 m3 H3 v3).nq r _).head r _).get r=_;rw[BW];rfl
  ·show (σ.nq r g).lA i=σ.lA i;grind [rS]
  ·show Below _ ((σ.nq r g).lA r);grind [rS]
  ·show ((σ.nq r g).lA r).length=5;grind [rS]
  ·grind [Sm,St.nq,Ew]
  ·have bd:preB snap ((σ.nq r g).lA r)=true:=bd;grind [rS]
end
end OT
set_option linter.unusedVariables false
set_option linter.unusedSimpArgs false
namespace OT
open Go
section
variable {P:Program} {C:Ctx} {A:Cells} {X:FP} {σ:St} {a:Act} {w:World} {F:Nat->FP} {R:Type} {x:R}
theorem Rel.grow (h:Rel P C A X σ a w F) {w1:World} (hw:Ext w w1 (λ_ _=>0)) {A1:Cells} {X1:FP} (hA:∀ b i,A b i->A1 b i)
  (Ih:∀ b i,A1 b i->A b i\/(w.heap.size<=b/\b < w1.heap.size/\X1 b i=0)) (hX:∀ b i,X1 b i<=X b i\/(w.heap.size<=b/\b < w1.heap.size/\X1 b i<=1)):Rel P C A1 X1 σ a w1 F:=by
 have uA:∀ b i,A b i->∀ u,ce w b i=some u->ce w1 b i=some u:=λb i ha u hu=>hw.cell b i (h.ld b i (.inr ha)) rfl u hu
 have Z4:∀ b i,w.heap.size<=b->bi σ.n F b i=0:=λb i hb=>by
  rcases bI (bi σ.n F b i) with h0 | h0
  ·exact h0
  ·have:=h.ld b i (.inl Bys);omega
 have Gl:∀ j,j < σ.n->∀ b i,1<=F j b i->(∀ u,ce w b i=some u->ce w1 b i=some u)/\w1.frozen? ⟨b,i,none⟩=w.frozen? ⟨b,i,none⟩:=λj hj b i hp=>by
  have hb:=h.ld b i (.inl (by grind [dy]));exact ⟨λu hu=>hw.cell b i hb rfl u hu,hw.AK b i hb⟩
 have oE:zy σ a w σ a w1:=λr p snap hb=>⟨hb,λbd=>⟨bd,λhl pl i7=>⟨pl.H,pl.cs,by
  have a8:=uY i7
  exact xj (h.iZ r a8) rfl rfl uA (λb i hp=>(Gl r a8 b i hp).1) i7,λ_=>rfl⟩⟩⟩
 refine ⟨h.size,h.defers,λi hi=>dn.nx oE hA uA hw.xT (Gl i hi) (h.iZ i hi),λd r p snap hm=>sA.nx oE (h.gh d r p snap hm),λb i=>?_,λb i hp ha=>?_,λb i hp=>?_,
  h.mD,h.ext.trans hw (λ_ _ _ _=>rfl),λb i hp=>?_,λb i ha=>hA b i (h.a0 b i ha),λb i ha=>?_,h.pu,λr t m H v hg hl=>?_,λj k hm R' qf=>?_,h.yp⟩
 ·have h1:=h.qe b i;grind
 ·rcases Ih b i ha with ha | ⟨h1,h2,h3⟩
  ·have a8:=h.ld b i (.inr ha)
   rcases hX b i with h2 | ⟨h2,_⟩
   ·exact h.qS b i Bys ha
   ·omega
  grind
 ·rcases hp with hp | ha
  ·rcases hX b i with h2 | ⟨h2,h3,_⟩
   ·exact cO (h.ld b i (.inl Bys)) hw.size
   ·exact h3
  ·rcases Ih b i ha with ha | ⟨h1,h2,h3⟩
   ·exact cO (h.ld b i (.inr ha)) hw.size
   ·exact h2
 ·rcases hX b i with h2 | ⟨h2,_⟩
  ·exact h.own b i Bys
  ·exact .inr (bH h.ext.size h2)
 ·rcases Ih b i ha with ha | ⟨h1,_⟩
  ·exact h.a1 b i ha
  ·exact .inr (.inr (bH h.ext.size h1))
 ·obtain ⟨b,h1,h2⟩:=h.whole r t m H v hg hl;exact ⟨b,h1,hw.xT _ _ h2⟩
 ·rcases cK j σ.n with hj | hj
  ·have mF:=h.iZ j hj
   cases A4:ei w (tmp a j) (σ.get j) with
   | none=>exfalso;cases hg:σ.get j <;> rw[hg] at A4 qf <;> simp only[ei] at A4 qf <;> first | grind | grind | grind
   | some R0=>
    rw[yr mF (λb i hp=>(Gl j hj b i hp).1) A4] at qf;injection qf with qf;subst qf;exact h.om j k hm _ A4
  ·rw[mN (fK.2 hj)] at qf;cases qf
def d_ (P:Program):Operand->Bool
 | .func f=>(P.funcs[f]?).any (·.nfree == 0)
 | _=>true
theorem gi (h:Rel P C A X σ a w F) {o:Operand} (ho:d_ P o=true):dn P A σ a w (a.eval o) (eh σ o) (λ_ _=>0)\/∃ xs,eh σ o=.sQ xs:=by
 cases o with
 | tmp i=>
  show dn P A σ a w (tmp a i) _ _\/_;rcases cK i σ.n with hi | hi
  ·have hs:=h.iZ i hi;simp only[eh]
   cases hg:σ.get i with
   | own t m H v=>
    rw[hg] at hs;obtain ⟨cs,h1,h2⟩:=hs;left
    have i7:place σ a w i []=some ⟨t,H,cs,none⟩:=by
     grind [place,ei,lV,au.length,au.one,cb]
    have h5:=h.mD i;refine ⟨?_,λ_=>⟨_,i7,h1,?_⟩⟩
    ·unfold wE;split
     ·intro j y hj;grind
     ·intro j y hj;grind
     ·exact Below.refl _
    ·unfold wE;grind [yn]
   | box t m H v=>
    rw[hg] at hs;obtain ⟨b,o,L,F1,h1,h2,h3,h4,h5,h6⟩:=hs;left;have h5':=h.mD i;refine ⟨?_,λ_=>⟨⟨t,H,L,some (b,o)⟩,b,o,?_,rfl,h1,by grind [xS]⟩⟩
    ·unfold xS;intro j y hj;grind
    grind [place,ei,fy,cb]
   | sQ xs=>grind
   | dead=>exact .inl trivial
   | ye=>rw[hg] at hs;exact .inl hs
   | val t v=>rw[hg] at hs;exact .inl hs
   | cp t v=>rw[hg] at hs;exact .inl hs
   | ref r p snap=>rw[hg] at hs;exact .inl hs
   | ptr r p snap=>rw[hg] at hs;exact .inl hs
   | sub r p snap lo hi=>rw[hg] at hs;exact .inl hs
  ·simp only[eh,mN (fK.2 hi)];exact .inl trivial
 | const v=>
  left;show dn P A σ a w v (Ah v) _;unfold Ah;split
  ·split
   ·rename_i hn;exact ⟨[_],rfl,by grind [Ro,qK]⟩
   ·trivial
  ·exact ⟨[_],rfl,rfl⟩
  ·exact ⟨[_],rfl,rfl⟩
  ·exact ⟨[_],rfl,rfl⟩
  ·exact ⟨[_],rfl,rfl⟩
  ·exact ⟨[_],rfl,rfl⟩
  ·exact ⟨[_],rfl,by simp[Ro]⟩
  ·rfl
  ·trivial
 | func f=>
  left;simp only[d_,Option.any_eq_true,iI] at ho;obtain ⟨fn,h1,h2⟩:=ho;exact ⟨[_],rfl,#[],rfl,fn,h1,.inl ⟨h2,rfl⟩⟩
 | global g=>exact .inl trivial
def AO (A:Cells) (σ:St) (F:Nat->FP):Cells:=λb i=>A b i\/1<=bi σ.n F b i
theorem eo (t:Ty) (y:Value) (h:isAgg t=false):dm t [y]=y:=by simp[dm,h]
theorem Ro.piece {e:Ty} {v:List e.den} {xa:Option Addr} {n cap lo hi cap':Nat} {xk:Option Addr} (h:Ro P w A (.aa e) v [.slice xa n cap]) (h1:lo<=hi) (h2:hi<=n) (h3:cap'+lo=cap) (h4:xa=none->xk=none)
  (h5:∀ ad,xa=some ad->∃ dr,xk=some dr/\dr.spot=ad.spot/\dr.block=ad.block/\(lo < hi->dr.off=ad.off+lo*e.sz)) :
  Ro P w A (.aa e) ((v.take hi).drop lo) [.slice xk (hi - lo) cap']:=by
 obtain ⟨a0,adE,g1,g2,g3,g4⟩:=h;simp only[dI,Value.slice.injEq,eF] at g1;obtain ⟨rfl,rfl,rfl⟩:=g1;have hlen:List.length ((v.take hi).drop lo)=hi - lo:=by simp;omega
 refine ⟨xk,cap',by rw[hlen],by grind,λhn=>?_,λdr TN=>?_⟩
 ·rw[hlen];cases V3:xa <;> grind
 ·cases V3:xa <;> grind
def AR (A:Cells) (F:Nat->FP) (rs:List Nat):Cells:=λb i=>A b i\/∃ r ∈ rs,1<=F r b i
theorem Mv (h:Rel P C A X σ a w F) {s:Slot} {tv:Value} {G:FP} (hs:dn P A σ a w tv s G) {t:Ty} {K:t.den->Option R} (hk:uk σ s t K=some x) :
  ∃ (v:t.den) (cs:List Value),K v=some x/\tv=dm t cs/\Ro P w (AR A F (nF s)) t v cs:=by
 have V4:∀ b i,A b i->AR A F (nF s) b i:=λb i ha=>.inl ha;have A9:∀ b i,A b i->∀ u,ce w b i=some u->ce w b i=some u:=λ_ _ _ _ h=>h
 cases s with
 | val t' v=>
  obtain ⟨e,hk⟩:=di hk;subst e;obtain ⟨cs,h1,h2⟩:=hs;grind [Ro.mono]
 | cp t' v=>
  obtain ⟨e,hk⟩:=di hk;subst e;exact ⟨v,[tv],hk,(eo _ _ rfl).symm,Ro.mono A9 V4 _ hs⟩
 | ye=>
  simp only[uk] at hk;split at hk
  ·rename_i t e;have hs:tv=.slice none 0 0:=hs;subst hs;exact ⟨[],_,hk,(eo _ _ rfl).symm,none,0,rfl,aI _,λ_=>rfl,λad lN=>by cases lN⟩
  ·cases hk
 | ref r p snap=>
  simp only[uk] at hk;split at hk
  ·rename_i bd;obtain ⟨hr,t',m',H',v',co,dr,F',h1,h2,h3,h4,h5,h6⟩:=lZ h hk;obtain ⟨pl,g1,g2,g3⟩:=hs.2 bd;rw[h3] at g1;injection g1 with g1;subst g1;split at h1
   ·rename_i hH;have hH:=bC.1 hH;subst hH;obtain ⟨e,h1⟩:=di h1;subst e;exact ⟨v',co,h1,g2,au.ym V4 _ h4 (λb i hp=>.inr ⟨r,bL.2 rfl,by grind⟩)⟩
   ·cases h1
  ·cases hk
 | sub r p snap lo hi=>
  simp only[uk] at hk;split at hk
  ·rename_i bd;obtain ⟨hr,t',m',H',v',co,dr,F',h1,h2,h3,h4,h5,h6⟩:=lZ h hk;obtain ⟨pl,e,xa,n,cap,xk,cap',g1,g2,g3,g4,g5,g6,g7,Sn,g8,g9,g10⟩:=hs.2 bd;rw[h3] at g1;injection g1 with g1;subst g1;simp only at g2 g3;subst g2;subst g3;split at h1
   ·rename_i hH;have hH:=bC.1 hH;subst hH;obtain ⟨e',h1⟩:=di h1;subst e';exact ⟨_,_,h1,by rw[eo _ _ rfl];exact g6,Ro.piece (au.ym V4 _ h4 (λb i hp=>.inr ⟨r,bL.2 rfl,by grind⟩)) g4 g5 g7 g8 g9⟩
   ·cases h1
  ·cases hk
 | ptr r p snap=>
  simp only[uk] at hk;split at hk
  ·rename_i bd;obtain ⟨hr,t',m',H',v',co,dr,F',h1,h2,h3,h4,h5,h6⟩:=lZ h hk;obtain ⟨pl,b,o,g1,g2,g3,g4⟩:=hs.2 bd;rw[h3] at g1;injection g1 with g1;subst g1;split at h1
   ·rename_i hH;have hH:=bC.1 hH;subst hH;obtain ⟨e',h1⟩:=di h1;subst e';simp only at g2;subst g2
    refine ⟨v',[tv],h1,(eo _ _ rfl).symm,⟨b,o,none⟩,by rw[g3],rfl,co,au.length _ h4,λj u hu=>⟨h6 b o rfl j u hu,?_⟩,
     au.ym V4 _ h4 (λb i hp=>.inr ⟨r,bL.2 rfl,by grind⟩)⟩
    have hj:j < t'.sz:=au.length _ h4 ▸ (aP.1 hu).1;unfold place at h3
    cases hR:ei w (tmp a r) (σ.get r) with
    | none=>grind
    | some R0=>
     rw[hR] at h3;obtain ⟨m0,v0,F1,q1,q2,q3,_⟩:=yq (h.iZ r hr) hR
     exact VU V4 p R0.t q1 (λb i hp=>.inr ⟨r,bL.2 rfl,by grind⟩) (λb' o' e' j hj=>.inr ⟨r,bL.2 rfl,by
      grind [d8]⟩) h3 b o rfl j hj
   ·cases h1
  ·cases hk
 | _=>simp[uk] at hk
theorem Gm (h:Rel P C A X σ a w F) {s:Slot} {t:Ty} {K:t.den->Option R} (hk:uk σ s t K=some x):∀ r ∈ nF s,r < σ.n:=by
 intro r hr;cases s <;> simp only[nF,bL,List.not_mem_nil] at hr
 all_goals
  subst hr;simp only[uk] at hk;split at hk
  ·exact (lZ h hk).1
  ·cases hk
theorem So (h:Rel P C A X σ a w F) {s:Slot} {tv:Value} {G:FP} (hs:dn P A σ a w tv s G) {t:Ty} {K:t.den->Option R} (hk:uk σ s t K=some x) :
  ∃ (v:t.den) (cs:List Value),K v=some x/\tv=dm t cs/\Ro P w (AO A σ F) t v cs:=by
 obtain ⟨v,cs,h1,h2,h3⟩:=Mv h hs hk;refine ⟨v,cs,h1,h2,Ro.mono (λ_ _ _ _ h=>h) (λb i ha=>?_) t h3⟩
 rcases ha with ha | ⟨r,hr,hp⟩
 ·exact .inl ha
 ·have:=dy F (Gm h hk r hr) b i;exact .inr Bys
end
end OT
set_option linter.unusedVariables false
set_option linter.unusedSimpArgs false
namespace OT
open Go
section
variable {P:Program} {C:Ctx} {A:Cells} {X:FP} {σ:St} {a:Act} {w:World} {F:Nat->FP} {R:Type} {x:R}
theorem JV {l:List (Nat×Nat×Bool)} {r:Nat} (h:Ei l r=false) (k:Nat):(r,k,false) ∉ l:=by
 induction l with
 | nil=>grind
 | cons y l ih=>
  obtain ⟨k',n,b⟩:=y;simp_all [Ei]
theorem sB (a:Act) (i:Nat):a.put (some i) (tmp a i)=a:=by
 have:a.tmps.setIfInBounds i (tmp a i)=a.tmps:=by
  apply Array.ext
  all_goals simp_all [gH,tmp]
 simp[Act.put,this]
theorem vB (h:Rel P C A X σ a w F) {s:Slot} {tv:Value} {G:FP} (hs:dn P A σ a w tv s G) {mv:Bool} {t:Ty} {K:Md->t.den->St->Option R} (hk:nw σ s mv t K=some x) :
  ∃ (A':Cells) (σ':St) (F':Nat->FP) (m:Md) (v:t.den) (cs:List Value) (Fv:FP),K m v σ'=some x/\(∀ b i,A b i->A' b i)/\Rel P C A' (λb i=>X b i+Fv b i) σ' a w F'/\σ'.n=σ.n/\rT σ σ' /\
   tv=dm t cs/\au P w A' t m [] v cs Fv:=by
 have hz:Rel P C A (λb i=>X b i+0) σ a w F:=h
 cases s with
 | val t' v=>
  simp only[nw] at hk;obtain ⟨e,hk⟩:=di hk;subst e;obtain ⟨cs,h1,h2⟩:=hs;exact ⟨A,σ,F,_,v,cs,λ_ _=>0,hk,λ_ _ h=>h,hz,rfl,rT.refl σ,h1,Ro.rep _ _ (iP _) h2⟩
 | cp t' v=>
  simp only[nw] at hk;obtain ⟨e,hk⟩:=di hk;subst e;exact ⟨A,σ,F,_,v,[tv],λ_ _=>0,hk,λ_ _ h=>h,hz,rfl,rT.refl σ,(eo _ _ rfl).symm,Ro.rep _ _ (iP _) hs⟩
 | ye=>
  simp only[nw] at hk;split at hk
  ·rename_i t e;have hs:tv=.slice none 0 0:=hs;subst hs;refine ⟨A,σ,F,_,_,[.slice none 0 0],λ_ _=>0,hk,λ_ _ h=>h,hz,rfl,rT.refl σ,(eo _ _ rfl).symm,?_⟩
   grind [au,hole,vS,Md.own]
  ·cases hk
 | ref r p snap=>
  simp only[nw] at hk;split at hk
  ·rename_i bd;obtain ⟨hr,t',m',H',v',co,dr,F',h1,h2,h3,h4,h5,h6⟩:=lZ h hk;obtain ⟨pl,g1,g2,g3⟩:=hs.2 bd;rw[h3] at g1;injection g1 with g1;subst g1;split at h1
   ·rename_i hH;have hH:=bC.1 hH;subst hH;obtain ⟨e,h1⟩:=di h1;subst e;split at h1
    ·rename_i hm;subst hm;exact ⟨A,σ,F,_,v',co,λ_ _=>0,h1,λ_ _ h=>h,hz,rfl,rT.refl σ,g2,Ro.rep _ _ (iP _) (au.ro _ (iP _) h4)⟩
    ·split at h1
     ·obtain ⟨A',σ',F2,cs,ad,Fv,k1,k2,k3,k4,kr,k5,k6⟩:=Ly h h1 ⟨h2⟩;rw[h3] at k5;injection k5 with k5;simp only[Pl.mk.injEq,dN] at k5;obtain ⟨rfl,rfl⟩:=k5;exact ⟨A',σ',F2,_,v',co,Fv,k1,k2,k3,k4,kr,g2,au.mono k2 (λ_ _ _ _ h=>h) (λ_ _ h=>h) _ k6 (λ_ _=>aI _) (λ_ _ _ _ h=>h)⟩
     ·obtain ⟨A',σ',F2,t2,m2,v2,cs,ad,k1,k2,k3,k4,kr,k5,k6,k7⟩:=Aj h h1;obtain ⟨e1,e2,e3,e4⟩:=At.inj ⟨h2⟩ k5;subst e1;have e4:=fW e4;subst e4;rw[h3] at k6;injection k6 with k6;simp only[Pl.mk.injEq,dN] at k6;obtain ⟨rfl,rfl⟩:=k6;exact ⟨A',σ',F2,_,v',co,λ_ _=>0,k1,k2,k3,k4,kr,g2,Ro.rep _ _ (iP _) k7⟩
   ·cases h1
  ·cases hk
 | sub r p snap lo hi=>
  simp only[nw] at hk;split at hk
  ·rename_i bd;obtain ⟨hr,t',m',H',v',co,dr,F',h1,h2,h3,h4,h5,h6⟩:=lZ h hk;obtain ⟨pl,e,xa,n,cap,xk,cap',g1,g2,g3,g4,g5,g6,g7,Sn,g8,g9,g10⟩:=hs.2 bd;rw[h3] at g1;injection g1 with g1;subst g1;simp only at g2 g3;subst g2;subst g3;split at h1
   ·rename_i hH;have hH:=bC.1 hH;subst hH;obtain ⟨e',h1⟩:=di h1;subst e';simp only at h1;have BY:tv=dm (.aa e) [.slice xk (hi - lo) cap']:=by rw[eo _ _ rfl];exact g6
    split at h1
    ·rename_i hm;subst hm;exact ⟨A,σ,F,_,_,_,λ_ _=>0,h1,λ_ _ h=>h,hz,rfl,rT.refl σ,BY,Ro.rep _ _ (iP _) (Ro.piece (au.ro _ (iP _) h4) g4 g5 g7 g8 g9)⟩
    ·split at h1
     ·split at h1
      ·rename_i xl;subst xl;obtain ⟨A',σ',F2,cs,ad,Fv,k1,k2,k3,k4,kr,k5,k6⟩:=Ly h h1 ⟨h2⟩;rw[h3] at k5;injection k5 with k5;simp only[Pl.mk.injEq,dN] at k5;obtain ⟨rfl,rfl⟩:=k5;have k6:=au.mono k2 (λ_ _ _ _ h=>h) (λ_ _ h=>h) _ k6 (λ_ _=>aI _) (λ_ _ _ _ h=>h);refine ⟨A',σ',F2,_,_,_,Fv,k1,k2,k3,k4,kr,BY,?_⟩
       have V3:=Sn rfl;subst V3;simp only[eM] at g7;subst g7;simp only[au,hole,bP,aF,aS] at k6 ⊢;split at k6
       ·rename_i jz;rw[aM jz];obtain ⟨a0,adE,q1,q2,q3,q4,q5⟩:=k6;simp only[dI,Value.slice.injEq,eF] at q1;obtain ⟨rfl,rfl,rfl⟩:=q1;have hlen:List.length ((v'.take hi).drop 0)=hi:=by simp;omega
        refine ⟨xk,cap',by rw[hlen];rfl,by grind,q3,q4,λad lN=>?_⟩
        obtain ⟨r1,r2,r3,Fi,r4,r5⟩:=q5 ad lN;refine ⟨r1,r2,r3,Fi,λb i=>?_,λi y hy=>?_⟩
        ·rw[hlen];have:=r4 b i;have:=Mq (List.length v') Fi 0 hi Bys b i
         grind
        simp_all [bT]
       ·rename_i jz;rw[aV jz];exact ⟨trivial,k6.2.1,Ro.piece (cap':=cap') k6.2.2 g4 g5 rfl g8 g9⟩
      ·cases h1
     ·obtain ⟨A',σ',F2,t2,m2,v2,cs,ad,k1,k2,k3,k4,kr,k5,k6,k7⟩:=Aj h h1;obtain ⟨e1,e2,e3,e4⟩:=At.inj ⟨h2⟩ k5;subst e1;have e4:=fW e4;subst e4;rw[h3] at k6;injection k6 with k6;simp only[Pl.mk.injEq,dN] at k6;obtain ⟨rfl,rfl⟩:=k6;exact ⟨A',σ',F2,_,_,_,λ_ _=>0,k1,k2,k3,k4,kr,BY,Ro.rep _ _ (iP _) (Ro.piece k7 g4 g5 g7 g8 g9)⟩
   ·cases h1
  ·cases hk
 | ptr r p snap=>
  cases p with
  | cons s p=>simp[nw] at hk
  | nil=>
   simp only[nw] at hk;split at hk
   ·rename_i bd;split at hk
    ·rename_i t' m' H' v' hg;split at hk
     ·rename_i hc;simp only[aD,bC,cC] at hc;obtain ⟨rfl,hl⟩:=hc;obtain ⟨e,hk⟩:=di hk;subst e
      have hr:r < σ.n:=by
       grind [mN]
      obtain ⟨pl,b,o,g1,g2,g3,g4⟩:=hs.2 bd;have mF:=h.iZ r hr;rw[hg] at mF;obtain ⟨b0,o0,L,F1,q1,q2,q3,q4,q5,q6⟩:=mF;unfold place at g1;rw[hg,q1] at g1;simp only[ei,aA,cb,aQ] at g1;subst g1;simp only[aQ,bJ] at g2;obtain ⟨rfl,rfl⟩:=g2;obtain ⟨b1,w1,w2⟩:=h.whole r t' m' [] v' hg (JV hl);rw[q1] at w1;simp only[Value.pointer.injEq,aQ,Addr.mk.injEq,eF] at w1;obtain ⟨rfl,rfl⟩:=w1;have BZ:=h.put hr (s:=.dead) (v:=tmp a r) (Fd:=λ_ _=>0) (X':=λb i=>X b i+F r b i) trivial (λb i=>by omega) (λt m H v e=>by cases e);rw[sB] at BZ
      refine ⟨A,_,_,_,v',[tv],F r,hk,λ_ _ h=>h,BZ,rfl,(λw tv i R hR=>⟨R.H,by
       rw[zA] at hR;split at hR
       ·cases hR
       ·exact hR⟩),(eo _ _ rfl).symm,?_⟩
      grind [au,hole,Md.own,Md.e]
     ·cases hk
    ·cases hk
   ·cases hk
 | _=>simp[nw] at hk
theorem HQ {t:Ty} {m:Md} {v:t.den} {cs:List Value} {Fv:FP} (h:au P w A t m [] v cs Fv) :
  dn P A σ a w (dm t cs) (laid t m v) Fv/\∀ t' m' H' v',laid t m v=.box t' m' H' v'->∃ b,dm t cs=.pointer (some ⟨b,0,none⟩)/\jf w b (t'.sz,false):=by
 unfold laid;split
 ·rename_i hm;subst hm;exact ⟨⟨cs,rfl,au.ro _ (iP _) h⟩,λt' m' H' v' e=>by cases e⟩
 ·split
  ·rename_i e m' v' _;simp only[au,hole,bP,aF,aS,Md.own,aH,Md.e] at h;obtain ⟨b,rfl,h2,L,F1,h3,h4,h5,h6⟩:=h;rw[eo _ _ rfl];refine ⟨⟨b,0,L,F1,rfl,h3,h4,λj hj=>by rw[bQ];exact h2.frozen hj,h5,h6⟩,λt' m' H' v' e=>?_⟩
   grind
  ·exact ⟨⟨cs,rfl,h⟩,λt' m' H' v' e=>by cases e⟩
theorem Rel.aay (h:Rel P C A X σ a w F) {d:Nat} (hd:σ.n<=d) (s:Slot) (v:Value) {X':FP} (ht:∀ b i,X' b i<=X b i):Rel P C A X' (σ.put d s) (a.put (some d) v) w F:=by
 have ol:=h.size;have ha:a.put (some d) v=a:=by simp[Act.put,Array.setIfInBounds,ol,fK.2 hd]
 rw[ha]
 have yu:∀ i,(σ.put d s).get i=σ.get i:=λi=>by
  grind [zA]
 have oE:zy σ a w (σ.put d s) a w:=by
  intro r p snap hb;rw[Bz,St.ok,Bz];by_cases hr:d=r
  ·subst hr;simp only[aH];refine ⟨hb.trans (uC _),λbd=>?_⟩
   have h0:=If (h.mD d) hb bd;exact ⟨(HN hb (uC _) bd).1,λhl=>by omega⟩
  ·simp only[aV hr];refine ⟨hb,λbd=>⟨bd,λhl pl i7=>⟨pl.H,pl.cs,?_,λ_=>rfl⟩⟩⟩
   simp_all [place]
 refine ⟨h.size,h.defers,λi hi=>?_,?_,λb i=>by have:=h.qe b i;have:=ht b i;show X' b i+bi σ.n F b i<=1;omega,λb i hp=>h.qS b i (by have:=ht b i;have hp:1<=X' b i+bi σ.n F b i:=hp;omega),
  λb i hp=>h.ld b i (hp.imp (λhp=>by have:=ht b i;have hp:1<=X' b i+bi σ.n F b i:=hp;omega) id),λi=>?_,h.ext,λb i hp=>h.own b i (by have:=ht b i;have hp:1<=X' b i+bi σ.n F b i:=hp;omega),h.a0,h.a1,?_,?_,?_,h.yp⟩
 ·rw[yu];exact dn.nx oE (λ_ _ h=>h) (λ_ _ _ _ h=>h) (λ_ _ h=>h) (λ_ _ _=>⟨λ_ h=>h,rfl⟩) (h.iZ i hi)
 ·intro d' r p snap hm;exact sA.nx oE (h.gh d' r p snap (Oj hm).1)
 ·rw[Bz];split
  ·rw[Gh];exact h.mD d
  ·exact h.mD i
 ·intro j k hm;exact h.pu j k (Ba hm).1
 ·intro r t m H v' hg hl;rw[yu] at hg;refine h.whole r t m H v' hg λk hm=>hl k (JQ hm λe=>?_);grind [mN]
 ·intro j k hm R hR;rw[yu] at hR;exact h.om j k (Ba hm).1 R hR
theorem Rel.cq (h:Rel P C A X σ a w F) (d:Option Tmp) {s:Slot} {v:Value} {Fd X':FP} (hs:dn P A σ a w v s Fd) (ht:∀ b i,X' b i+Fd b i<=X b i)
  (ZX:∀ t m H v',s=.box t m H v'->∃ b,v=.pointer (some ⟨b,0,none⟩)/\jf w b (t.sz,false)):∃ F',Rel P C A X' (σ.cq d s) (a.put d v) w F':=by
 cases d with
 | none=>exact ⟨F,h.less λb i=>by grind⟩
 | some d=>
  rcases cK d σ.n with hd | hd
  ·exact ⟨_,h.put hd hs (λb i=>by grind) ZX⟩
  ·exact ⟨_,h.aay hd s v λb i=>by grind⟩
def Gn (P:Program) (C:Ctx) (σ:St) (a:Act) (w:World):Prop:=∃ A F,Rel P C A (λ_ _=>0) σ a w F
end
end OT
set_option linter.unusedVariables false
set_option linter.unusedSimpArgs false
namespace OT
open Go
def zc:Ty->Option (List Value)
 | .int k=>some [.int k 0]
 | .bool=>some [.bool false]
 | .str=>some [.string ⟨#[]⟩]
 | .unit=>some []
 | .pair a b=>match zc a,zc b with
  | some x,some y=>some (x++y)
  | _,_=>none
 | .arr n e=>match zc e with
  | some x=>some (List.replicate n x).flatten
  | none=>none
 | .aa _=>some [.slice none 0 0]
 | _=>none
def veq:Value->Value->Bool
 | .int k n,.int k' n'=>decide (k=k')&&decide (n=n')
 | .bool a,.bool b=>a == b
 | .string s,.string t=>decide (s.data.toList=t.data.toList)
 | .slice none 0 0,.slice none 0 0=>true
 | _,_=>false
def LA:List Value->List Value->Bool
 | [],[]=>true
 | a::x,b::y=>veq a b&&LA x y
 | _,_=>false
theorem abP {a b:Value} (h:veq a b=true):a=b:=by
 unfold veq at h;split at h
 ·grind
 ·grind
 ·rename_i s t;simp only[bF] at h;congr 1;cases s;simp_all
 all_goals grind
theorem Sp:∀ {x y:List Value},LA x y=true->x=y
 | [],[],_=>rfl
 | a::x,b::y,h=>by
  simp only[LA,aD] at h;rw[abP h.1,Sp h.2]
 | [],_::_,h=>by simp[LA] at h
 | _::_,[],h=>by simp[LA] at h
def tn (P:Program) (t:Ty) (i:TypeId):Bool:=
 match P.info? i with
 | some inf=>Nat.beq inf.size t.sz&&Nat.ble inf.bytes 512&&(match inf.zero with
  | some z=>Nat.beq z.cells.size t.sz&&(match zc t with
   | some L=>LA z.cells.toList L
   | none=>true)
  | none=>false)
 | none=>false
def sT (P:Program):Ty->Sum TypeId (List Field)->Bool
 | .int _,.inl _=>true
 | .bool,.inl _=>true
 | .str,.inl _=>true
 | .unit,.inl i=>!P.stoodInHeld i
 | .unit,.inr _=>true
 | .pair a b,.inl i=>!P.stoodInHeld i&&(match P.underlying i with
  | some (.struct fs)=>(match fs.toList with
   | f::r=>f.name != "_" && sT P a (.inl f.type)&&sT P b (.inr r)
   | []=>false)
  | _=>false)
 | .pair a b,.inr (f::r)=>f.name != "_" && sT P a (.inl f.type)&&sT P b (.inr r)
 | .arr _ e,.inl i=>(match P.underlying i with
  | some (.array _ el)=>sT P e (.inl el)
  | _=>false)
 | _,_=>false
def dep:Ty->Nat
 | .arr _ e=>dep e+1
 | .pair a b=>max (dep a+1) (dep b)
 | _=>1
def abQ (P:Program) (k:Ty) (i:TypeId):Bool:=isAgg k&&k.oZ&&k.flat&&sT P k (.inl i)&&Nat.ble (dep k) 9000
def Z5 (P:Program) (v:Ty) (i:TypeId):Bool:=match P.info? i with
 | some inf=>(match inf.zero with
  | some (.agg _)=>isAgg v
  | some _=>!isAgg v
  | none=>false)
 | none=>false
def bn (P:Program):Ty->Sum TypeId (List Field×Nat)->Bool
 | .int k,.inl i=>tn P (.int k) i&&(match P.underlying i with | some (.int k')=>decide (k=k') | _=>false)
 | .bool,.inl i=>tn P .bool i&&(match P.underlying i with | some .bool=>true | _=>false)
 | .str,.inl i=>tn P .str i&&(match P.underlying i with | some .string=>true | _=>false)
 | .unit,.inl i=>tn P .unit i&&(match P.underlying i with | some (.struct fs)=>fs.toList.isEmpty | _=>false)
 | .unit,.inr (fs,_)=>fs.isEmpty
 | .pair a b,.inl i=>tn P (.pair a b) i&&(match P.underlying i with
  | some (.struct fs)=>(match fs.toList with
   | f::r=>Nat.beq f.offset 0&&Nat.ble 1 a.sz&&bn P a (.inl f.type)&&bn P b (.inr (r,a.sz))
   | []=>false)
  | _=>false)
 | .pair a b,.inr (f::r,off)=>Nat.beq f.offset off&&Nat.ble 1 a.sz&&bn P a (.inl f.type)&&bn P b (.inr (r,off+a.sz))
 | .arr n e,.inl i=>tn P (.arr n e) i&&e.flat&&(match P.underlying i with | some (.array n' el)=>Nat.beq n n'&&Nat.ble 1 e.sz&&bn P e (.inl el) | _=>false)
 | .aa e,.inl i=>tn P (.aa e) i&&(match P.underlying i with | some (.slice el)=>Nat.ble 1 e.sz&&bn P e (.inl el) | _=>false)
 | .ptr e,.inl i=>tn P (.ptr e) i&&(match P.underlying i with | some (.pointer el)=>bn P e (.inl el) | _=>false)
 | .fn,.inl i=>tn P .fn i&&(match P.underlying i with | some (.func ..)=>true | _=>false)
 | .map k v,.inl i=>tn P (.map k v) i&&(match P.underlying i with | some (.map ki vi)=>bn P k (.inl ki)&&bn P v (.inl vi)&&abQ P k ki&&Z5 P v vi | _=>false)
 | _,_=>false
section
variable {P:Program} {w:World} {A:Cells}
theorem zT {t:Ty} {i:TypeId} (h:tn P t i=true):∃ inf z,P.info? i=some inf/\inf.size=t.sz/\inf.bytes<=512/\inf.zero=some z/\z.cells.size=t.sz/\∀ L,zc t=some L->z.cells.toList=L:=by
 grind [tn,Nat.beq_eq,Nat.ble_eq,Sp]
theorem lD {t:Ty} {i:TypeId} (h:tn P t i=true):∃ inf,P.info? i=some inf/\inf.size=t.sz/\inf.bytes<=512/\∀ L,zc t=some L->∃ z,inf.zero=some z/\z.cells.toList=L:=by
 grind [zT]
theorem mG {t:Ty} {i:TypeId} (h:bn P t (.inl i)=true):tn P t i=true:=by
 cases t <;> simp only[bn,aD] at h <;> first | exact h.1 | exact h.1.1 | cases h
theorem Bb {t:Ty} {i:TypeId} (h:bn P t (.inl i)=true):∃ d,P.underlying i=some d/\(isAgg t=true->(∃ fs,d=.struct fs)\/∃ n e,d=.array n e)/\(isAgg t=false->(∀ fs,d≠.struct fs)/\∀ n e,d≠.array n e):=by
 cases hd:P.underlying i with
 | none=>cases t <;> simp[bn,hd] at h
 | some d=>
  refine ⟨d,rfl,?_,?_⟩
  ·intro ha;cases t <;> simp only[isAgg] at ha <;> first | cases ha | skip
   all_goals grind [bn]
  ·intro ha;cases t <;> simp only[isAgg] at ha <;> first | cases ha | skip
   all_goals grind [bn]
theorem Gp {t:Ty} {i:TypeId} (h:bn P t (.inl i)=true):(Go.isAgg i).run P w=.ok (isAgg t) w:=by
 obtain ⟨d,h1,h2,h3⟩:=Bb h;unfold Go.isAgg;simp only[Sem.run_bind,run_underlying h1,Result.andThen_ok]
 cases ht:isAgg t with
 | true=>
  rcases h2 ht with ⟨fs,rfl⟩ | ⟨n,e,rfl⟩ <;> rfl
 | false=>
  simp_all
theorem run_sizeOf {t:Ty} {i:TypeId} (h:bn P t (.inl i)=true):(Go.sizeOf i).run P w=.ok t.sz w:=by
 obtain ⟨inf,h1,h2,_⟩:=lD (mG h);simp[Go.sizeOf,typeInfo,h1,h2]
theorem Ot {t:Ty} (h:isAgg t=false):t.sz=1:=by cases t <;> simp_all [isAgg,Ty.sz]
theorem rC (b o n:Nat):(⟨b,o,none⟩:Addr).add n=⟨b,o+n,none⟩:=by grind [Addr.add]
theorem zU {t:Ty} {i:TypeId} (h:bn P t (.inl i)=true) {b o:Nat} {L:List Value} (hL:Has w b o L) (hl:L.length=t.sz) (rU:∀ u ∈ L,u.oneCell'=true):(loadVar i ⟨b,o,none⟩).run P w=.ok (dm t L) w:=by
 unfold loadVar;simp only[Sem.run_bind,Gp h,Result.andThen_ok]
 cases ht:isAgg t with
 | true=>
  have:=run_loadCells_list (P:=P) w ⟨b,o,none⟩ L (λj v hj=>by rw[rC];exact vK (hL j v hj) (rU v (bU hj)));rw[hl] at this;simp only[aH,Sem.run_bind,run_sizeOf h,Result.andThen_ok,this,Sem.run_pure,dm,ht]
 | false=>
  have hs:=Ot ht
  match L,hl with
  | [y],_=>
   have:=vK (hL 0 y rfl) (rU y (by simp));grind [run_load,dm]
  | [],hl=>grind
  | _::_::_,hl=>grind
theorem CU:∀ (t:Ty) {L:List Value} {i:Sum TypeId (List Field×Nat)},zc t=some L->bn P t i=true->au P w A t (aj t) [] t.zero L (λ_ _=>0)/\Ro P w A t t.zero L/\L.length=t.sz:=by
 intro t
 induction t with
 | int k=>intro L i h _;injection h with h;subst h;cases k <;> exact ⟨rfl,rfl,rfl⟩
 | bool=>intro L i h _;injection h with h;subst h;exact ⟨rfl,rfl,rfl⟩
 | str=>intro L i h _;injection h with h;subst h;exact ⟨rfl,rfl,rfl⟩
 | unit=>intro L i h _;injection h with h;subst h;exact ⟨rfl,rfl,rfl⟩
 | pair a b nz nr=>
  intro L i h hl;simp only[zc] at h;split at h
  ·rename_i x y hx hy;injection h with h;subst h
   have:∃ ia ib,bn P a ia=true/\bn P b ib=true:=by
    cases i with
    | inl i=>
     grind [bn]
    | inr fo=>
     obtain ⟨fs,off⟩:=fo;cases fs <;> grind [bn]
   obtain ⟨ia,ib,h1,h2⟩:=this;obtain ⟨ra,oa,la⟩:=nz hx h1;obtain ⟨rb,ob,lb⟩:=nr hy h2;have e1:(x++y).take a.sz=x:=gX la;have e2:(x++y).drop a.sz=y:=gY la;refine ⟨⟨rfl,λ_ _=>0,λ_ _=>0,λ_ _=>aI _,by rw[e1];exact ra,by rw[e2];exact rb⟩,⟨by rw[e1];exact oa,by rw[e2];exact ob⟩,by grind [Ty.sz]⟩
  ·cases h
 | arr n e ih=>
  intro L i h hl;simp only[zc] at h;split at h
  ·rename_i z hz;injection h with h;subst h
   have:e.flat=true/\∃ ie,bn P e ie=true:=by
    grind [bn]
   obtain ⟨hf,ie,he⟩:=this;obtain ⟨re,oe,le⟩:=ih hz he
   have hlen:∀ n,((List.replicate n z).flatten).length=n*e.sz:=λn=>by
    simp_all
   have yz:Ro P w A (.arr n e) (Ty.arr n e).zero ((List.replicate n z).flatten):=by
    refine ⟨hf,by simp[Ty.zero],hlen n,λi x hx=>?_⟩
    have hi:i < n:=by grind [Ty.zero]
    have hx:x=e.zero:=by
     grind [Ty.zero]
    subst hx
    have:(((List.replicate n z).flatten).drop (i*e.sz)).take e.sz=z:=by
     have e1:n=i+(1+(n - i - 1)):=by omega
     rw[e1,<- fS,<- fS,List.flatten_append,List.flatten_append];grind
    grind
   exact ⟨⟨rfl,yz⟩,yz,hlen n⟩
  ·cases h
 | aa e ih=>
  intro L i h _;injection h with h;subst h;refine ⟨?_,⟨none,0,rfl,aI _,λ_=>rfl,λad lN=>by cases lN⟩,rfl⟩
  simp only[au,hole,bP,aF,aS,aj,vS,Md.own,aH];exact ⟨none,0,rfl,aI _,by simp[maxLen],λ_=>rfl,λad lN=>by cases lN⟩
 | ptr e ih=>grind [zc]
 | fn=>grind [zc]
 | map k v=>grind [zc]
theorem AN {t:Ty} {i:TypeId} (h:bn P t (.inl i)=true) {L:List Value} (hz:zc t=some L):∃ z,(zeroValue i).run P w=.ok z w/\z.cells.toList=L:=by
 obtain ⟨inf,h1,h2,_,h3⟩:=lD (mG h);obtain ⟨z,h4,h5⟩:=h3 L hz;simp_all [zeroValue,typeInfo]
end
end OT
