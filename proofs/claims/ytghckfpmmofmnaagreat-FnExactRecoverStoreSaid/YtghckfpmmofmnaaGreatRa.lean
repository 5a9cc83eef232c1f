/- The proof's parts, merged: The pure interpreter of the model s code over owned trees  definitions alone, nothing is claimed here.. No conditions but those that each states. -/
import GoSem.Core.Code
import GoSem.Core.View
import Derived.Laws.IdiomCopy
import Derived.Laws.Cells
import Derived.Laws.AppendOwn
import Derived.Calls
import Derived.Lib.LaidTab
import Derived.Lib.ItoaNum
import Derived.Laws.Entries
import Derived.Laws.NewFold
import Derived.Laws.Sem
namespace OT
open Go
theorem Bys {p:Prop} (h:p:=by omega):p:=h
set_option linter.defProp false
def aA:=@Option.bind_some
def aB:=@List.getElem?_eq_getElem
def aC:=@Int.toNat_natCast
def aD:=@Bool.and_eq_true
def aE:=@cond_false
def aF:=@Bool.false_eq_true
def aG:=@decide_false
def aH:=@Nat.le_refl
def aI:=@decide_true
def aJ:=@if_true
def aK:=@Int.natCast_nonneg
def aL:=@Eq.trans
def aM:=@List.getElem?_eq_some_iff
def aN:=@Bool.not_true
def aO:=@cond_true
def aP:=@List.getElem_mem
def aQ:=@Option.some.injEq
def aR:=@if_pos
def aS:=@if_false
def aU:=@Int.lt_irrefl
def aV:=@if_neg
def aW:=@List.mem_cons_of_mem
def aX:=@Nat.mul_le_mul_right
def aY:=@List.mem_cons
def aZ:=@Nat.zero_le
def bA:=@decide_eq_true
def bB:=@List.mem_cons_self
def bC:=@decide_eq_false
def bD:=@List.isEmpty_iff
def bE:=@Nat.zero_add
def bF:=@List.eq_nil_of_length_eq_zero
def bG:=@Nat.le_trans
def bH:=@List.all_eq_true
def bI:=@List.mem_of_getElem?
def bJ:=@Nat.eq_zero_or_pos
def bK:=@List.getElem?_drop
def bL:=@Prod.mk.injEq
def bM:=@List.length_cons
def bN:=@List.getElem?_take
def bO:=@List.getElem?_append_left
def bP:=@decide_eq_true_eq
def bQ:=@Option.map_some
def bR:=@List.mem_append
def bS:=@Array.getElem?_eq_some_iff
def bT:=@List.any_nil
def bU:=@List.length_append
def bV:=@List.mem_singleton
def bW:=@Nat.add_mul
def bX:=@Nat.lt_of_lt_of_le
def bZ:=@Bool.not_false
def cA:=@List.append_assoc
def cB:=@Nat.add_assoc
def cC:=@List.length_drop
def cD:=@List.mem_range
def cE:=@List.length_set
def cG:=@Nat.lt_or_ge
def cH:=@Bool.not_eq_true'
def cI:=@and_self
def cJ:=@List.nil_append
def cK:=@List.mem_iff_getElem
def cL:=@List.getElem?_append_right
def cM:=@List.isEmpty_nil
def cN:=@congrArg
def cO:=@List.filterMap_append
def cP:=@List.drop_eq_getElem_cons
def cQ:=@List.mem_of_mem_drop
def cR:=@List.append_nil
def cS:=@List.nodup_cons
def cT:=@Nat.eq_of_beq_eq_true
def cU:=@List.length_replicate
def cV:=@Int.eq_ofNat_of_zero_le
def cW:=@List.pairwise_iff_getElem
def cX:=@List.mem_of_find?_eq_some
def cY:=@List.length_nil
def cZ:=@List.length_range
def dA:=@List.take_append_drop
def dB:=@List.drop_drop
def dC:=@List.length_take
def dD:=@List.pairwise_cons
def dE:=@true_and
def dF:=@List.count_pos_iff
def dG:=@List.cons.injEq
def dH:=@List.map_cons
def dI:=@List.mem_flatMap
def dJ:=@Array.getElem?_eq_getElem
def dK:=@List.mem_or_eq_of_mem_set
def dL:=@Nat.ble_eq
def dM:=@List.filterMap_cons
def dN:=@Array.getElem?_toList
def dP:=@Bool.false_or
def dQ:=@Bool.or_eq_true
def dR:=@List.cons_append
def dU:=@List.mem_of_mem_take
def dV:=@Bool.true_and
def dW:=@Nat.succ_mul
def dX:=@Array.getElem?_eq_none
def dY:=@Array.getElem?_append_left
def dZ:=@List.getD_eq_getElem?_getD
def eA:=@List.filterMap_nil
def eB:=@Option.isSome_iff_exists
def eC:=@List.all_cons
def eD:=@List.drop_zero
def eE:=@List.ext_getElem?
def eF:=@not_false_eq_true
def eG:=@and_true
def eH:=@List.findIdx?_eq_some_iff_findIdx_eq
def eI:=@List.getElem_of_mem
def eJ:=@Nat.add_zero
def eK:=@List.drop_of_length_le
def eL:=@List.mem_map
def eM:=@List.take_length
def eN:=@List.drop_take
def eO:=@List.take_take
def eP:=@Nat.beq_eq
def eQ:=@List.foldl_cons
def eR:=@List.getElem?_map
def eS:=@List.getElem?_set
def eU:=@List.size_toArray
def eV:=@Nat.le_of_lt
def eW:=@List.getElem?_cons_zero
def eX:=@List.any_eq_true
def eY:=@List.drop_append_of_le_length
def eZ:=@List.find?_eq_none
def fA:=@Nat.div_lt_iff_lt_mul
def fB:=@List.mem_iff_getElem?
def fD:=@Bool.eq_false_iff
def fE:=@Array.size_append
def fF:=@List.flatMap_cons
def fG:=@not_true_eq_false
def fH:=@List.nodup_append
def fI:=@List.range_eq_range'
def fJ:=@Nat.mul_le_mul
def fK:=@List.filter_cons
def fL:=@Bool.and_self
def fM:=@UInt8.toNat_inj
def fN:=@List.map_append
def fO:=@Nat.not_lt
def fP:=@Option.isSome_none
def fQ:=@Classical.axiomOfChoice
def fR:=@decide_eq_false_iff_not
def fS:=@Nat.sub_mul
def fT:=@List.getElem?_replicate
def fU:=@Bool.or_self
def fV:=@List.nodup_nil
def fW:=@Nat.le_of_eq
def fX:=@List.pairwise_map
def fY:=@List.take_succ_eq_append_getElem
def fZ:=@List.replicate_append_replicate
def gA:=@List.getElem?_eq_none
def gB:=@Array.getElem?_modify
def gC:=@List.singleton_append
def gD:=@eq_of_heq
def gE:=@Array.eq_empty_of_size_eq_zero
def gF:=@List.any_cons
def gG:=@List.take_append_of_le_length
def gH:=@Nat.min_def
def gI:=@Nat.min_eq_left
def gJ:=@List.range_succ
def gK:=@List.find?_some
def gL:=@List.length_map
def gM:=@List.getElem?_range
def gN:=@List.flatMap_append
def gO:=@List.mem_map_of_mem
def gP:=@Array.getElem_setIfInBounds
def gQ:=@List.map_nil
def gR:=@Nat.mul_lt_mul_of_pos_right
def gS:=@List.set_set
def gT:=@BitVec.toNat_ofInt
def gU:=@List.mem_filterMap
def gV:=@List.nodup_iff_pairwise_ne
def gW:=@List.mem_take_iff_getElem
def gX:=@Int.le_refl
def gY:=@List.range'_succ
def gZ:=@List.drop_append
def hJ:=@List.perm_middle
def hU:=@Nat.beq_refl
def iA:=@List.take_left'
def iB:=@List.drop_left'
def iC:=@Option.map_none
def iD:=@Bool.eq_iff_iff
def iE:=@Nat.min_le_left
def iG:=@List.find?_cons
def iH:=@UInt8.toNat_lt
def iI:=@Nat.mul_one
def iJ:=@false_or
def iK:=@List.Perm.refl
def iL:=@Iff.rfl
def iM:=@false_and
inductive Ty where
 | int (k:IntKind)
 | bool
 | str
 | unit
 | pair (a b:Ty)
 | arr (n:Nat) (e:Ty)
 | aa (e:Ty)
 | ptr (e:Ty)
 | fn
 | map (k v:Ty)
 deriving DecidableEq
@[reducible] def D_:IntKind->Type
 | .u8=>UInt8
 | _=>Int
@[reducible] def Ty.den:Ty->Type
 | .int k=>D_ k
 | .bool=>Bool
 | .str=>List UInt8
 | .unit=>Unit
 | .pair a b=>a.den×b.den
 | .arr _ e=>List e.den
 | .aa e=>List e.den
 | .ptr e=>e.den
 | .fn=>Nat×Int
 | .map k v=>List (k.den×v.den)
def Ty.sz:Ty->Nat
 | .unit=>0
 | .pair a b=>a.sz+b.sz
 | .arr n e=>n*e.sz
 | _=>1
def Ty.flat:Ty->Bool
 | .pair a b=>a.flat&&b.flat
 | .arr _ e=>e.flat
 | .aa _ | .ptr _ | .map _ _=>false
 | _=>true
def qR:(k:IntKind)->D_ k->Int
 | .u8,n=>(n.toNat:Int)
 | .i8,n=>n
 | .i16,n=>n
 | .i32,n=>n
 | .i64,n=>n
 | .u16,n=>n
 | .u32,n=>n
 | .u64,n=>n
def Gw:(k:IntKind)->Int->D_ k
 | .u8,n=>UInt8.ofInt n
 | .i8,n=>IntKind.wrap .i8 n
 | .i16,n=>IntKind.wrap .i16 n
 | .i32,n=>IntKind.wrap .i32 n
 | .i64,n=>IntKind.wrap .i64 n
 | .u16,n=>IntKind.wrap .u16 n
 | .u32,n=>IntKind.wrap .u32 n
 | .u64,n=>IntKind.wrap .u64 n
def inI:(k:IntKind)->Int->D_ k
 | .u8,n=>UInt8.ofInt n
 | .i8,n=>n
 | .i16,n=>n
 | .i32,n=>n
 | .i64,n=>n
 | .u16,n=>n
 | .u32,n=>n
 | .u64,n=>n
def Ty.zero:(t:Ty)->t.den
 | .int k=>inI k 0
 | .bool=>false
 | .str=>[]
 | .unit=>()
 | .pair a b=>(a.zero,b.zero)
 | .arr n e=>List.replicate n e.zero
 | .aa _=>[]
 | .ptr e=>e.zero
 | .fn=>(0,0)
 | .map _ _=>[]
def Ty.xn:Ty->Bool
 | .pair a b=>a.xn&&b.xn
 | .arr _ e=>e.xn
 | .ptr _ | .fn | .map _ _=>false
 | _=>true
def Ty.eq:(t:Ty)->t.den->t.den->Bool
 | .int .u8,a,b=>a == b
 | .int .i8,a,b=>decide (a=b)
 | .int .i16,a,b=>decide (a=b)
 | .int .i32,a,b=>decide (a=b)
 | .int .i64,a,b=>decide (a=b)
 | .int .u16,a,b=>decide (a=b)
 | .int .u32,a,b=>decide (a=b)
 | .int .u64,a,b=>decide (a=b)
 | .bool,a,b=>a == b
 | .str,a,b=>decide (a=b)
 | .pair x y,a,b=>x.eq a.1 b.1&&y.eq a.2 b.2
 | .arr _ e,a,b=>(a.zip b).all λp=>e.eq p.1 p.2
 | _,_,_=>true
def Ty.o9:Ty->Bool
 | .int _ | .bool | .str | .unit=>true
 | .pair a b=>a.o9&&b.o9
 | .arr _ e=>e.o9
 | _=>false
def Ty.th:Ty->Bool
 | .pair a b=>a.th&&b.th
 | .arr _ e | .aa e | .ptr e=>e.th
 | .map k v=>k.th&&v.th
 | .fn=>false
 | _=>true
inductive Md where
 | leaf
 | pair (a b:Md)
 | arr (e:Md)
 | aa (own:Bool) (e:Md)
 | ptr (own:Bool) (e:Md)
 deriving DecidableEq
def u0 (own:Bool):Ty->Md
 | .pair a b=>.pair (u0 own a) (u0 own b)
 | .arr _ e=>.arr (u0 own e)
 | .aa e=>.aa own (u0 own e)
 | .ptr e=>.ptr own (u0 own e)
 | .map _ _=>.aa own .leaf
 | _=>.leaf
abbrev an:=u0 false
abbrev aj:=u0 true
def Md.l:Md->Md
 | .pair a _=>a
 | _=>.leaf
def Md.r:Md->Md
 | .pair _ b=>b
 | _=>.leaf
def Md.e:Md->Md
 | .arr e | .aa _ e | .ptr _ e=>e
 | _=>.leaf
def Md.own:Md->Bool
 | .aa o _ | .ptr o _=>o
 | _=>false
def Md.kS:Md->Bool
 | .leaf=>true
 | .pair a b=>a.kS&&b.kS
 | .arr e=>e.kS
 | .aa o e=>!o&&e.kS
 | .ptr o e=>!o&&e.kS
def fits:Md->Md->Bool
 | .leaf,.leaf=>true
 | .pair a b,.pair c d=>fits a c&&fits b d
 | .arr a,.arr b=>fits a b
 | .aa o a,.aa o' b=>(o||!o')&&(o'||b.kS)&&fits a b
 | .ptr o a,.ptr o' b=>(o||!o')&&(o'||b.kS)&&fits a b
 | _,_=>false
inductive Step where
 | fst
 | snd
 | idx (i:Nat)
 | rB (i:Nat)
abbrev Path:=List Step
def eu:Path->Nat
 | []=>0
 | .idx _::p=>eu p+1
 | _::p=>eu p
structure J8 where
 t:Ty
 m:Md
 v:t.den
inductive Slot where
 | dead
 | yF
 | val (t:Ty) (v:t.den)
 | cp (t:Ty) (v:t.den)
 | own (t:Ty) (m:Md) (H:List Path) (v:t.den)
 | box (t:Ty) (m:Md) (H:List Path) (v:t.den)
 | ref (r:Nat) (p:Path) (snap:List Nat)
 | sub (r:Nat) (p:Path) (snap:List Nat) (lo hi:Nat)
 | ptr (r:Nat) (p:Path) (snap:List Nat)
 | s8 (xs:List J8)
structure St where
 n:Nat
 sl:List (Nat×Slot)
 vr:List (Nat×List Nat)
 aT:List (Nat×Nat×Bool)
 gh:List (Nat×Nat×Path×List Nat):=[]
def oF {α:Type}:List (Nat×α)->Nat->Option α
 | [],_=>none
 | (k,x)::l,i=>if Nat.beq k i then some x else oF l i
def St.get (σ:St) (i:Nat):Slot:=if Nat.blt i σ.n then (match oF σ.sl i with | some s=>s | none=>.dead) else .dead
def St.lC (σ:St) (i:Nat):List Nat:=match oF σ.vr i with | some v=>v | none=>[0,0,0,0,0]
def tX:List Nat->List Nat:=λv=>v.map (·+1)
def vG (d:Nat):List Nat->List Nat
 | [b,x,y,z,w]=>match d with
  | 0=>[b,x+1,y,z,w+1]
  | 1=>[b,x,y+1,z,w+1]
  | 2=>[b,x,y,z+1,w+1]
  | _=>[b+1,x,y,z,w+1]
 | v=>tX v
def yG:List Nat->List Nat
 | [b,x,y,z,w]=>[b,x,y,z,w+1]
 | v=>tX v
def St.nv (σ:St) (i:Nat) (f:List Nat->List Nat):St:={ σ with vr:=(i,f (σ.lC i))::σ.vr }
def Cc:List (Nat×Nat×Bool)->Nat->List (Nat×Nat×Bool)
 | [],_=>[]
 | (k,b)::l,i=>if Nat.beq k i then Cc l i else (k,b)::Cc l i
def Oh:List (Nat×Nat×Path×List Nat)->Nat->List (Nat×Nat×Path×List Nat)
 | [],_=>[]
 | (d,x)::l,i=>if Nat.beq d i then Oh l i else (d,x)::Oh l i
def Cd:List (Nat×Nat×Bool)->Nat->List (Nat×Nat×Bool)
 | [],_=>[]
 | (k,n,b)::l,i=>if Nat.beq k i&&b then Cd l i else (k,n,b)::Cd l i
def Ea:List (Nat×Nat×Bool)->Nat->Nat->Bool->Bool
 | [],_,_,_=>false
 | (k,n,b)::l,i,j,c=>(Nat.beq k i&&Nat.beq n j&&(b == c))||Ea l i j c
def EI:List (Nat×Nat×Bool)->Nat->Bool
 | [],_=>false
 | (k,_,b)::l,i=>(Nat.beq k i&&!b)||EI l i
def J9:List (Nat×Nat×Bool)->Nat->Option Nat
 | [],_=>none
 | (k,n,b)::l,i=>if Nat.beq k i&&b then some n else J9 l i
def St.put (σ:St) (i:Nat) (s:Slot):St:={ n:=σ.n,sl:=(i,s)::σ.sl,vr:=(i,tX (σ.lC i))::σ.vr,aT:=Cc σ.aT i,gh:=Oh σ.gh i }
def St.head (σ:St) (r d:Nat):St:=match d with
 | 0=>{ σ with aT:=Cd σ.aT r }
 | _=>σ
def St.mr (σ:St) (i:Nat) (s:Slot):St:={ σ with sl:=(i,s)::σ.sl }
def St.cg (σ:St) (d:Option Tmp) (s:Slot):St:=match d with
 | some i=>σ.put i s
 | none=>σ
def preB:List Nat->List Nat->Bool
 | [],_=>true
 | a::x,b::y=>Nat.beq a b&&preB x y
 | _::_,[]=>false
section
variable {R:Type}
def jR (t t':Ty) (v:t.den) (K:t'.den->Option R):Option R:=
 if h:t=t' then K (h ▸ v) else none
def xw:Path->Option Path
 | .fst::p=>some p
 | _=>none
def xx:Path->Option Path
 | .snd::p=>some p
 | _=>none
def zM (H:List Path) (i:Nat) (K:List Path->Option R):Option R:=
 match H with
 | []=>K []
 | [.idx j::q]=>if i=j then K [q] else none
 | _=>none
def o_:(p:Path)->(t:Ty)->Md->List Path->t.den->((t':Ty)->Md->List Path->t'.den->Option R)->Option R
 | [],t,m,H,v,K=>K t m H v
 | .fst::p,.pair a _,m,H,v,K=>if H.any (·.isEmpty) then none else o_ p a m.l (H.filterMap xw) v.1 K
 | .snd::p,.pair _ b,m,H,v,K=>if H.any (·.isEmpty) then none else o_ p b m.r (H.filterMap xx) v.2 K
 | .idx i::p,.aa e,m,H,v,K=>zM H i λH'=>(v[i]?).bind λx=>o_ p e m.e H' x K
 | .rB i::p,.arr _ e,m,H,v,K=>if H.isEmpty then (v[i]?).bind λx=>o_ p e m.e [] x K else none
 | _,_,_,_,_,_=>none
def sF:(p:Path)->(t:Ty)->Md->List Path->t.den ->
    ((t':Ty)->Md->List Path->t'.den->(Md->List Path->t'.den->Option R)->Option R)->(Md->List Path->t.den->Option R)->Option R
 | [],t,m,H,v,f,K=>f t m H v K
 | .fst::p,.pair a _,m,H,v,f,K=>
  if H.any (·.isEmpty) then none else
  sF p a m.l (H.filterMap xw) v.1 f λm' H' x=>K (.pair m' m.r) (H'.map (.fst::·)++(H.filterMap xx).map (.snd::·)) (x,v.2)
 | .snd::p,.pair _ b,m,H,v,f,K=>
  if H.any (·.isEmpty) then none else
  sF p b m.r (H.filterMap xx) v.2 f λm' H' x=>K (.pair m.l m') ((H.filterMap xw).map (.fst::·)++H'.map (.snd::·)) (v.1,x)
 | .idx i::p,.aa e,m,H,v,f,K=>
  if m.own then
   zM H i λH0=>(v[i]?).bind λx=>
    sF p e m.e H0 x f λm' H' y=>
     if m'=m.e then K (.aa true m.e) (H'.map (.idx i::·)) (v.set i y)
     else if H'.isEmpty then K (.aa true (an e)) [] (v.set i y) else none
  else none
 | .rB i::p,.arr _ e,m,H,v,f,K=>
  if H.isEmpty then (v[i]?).bind λx=>
   sF p e m.e [] x f λ_ H' y=>if H'.isEmpty then K m [] (v.set i y) else none
  else none
 | _,_,_,_,_,_,_=>none
def DS:Path->Ty->Option Ty
 | [],t=>some t
 | .fst::p,.pair a _=>DS p a
 | .snd::p,.pair _ b=>DS p b
 | .idx _::p,.aa e=>DS p e
 | .rB _::p,.arr _ e=>DS p e
 | _,_=>none
def yH (σ:St) (r:Nat) (K:(t:Ty)->Md->List Path->t.den->Option R):Option R:=
 match σ.get r with
 | .own t m H v | .box t m H v=>K t m H v
 | _=>none
def St.kM (σ:St) (r:Nat) (t:Ty) (m:Md) (H:List Path) (v:t.den):St:=
 match σ.get r with
 | .box ..=>σ.mr r (.box t m H v)
 | _=>σ.mr r (.own t m H v)
def St.ok (σ:St) (r:Nat) (snap:List Nat):Bool:=preB snap (σ.lC r)
def qC (σ:St) (r:Nat) (p:Path) (K:(t:Ty)->Md->List Path->t.den->Option R):Option R:=
 yH σ r λt m H v=>o_ p t m H v K
def xo (σ:St) (r:Nat) (p:Path) (t:Ty) (m:Md) (v:t.den) (K:St->Option R):Option R:=
 yH σ r λt0 m0 H0 v0=>
  sF p t0 m0 H0 v0 (λt' _ _ _ k=>jR t t' v λx=>k m [] x) λm' H' v'=>
   K (((σ.kM r t0 m' H' v').nv r (if t.flat then yG else vG (eu p))).head r (eu p))
def vT:Ty->List Path
 | .pair a b=>(vT a).map (.fst::·)++(vT b).map (.snd::·)
 | .aa _ | .ptr _ | .map _ _=>[[]]
 | .arr _ e=>if e.flat then [] else [[]]
 | _=>[]
def Bw (σ:St) (r:Nat) (p:Path) (K:St->Option R):Option R:=
 yH σ r λt0 m0 H0 v0=>
  sF p t0 m0 H0 v0 (λt' m' _ x k=>k m' (vT t') x) λm' H' v'=>
   K (((σ.kM r t0 m' H' v').nv r (vG (eu p))).head r (eu p))
def zN (σ:St) (r:Nat) (p:Path) (K:St->Option R):Option R:=
 yH σ r λt0 m0 H0 v0=>
  sF p t0 m0 H0 v0 (λt' m H x k=>if H.isEmpty&&fits m (an t') then k (an t') [] x else none) λm' H' v'=>
   K (σ.kM r t0 m' H' v')
def yk (σ:St) (r:Nat) (p:Path) (m1:Md) (K:St->Option R):Option R:=
 yH σ r λt0 m0 H0 v0=>
  sF p t0 m0 H0 v0 (λ_ m H x k=>if H.isEmpty&&fits m m1 then k m1 [] x else none) λm' H' v'=>
   K (σ.kM r t0 m' H' v')
def ym (σ:St) (r:Nat) (p:Path):List Nat:=(σ.lC r).take (1+eu p)
def wR (σ:St) (r:Nat) (p:Path) (t:Ty):List Nat:=match t with
 | .aa _ | .map _ _=>(σ.lC r).take (2+eu p)
 | _=>σ.lC r
def AH:Value->Slot
 | .int .u8 n=>if ((UInt8.ofInt n).toNat:Int)=n then .val (.int .u8) (UInt8.ofInt n) else .dead
 | .int .i64 n=>.val (.int .i64) n
 | .int .u64 n=>.val (.int .u64) n
 | .int .u32 n=>.val (.int .u32) n
 | .int .i32 n=>.val (.int .i32) n
 | .bool b=>.val .bool b
 | .string s=>.val .str s.data.toList
 | .slice none 0 0=>.yF
 | _=>.dead
def ep (σ:St):Operand->Slot
 | .tmp i=>match σ.get i with
  | .own t _ _ _=>.ref i [] (wR σ i [] t)
  | .box _ _ _ _=>.ptr i [] (ym σ i [])
  | s=>s
 | .const v=>AH v
 | .func f=>.val .fn (f,0)
 | .global _=>.dead
def nC (σ:St) (s:Slot) (mv:Bool) (t:Ty) (K:Md->t.den->St->Option R):Option R:=
 match s with
 | .val t' v=>jR t' t v λv=>K (an t) v σ
 | .cp t' v=>jR (.ptr t') t v λv=>K (an t) v σ
 | .yF=>match t with
  | .aa e=>K (aj (.aa e)) [] σ
  | _=>none
 | .ref r p snap=>
  if σ.ok r snap then
   qC σ r p λt' m H v=>
    if H.isEmpty then jR t' t v λv=>
     if m=an t then K m v σ
     else if mv then Bw σ r p λσ=>K m v σ
     else zN σ r p λσ=>K (an t) v σ
    else none
  else none
 | .sub r p snap lo hi=>
  if σ.ok r snap then
   qC σ r p λt' m H v=>
    if H.isEmpty then jR t' t v λv=>match t,v with
     | .aa e,v=>
      if m=an (.aa e) then K m ((v.take hi).drop lo) σ
      else if mv then (if lo=0 then Bw σ r p λσ=>K m ((v.take hi).drop lo) σ else none)
      else zN σ r p λσ=>K (an (.aa e)) ((v.take hi).drop lo) σ
     | _,_=>none
    else none
  else none
 | .ptr r [] snap=>
  if σ.ok r snap then
   match σ.get r with
   | .box t' m H v=>if H.isEmpty&&!EI σ.aT r then jR (.ptr t') t v λv=>K (.ptr true m) v (σ.put r .dead) else none
   | _=>none
  else none
 | _=>none
def uo (σ:St) (s:Slot) (t:Ty) (K:t.den->Option R):Option R:=
 match s with
 | .val t' v=>jR t' t v K
 | .cp t' v=>jR (.ptr t') t v K
 | .yF=>match t with
  | .aa _=>K []
  | _=>none
 | .ref r p snap=>
  if σ.ok r snap then qC σ r p λt' _ H v=>if H.isEmpty then jR t' t v K else none
  else none
 | .sub r p snap lo hi=>
  if σ.ok r snap then
   qC σ r p λt' _ H v=>if H.isEmpty then jR t' t v λv=>match t,v with
    | .aa _,v=>K ((v.take hi).drop lo)
    | _,_=>none
   else none
  else none
 | .ptr r p snap=>
  if σ.ok r snap then qC σ r p λt' _ H v=>if H.isEmpty then jR (.ptr t') t v K else none
  else none
 | _=>none
def xX (s:Slot) (K:Int->Option R):Option R:=
 match s with
 | .val (.int k) n=>K (qR k n)
 | _=>none
def J_ (s:Slot) (K:Bool->Option R):Option R:=
 match s with
 | .val .bool b=>K b
 | _=>none
def laid (t:Ty) (m:Md) (v:t.den):Slot:=
 if m=an t then .val t v else
 match t,m,v with
 | .ptr e,.ptr true m',v=>.box e m' [] v
 | t,m,v=>.own t m [] v
end
end OT
namespace OT
open Go
noncomputable section
inductive PM where
 | ro
 | ke (m m':Md)
 | lT (m:Md)
 | tw (m:Md)
 | nK (m:Md)
 | fix (f:Nat)
 deriving DecidableEq
def c9:List Ty->Ty
 | []=>.unit
 | t::ts=>.pair t (c9 ts)
def lP:List (PM×Ty)->List Ty
 | []=>[]
 | (.ke _ _,t)::ps=>t::lP ps
 | (.lT _,t)::ps=>t::lP ps
 | _::ps=>lP ps
structure uQ where
 cap:Bool:=false
 ps:List (PM×Ty)
 rs:List (Ty×Md)
 F:(c9 (ps.map (·.2))).den->Option (c9 (rs.map (·.1)++lP ps)).den
 Eb:(c9 (ps.map (·.2))).den->List Path->Bool:=λ_ H=>H.isEmpty
structure Env where
 TI:Nat->Option Ty
 G:Nat->Option uQ
 fz:List (Nat×Nat×Nat):=[]
 lv:List (Nat×List Nat):=[]
 lx:List (Nat×List Nat):=[]
 lf:List (Nat×List (Nat×Md)):=[]
 od:List (Nat×List Nat):=[]
 ar:List (Nat×List Nat):=[]
 bx:List (Nat×List Nat):=[]
 pd:List (Nat×List Nat):=[]
 er:List (Nat×List (Nat×Nat)):=[]
def YK:List (Nat×Nat×Nat)->Nat->Nat->Nat->Bool
 | [],_,_,_=>false
 | (a,b,c)::l,i,j,k=>(Nat.beq a i&&Nat.beq b j&&Nat.beq c k)||YK l i j k
def b9:Nat:=274877906944
section
variable {R:Type}
def rf (E:Env) (t:Nat) (K:Ty->Option R):Option R:=
 match E.TI t with
 | some t=>K t
 | none=>none
def pa:Nat->Path
 | 0=>[.fst]
 | n+1=>.snd::pa n
def wd:Nat->Ty->Option Ty
 | 0,.pair a _=>some a
 | n+1,.pair _ b=>wd n b
 | _,_=>none
def T6:Nat->(t:Ty)->t.den->((t':Ty)->t'.den->Option R)->Option R
 | 0,.pair a _,v,K=>K a v.1
 | n+1,.pair _ b,v,K=>T6 n b v.2 K
 | _,_,_,_=>none
def Oi (σ:St) (r:Nat):Option Ty:=
 match σ.get r with
 | .own t _ _ _ | .box t _ _ _=>some t
 | _=>none
def Jl (σ:St) (r:Nat) (p:Path):Option Ty:=
 match Oi σ r with
 | some t=>DS p t
 | none=>none
def EJ (E:Env) (σ:St) (T:Nat) (a:Slot) (mv:Bool) (d:Option Tmp) (K:St->Option R):Option R:=
 rf E T λT=>
 match a with
 | .cp t v=>if t=T then K (σ.cg d (.val t v)) else none
 | .ptr r p snap=>
  if σ.ok r snap then
   qC σ r p λt m H v=>
    if t=T then
     if t.flat then (if H.isEmpty then K (σ.cg d (.val t v)) else none)
     else if m=an t then (if H.isEmpty then (match mv with
      | true=>K (σ.cg d (.ref r p (wR σ r p t)))
      | false=>K (σ.cg d (.val t v))) else none)
     else match mv with
      | false=>K (σ.cg d (.ref r p (wR σ r p t)))
      | true=>if H.isEmpty then Bw σ r p λσ=>K (σ.cg d (laid t m v)) else none
    else none
  else none
 | _=>none
def Ka (E:Env) (σ:St) (T:Nat) (a:Operand) (mv fr:Bool) (d:Option Tmp) (K:St->Option R):Option R:=
 match fr with
 | false=>EJ E σ T (ep σ a) mv d K
 | true=>match ep σ a with
  | .ptr r p snap=>if σ.ok r snap then zN σ r p λσ=>EJ E σ T (ep σ a) mv d K else none
  | _=>none
def Oj (E:Env) (σ:St) (T:Nat) (a x:Slot) (mv:Bool) (K:St->Option R):Option R:=
 rf E T λT=>
 match a with
 | .ptr r p snap=>
  if σ.ok r snap then
   if Jl σ r p=some T then nC σ x mv T λm v σ=>xo σ r p T m v K else none
  else none
 | _=>none
def EK (E:Env) (σ:St) (S:Nat) (x:Slot) (j:Nat) (d:Option Tmp) (K:St->Option R):Option R:=
 rf E S λS=>
 match x with
 | .cp t v=>if t=S then T6 j t v λt' v'=>K (σ.cg d (.cp t' v')) else none
 | .ptr r p snap=>if σ.ok r snap then (if Jl σ r p=some S then (if (wd j S).isSome then K (σ.cg d (.ptr r (p++pa j) snap)) else none) else none) else none
 | _=>none
def LM (E:Env) (σ:St) (S:Nat) (x:Slot) (j:Nat) (d:Option Tmp) (K:St->Option R):Option R:=
 rf E S λS=>
 match x with
 | .val t v=>if t=S then T6 j t v λt' v'=>K (σ.cg d (.val t' v')) else none
 | .ref r p snap=>
  if σ.ok r snap then
   if Jl σ r p=some S then
    qC σ r (p++pa j) λt m H v=>
     if t.flat||(m=an t) then (if H.isEmpty then K (σ.cg d (.val t v)) else none)
     else K (σ.cg d (.ref r (p++pa j) (wR σ r (p++pa j) t)))
   else none
  else none
 | _=>none
def Wi (n:Int) (len:Nat) (K:Nat->Option R):Option R:=
 if 0<=n/\n < (len:Int) then K n.toNat else none
def EL (E:Env) (σ:St) (T:Nat) (x ix:Slot) (d:Option Tmp) (K:St->Option R):Option R:=
 rf E T λT=>xX ix λn=>
 match x with
 | .val (.aa e) v=>if T=.aa e then (if 0<=n then (v[n.toNat]?).bind λy=>K (σ.cg d (.cp e y)) else none) else none
 | .cp (.arr m e) v=>if T=.arr m e then (if 0<=n then (v[n.toNat]?).bind λy=>K (σ.cg d (.cp e y)) else none) else none
 | .ref r p snap=>
  if σ.ok r snap then
   qC σ r p λt m H v=>
    if H.any (·.isEmpty) then none else
    if t=T then
     match t,v with
     | .aa e,v=>
      if m.own then Wi n v.length λi=>K (σ.cg d (.ptr r (p++[.idx i]) (ym σ r (p++[.idx i]))))
      else if 0<=n then (v[n.toNat]?).bind λy=>K (σ.cg d (.cp e y)) else none
     | _,_=>none
    else none
  else none
 | .sub r p snap lo hi=>
  if σ.ok r snap then
   qC σ r p λt _ H _=>if H.any (·.isEmpty) then none else if t=T then Wi n (hi - lo) λi=>K (σ.cg d (.ptr r (p++[.idx (lo+i)]) (ym σ r (p++[.idx (lo+i)])))) else none
  else none
 | .ptr r p snap=>
  if σ.ok r snap then
   qC σ r p λt _ _ v=>
    if t=T then
     match t,v with
     | .arr _ _,v=>Wi n v.length λi=>K (σ.cg d (.ptr r (p++[.rB i]) snap))
     | _,_=>none
    else none
  else none
 | _=>none
def Ol (E:Env) (σ:St) (T:Nat) (x ix:Slot) (d:Option Tmp) (K:St->Option R):Option R:=
 rf E T λT=>xX ix λn=>
 match x with
 | .val .str s=>if T=.str then (if 0<=n then (s[n.toNat]?).bind λc=>K (σ.cg d (.val (.int .u8) c)) else none) else none
 | .val (.arr m e) v=>if T=.arr m e then (if 0<=n then (v[n.toNat]?).bind λy=>K (σ.cg d (.val e y)) else none) else none
 | _=>none
def vU (len:Nat) (lo hi:Option Slot) (K:Nat->Nat->Option R):Option R:=
 match lo,hi with
 | none,none=>K 0 len
 | some l,none=>xX l λl=>if 0<=l/\l<=(len:Int) then K l.toNat len else none
 | none,some h=>xX h λh=>if 0<=h/\h<=(len:Int) then K 0 h.toNat else none
 | some l,some h=>xX l λl=>xX h λh=>if 0<=l/\l<=h/\h<=(len:Int) then K l.toNat h.toNat else none
def Om (E:Env) (σ:St) (T:Nat) (x:Slot) (lo hi:Option Slot) (d:Option Tmp) (K:St->Option R):Option R:=
 rf E T λT=>
 match x with
 | .val .str s=>if T=.str then vU s.length lo hi λl h=>K (σ.cg d (.val .str ((s.take h).drop l))) else none
 | .val (.aa e) v=>if T=.aa e then vU v.length lo hi λl h=>K (σ.cg d (.val (.aa e) ((v.take h).drop l))) else none
 | .ref r p snap=>
  if σ.ok r snap then
   qC σ r p λt m H v=>
    if H.any (·.isEmpty) then none else
    if t=T then
     match t,v with
     | .aa e,v=>
      if m.own then vU v.length lo hi λl h=>K (σ.cg d (.sub r p snap l h))
      else vU v.length lo hi λl h=>K (σ.cg d (.val (.aa e) ((v.take h).drop l)))
     | _,_=>none
    else none
  else none
 | .sub r p snap l0 h0=>
  if σ.ok r snap then
   qC σ r p λt _ H _=>if H.any (·.isEmpty) then none else if t=T then vU (h0 - l0) lo hi λl h=>K (σ.cg d (.sub r p snap (l0+l) (l0+h))) else none
  else none
 | _=>none
def YL (E:Env) (σ:St) (t:Nat) (x:Slot) (K:Nat->Option R):Option R:=
 rf E t λT=>
 match T with
 | .str=>match x with
  | .val .str s=>K s.length
  | _=>none
 | .aa _=>match x with
  | .val (.aa _) v=>K v.length
  | .yF=>K 0
  | .ref r p snap=>
   if σ.ok r snap then
    qC σ r p λt _ H v=>if H.any (·.isEmpty) then none else match t,v with
     | .aa _,v=>K v.length
     | _,_=>none
   else none
  | .sub r _ snap lo hi=>if σ.ok r snap then K (hi - lo) else none
  | _=>none
 | _=>none
def Dh (σ:St) (x:Slot) (e:Ty) (mv:Bool) (K:Md->List e.den->St->Option R):Option R:=
 match x with
 | .val .str s=>jR (.aa (.int .u8)) (.aa e) s λs=>K .leaf s σ
 | x=>nC σ x mv (.aa e) λm v σ=>K m.e v σ
def LN (E:Env) (σ:St) (T:Nat) (b:Slot) (x:Operand) (mv tf:Bool) (d:Option Tmp) (K:St->Option R):Option R:=
 rf E T λT=>
 match T with
 | .aa e=>
  match tf&&(e.flat&&e.th) with
  | true=>Dh σ (ep σ x) e false λ_ y _=>nC σ b true (.aa e) λm v σ=>
   if m.own then
    if v.length+y.length<=b9 then K (σ.cg d (.own (.aa e) (.aa true (an e)) [] (v++y))) else none
   else none
  | false=>
  nC σ b true (.aa e) λm v σ=>
   if m.own then
    Dh σ (ep σ x) e mv λme y σ=>
     if v.length+y.length<=b9 then
      K (σ.cg d (.own (.aa e) (.aa true (if me=m.e then me else an e)) [] (v++y)))
     else none
   else none
 | _=>none
def pD {α:Type} (v:List α) (lo n:Nat) (y:List α):List α:=v.take lo++y.take n++v.drop (lo+n)
def T7 (E:Env) (σ:St) (T:Nat) (b:Operand) (x:Slot) (d:Option Tmp) (K:St->Option R):Option R:=
 rf E T λT=>
 match T with
 | .aa e=>
  if e.flat then
   Dh σ x e true λ_ y σ=>
    match ep σ b with
    | .sub r p snap lo hi=>
     if σ.ok r snap then
      qC σ r p λt m H v=>
       if m.own&&H.isEmpty then jR t (.aa e) v λv=>
        xo σ r p (.aa e) m (pD v lo (min y.length (hi - lo)) y) λσ'=>
         K (({ σ' with vr:=(σ.nv r yG).vr,aT:=σ.aT }).cg d (.val (.int .i64) ((min y.length (hi - lo):Nat):Int)))
       else none
     else none
    | .ref r p snap=>
     if σ.ok r snap then
      qC σ r p λt m H v=>
       if m.own&&H.isEmpty then jR t (.aa e) v λv=>
        xo σ r p (.aa e) m (pD v 0 (min y.length v.length) y) λσ'=>
         K (({ σ' with vr:=(σ.nv r yG).vr,aT:=σ.aT }).cg d (.val (.int .i64) ((min y.length v.length:Nat):Int)))
       else none
     else none
    | _=>none
  else none
 | _=>none
def GF:Nat->(t:Ty)->Md->t.den->(t':Ty)->Md->t'.den->(Md->t.den->Option R)->Option R
 | 0,.pair a _,m,v,t',m',x,K=>jR t' a x λx=>K (.pair m' m.r) (x,v.2)
 | n+1,.pair _ b,m,v,t',m',x,K=>GF n b m.r v.2 t' m' x λm'' y=>K (.pair m.l m'') (v.1,y)
 | _,_,_,_,_,_,_,_=>none
def GG (E:Env) (σ:St) (t:Ty) (fz:Nat->Bool):List (Nat×Operand)->Nat->Md->t.den->(Md->t.den->St->Option R)->Option R
 | [],_,m,v,K=>K m v σ
 | (j,x)::ps,n,m,v,K=>
  match wd j t with
  | some t'=>nC σ (ep σ x) (!fz n) t' λm' y σ'=>GF j t m v t' m' y λm v=>GG E σ' t fz ps (n+1) m v K
  | none=>none
def Jm (σ:St) (e:Ty) (fz:Nat->Bool):List (Nat×Operand)->Nat->Md->List e.den->(Md->List e.den->St->Option R)->Option R
 | [],_,m,v,K=>K m v σ
 | (j,x)::ps,n,m,v,K=>
  if Nat.beq j n then
   nC σ (ep σ x) (!fz n) e λm' y σ'=>Jm σ' e fz ps (n+1) (if m'=m then m else an e) (v++[y]) K
  else none
def On (σ:St) (e:Ty) (fz:Nat->Bool):List (Nat×Operand)->Nat->List e.den->(List e.den->St->Option R)->Option R
 | [],_,v,K=>K v σ
 | (j,x)::ps,n,v,K=>
  nC σ (ep σ x) (!fz n) e λ_ y σ'=>if j < v.length then On σ' e fz ps (n+1) (v.set j y) K else none
def Oo (op:BinOp) (k:IntKind) (a b:Int) (K:(t:Ty)->t.den->Option R):Option R:=
 match op with
 | .add=>K (.int k) (Gw k (a+b))
 | .sub=>K (.int k) (Gw k (a - b))
 | .mul=>K (.int k) (Gw k (a*b))
 | .quo=>if b=0 then none else K (.int k) (Gw k (a.tdiv b))
 | .rem=>if b=0 then none else K (.int k) (inI k (a.tmod b))
 | .and=>K (.int k) (Gw k ((BitVec.ofInt k.bits a &&& BitVec.ofInt k.bits b).toNat:Int))
 | .or=>K (.int k) (Gw k ((BitVec.ofInt k.bits a ||| BitVec.ofInt k.bits b).toNat:Int))
 | .xor=>K (.int k) (Gw k ((BitVec.ofInt k.bits a ^^^ BitVec.ofInt k.bits b).toNat:Int))
 | .shl=>if b < 0 then none else K (.int k) (Gw k (a*2 ^ (min b.toNat k.bits)))
 | .shr=>if b < 0 then none else K (.int k) (inI k (a.fdiv (2 ^ (min b.toNat k.bits))))
 | .eql=>K .bool (decide (a=b))
 | .neq=>K .bool (!decide (a=b))
 | .lss=>K .bool (decide (a < b))
 | .leq=>K .bool (decide (a<=b))
 | .gtr=>K .bool (decide (b < a))
 | .geq=>K .bool (decide (b<=a))
 | _=>none
def YM (op:BinOp) (a b:List UInt8) (K:(t:Ty)->t.den->Option R):Option R:=
 match op with
 | .add=>if a.length+b.length<=b9 then K .str (a++b) else none
 | .eql=>K .bool (decide (a=b))
 | .neq=>K .bool (!decide (a=b))
 | _=>none
def both (a b:Option R):Option R:=open Classical in if a=b then a else none
def Ce {α:Type} (v:List α) (a b:Option R):Option R:=match v with
 | []=>both a b
 | _::_=>b
def ab_ {α:Type} (op:BinOp) (v:List α) (K:(t:Ty)->t.den->Option R):Option R:=match op with
 | .eql=>Ce v (K .bool true) (K .bool false)
 | .neq=>Ce v (K .bool false) (K .bool true)
 | _=>none
def Oq (E:Env) (tid:Nat) (op:BinOp) (x y:Slot) (K:(t:Ty)->t.den->Option R):Option R:=
 match x,y with
 | .val (.int k) a,.val (.int k') b=>
  match op with
  | .shl | .shr=>Oo op k (qR k a) (qR k' b) K
  | _=>if k=k' then Oo op k (qR k a) (qR k' b) K else none
 | .val .str a,.val .str b=>YM op a b K
 | .val t a,.val t' b=>
  match op with
  | .eql=>if t.o9 then rf E tid λT=>if T=t then jR t' t b λb=>K .bool (t.eq a b) else none else none
  | .neq=>if t.o9 then rf E tid λT=>if T=t then jR t' t b λb=>K .bool (!t.eq a b) else none else none
  | _=>none
 | .val (.aa e) v,.yF=>rf E tid λT=>if T=.aa e then ab_ op v K else none
 | _,_=>none
def EM (E:Env) (σ:St) (S T:Nat) (x:Slot) (d:Option Tmp) (K:St->Option R):Option R:=
 rf E S λS=>rf E T λT=>
 match T with
 | .int k=>match x with
  | .val (.int k') n=>if S=.int k' then K (σ.cg d (.val (.int k) (Gw k (qR k' n)))) else none
  | _=>none
 | .str=>match S with
  | .str=>match x with
   | .val .str s=>K (σ.cg d (.val .str s))
   | _=>none
  | .aa (.int .u8)=>uo σ x (.aa (.int .u8)) λv=>K (σ.cg d (.val .str v))
  | _=>none
 | .aa (.int .u8)=>match x with
  | .val .str s=>if S=.str then (if s.length<=b9 then K (σ.cg d (.own (.aa (.int .u8)) (aj (.aa (.int .u8))) [] s)) else none) else none
  | _=>none
 | _=>none
def Ot (σ:St) (s:Slot) (t:Ty) (K:t.den->Option R):Option R:=
 match s with
 | .val t' v=>jR t' t v K
 | .cp t' v=>jR (.ptr t') t v K
 | .yF=>match t with
  | .aa _=>K []
  | _=>none
 | .ref r p snap=>
  if σ.ok r snap then qC σ r p λt' m H v=>if H.isEmpty&&(t'.flat||decide (m=an t')) then jR t' t v K else none
  else none
 | .sub r p snap lo hi=>
  if σ.ok r snap then
   qC σ r p λt' m H v=>if H.isEmpty&&decide (m=an t') then jR t' t v λv=>match t,v with
    | .aa _,v=>K ((v.take hi).drop lo)
    | _,_=>none
   else none
  else none
 | _=>none
def Cf (σ:St) (ow:Bool) (pm:PM) (t:Ty) (s:Slot) (K:t.den->Option (Nat×Path)->Option R):Option R:=
 match pm with
 | .ro=>match ow with
  | true=>uo σ s t λv=>K v none
  | false=>Ot σ s t λv=>K v none
 | .fix f=>match s with
  | .val .fn v=>if Nat.beq v.1 f then jR .fn t v λv=>K v none else none
  | _=>none
 | .ke m _=>match s with
  | .ptr r p snap=>
   if σ.ok r snap then qC σ r p λt' m' H v=>if H.isEmpty&&decide (m'=m) then jR t' t v λv=>K v (some (r,p)) else none
   else none
  | _=>none
 | .tw m=>match s with
  | .ptr r p snap=>
   if σ.ok r snap then qC σ r p λt' m' H v=>if H.isEmpty&&decide (m'=m) then jR t' t v λv=>K v (some (r,p)) else none
   else none
  | _=>none
 | .lT m=>match s with
  | .ref r p snap=>
   if σ.ok r snap then qC σ r p λt' m' H v=>if H.isEmpty&&decide (m'=m) then jR t' t v λv=>K v (some (r,p)) else none
   else none
  | _=>none
 | .nK m=>match s with
  | .ref r p snap=>
   if σ.ok r snap then qC σ r p λt' m' _ v=>if m'=m then jR t' t v λv=>K v (some (r,p)) else none
   else none
  | _=>none
def nL:Slot->List Nat
 | .ref r _ _ | .sub r _ _ _ _ | .ptr r _ _=>[r]
 | _=>[]
def NY (σ:St) (ow:Bool):(ps:List (PM×Ty))->List Slot->((c9 (ps.map (·.2))).den->List (Nat×Path)->Option R)->Option R
 | [],[],K=>K () []
 | (pm,t)::ps,s::ss,K=>Cf σ ow pm t s λv w=>NY σ ow ps ss λvs ws=>K (v,vs) (match w with | some x=>x::ws | none=>ws)
 | _,_,_=>none
def tz (σ:St):List (PM×Ty)->List Operand->(St->Option R)->Option R
 | (.ke m _,_)::ps,x::xs,K=>match ep σ x with
  | .ptr r p snap=>if σ.ok r snap then qC σ r p λ_ m' _ _=>if m'=m then tz σ ps xs K else yk σ r p m λσ=>tz σ ps xs K else none
  | _=>none
 | (.tw m,_)::ps,x::xs,K=>match ep σ x with
  | .ptr r p snap=>if σ.ok r snap then qC σ r p λ_ m' _ _=>if m'=m then tz σ ps xs K else yk σ r p m λσ=>tz σ ps xs K else none
  | _=>none
 | (.lT m,_)::ps,x::xs,K=>match ep σ x with
  | .ref r p snap=>if σ.ok r snap then qC σ r p λ_ m' _ _=>if m'=m then tz σ ps xs K else yk σ r p m λσ=>tz σ ps xs K else none
  | _=>none
 | (.nK m,_)::ps,x::xs,K=>match ep σ x with
  | .ref r p snap=>if σ.ok r snap then qC σ r p λ_ m' _ _=>if m'=m then tz σ ps xs K else yk σ r p m λσ=>tz σ ps xs K else none
  | _=>none
 | _::ps,_::xs,K=>tz σ ps xs K
 | _,_,K=>K σ
def aca (x:Operand) (r:Nat) (t:Ty) (v:t.den) (σ:St):St:=match x with
 | .tmp i=>match Nat.beq i r||!Nat.blt i σ.n with
  | true=>σ
  | false=>(σ.put i .dead).put i (.cp t v)
 | _=>σ
def Cg (σ:St):List (PM×Ty)->List Operand->(St->Option R)->Option R
 | (.ro,t)::ps,x::xs,K=>
  if t.flat then Cg σ ps xs K else
  match ep σ x with
  | .ref r p snap=>if σ.ok r snap then zN σ r p λσ=>Cg σ ps xs K else none
  | .sub r p snap _ _=>if σ.ok r snap then zN σ r p λσ=>Cg σ ps xs K else none
  | .ptr r p snap=>if σ.ok r snap then
    match p,σ.get r with
    | [],.box t m H v=>if H.isEmpty&&fits m (an t) then Cg (aca x r t v ((σ.put r .dead).put r (.cp t v))) ps xs K else none
    | _,_=>none
   else none
  | _=>Cg σ ps xs K
 | _::ps,_::xs,K=>Cg σ ps xs K
 | _,_,K=>K σ
def apart:List Nat->List (Nat×Path)->Bool
 | _,[]=>true
 | all,(r,_)::ws=>Nat.ble (all.count r) 1&&apart all ws
def tC (σ:St):(ps:List (PM×Ty))->List (Nat×Path)->(c9 (lP ps)).den->(St->Option R)->Option R
 | [],[],_,K=>K σ
 | (.ro,_)::ps,ws,v,K=>tC σ ps ws v K
 | (.fix _,_)::ps,ws,v,K=>tC σ ps ws v K
 | (.ke _ m,t)::ps,(r,p)::ws,v,K=>xo σ r p t m v.1 λσ=>tC σ ps ws v.2 K
 | (.tw m,t)::ps,(r,p)::ws,v,K=>match xo σ r p t m t.zero (λ_=>some ()) with
  | some _=>tC (σ.put r .dead) ps ws v K
  | none=>none
 | (.nK _,_)::ps,(r,p)::ws,v,K=>Bw σ r p λσ=>tC σ ps ws v K
 | (.lT m,t)::ps,(r,p)::ws,v,K=>xo σ r p t m v.1 λσ'=>tC { σ' with vr:=(σ.nv r (vG (eu p+1))).vr,aT:=σ.aT } ps ws v.2 K
 | _,_,_,_=>none
def lQ:(rs:List (Ty×Md))->{ts:List Ty}->(c9 (rs.map (·.1)++ts)).den->List J8×(c9 ts).den
 | [],_,v=>([],v)
 | (t,m)::rs,_,v=>(⟨t,m,v.1⟩::(lQ rs v.2).1,(lQ rs v.2).2)
def wS:List J8->Slot
 | []=>.dead
 | [x]=>laid x.t x.m x.v
 | xs=>.s8 xs
def Ch:List (Ty×Md)->Bool
 | []=>true
 | (t,m)::rs=>(t.flat||decide (m=aj t))&&t.th&&Ch rs
def pj:List (PM×Ty)->Bool
 | []=>true
 | (.ke m m',t)::ps=>(t.flat||decide (m=aj t))&&t.th&&((t.flat||decide (m'=aj t))&&pj ps)
 | (.lT m,t)::ps=>(t.flat||decide (m=aj t))&&t.th&&pj ps
 | (.tw m,t)::ps=>(t.flat||decide (m=aj t))&&t.th&&pj ps
 | (.nK m,t)::ps=>(t.flat||decide (m=aj t))&&t.th&&pj ps
 | _::ps=>pj ps
def T8:List (PM×Ty)->Bool
 | []=>false
 | (.nK _,_)::_=>true
 | _::ps=>T8 ps
def YN (σ:St) (hv:Bool) (ho:List Path->Bool) (ws:List (Nat×Path)) (K:Option R):Option R:=
 match hv,ws with
 | true,(r,p)::_=>qC σ r p λ_ _ H _=>match ho H with
  | true=>K
  | false=>none
 | _,_=>K
def Kb (g:uQ) (ow:Bool) (σ:St) (xs:List Operand) (ex:List Slot) (d:Option Tmp) (K:St->Option R):Option R:=
 tz σ g.ps xs λσ=>
  NY σ ow g.ps (xs.map (ep σ)++ex) λv ws=>
   if Nat.ble ws.length 1&&apart ((xs.map (ep σ)++ex).flatMap nL) ws then
    YN σ (T8 g.ps) (g.Eb v) ws ((g.F v).bind λout=>
     tC σ g.ps ws (lQ g.rs out).2 λσ=>K (σ.cg d (wS (lQ g.rs out).1)))
   else none
def EN (g:uQ) (σ:St) (xs:List Operand) (ex:List Slot) (d:Option Tmp) (K:St->Option R):Option R:=
 match Ch g.rs&&pj g.ps with
 | true=>Kb g true σ xs ex d K
 | false=>Cg σ g.ps xs λσ=>Kb g false σ xs ex d K
def LO (E:Env) (σ:St) (T:Nat) (x:Operand) (mv:Bool) (d:Option Tmp) (K:St->Option R):Option R:=
 match ep σ x with
 | .dead=>K (σ.cg d .dead)
 | .yF=>rf E T λT=>match T with
  | .aa e=>K (σ.cg d (.own (.aa e) (aj (.aa e)) [] []))
  | _=>none
 | .s8 []=>K (σ.cg d (.s8 []))
 | .s8 _=>none
 | .ref r p snap=>
  if σ.ok r snap then
   match Jl σ r p with
   | some t=>nC σ (.ref r p snap) mv t λm v σ=>K (σ.cg d (laid t m v))
   | none=>none
  else none
 | .sub r p snap lo hi=>
  if σ.ok r snap then
   match Jl σ r p with
   | some t=>nC σ (.sub r p snap lo hi) mv t λm v σ=>K (σ.cg d (laid t m v))
   | none=>none
  else none
 | .ptr r p snap=>
  match p,σ.get r with
  | [],.box t m H v=>if σ.ok r snap&&mv&&!EI σ.aT r then (match d with | some i=>K ((σ.put r .dead).put i (.box t m H v)) | none=>none) else K (σ.cg d (.ptr r [] snap))
  | p,_=>K (σ.cg d (.ptr r p snap))
 | s=>K (σ.cg d s)
def T9 (σ:St) (x:Operand) (d:Option Tmp) (K:St->Option R):Option R:=
 match ep σ x,x with
 | .s8 xs,.tmp i=>K ((σ.put i .dead).cg d (.s8 xs))
 | .s8 _,_=>none
 | s,_=>K (σ.cg d s)
def Ou (σ:St) (x:Operand) (d:Option Tmp) (σ':St):St:=
 match x,d with
 | .tmp i,some d=>match σ.get i with
  | .own _ _ _ _=>match J9 σ.aT i with
   | some n=>{ σ' with aT:=(d,n,true)::σ'.aT }
   | none=>σ'
  | _=>σ'
 | _,_=>σ'
def Ov:Slot->Option (Nat×Int)
 | .val .fn f=>some f
 | _=>none
def jZ {α:Type} (k:Ty) (m:List (k.den×α)) (x:k.den):Option α:=(m.find? λe=>k.eq x e.1).map (·.2)
def pL {α:Type} (k:Ty) (m:List (k.den×α)) (x:k.den) (y:α):List (k.den×α):=match m.findIdx? (λe=>k.eq x e.1) with
 | some i=>m.set i (x,y)
 | none=>m++[(x,y)]
def Di {α:Type} (o:Option α) (z:α):α:=match o with
 | some x=>x
 | none=>z
def LP (E:Env) (σ:St) (T:Nat) (x ix:Slot) (ok:Bool) (d:Option Tmp) (K:St->Option R):Option R:=
 rf E T λT=>
 match T with
 | .map k v=>
  if v.xn then
   match x with
   | .ref r p snap=>
    if σ.ok r snap then
     qC σ r p λt _ H y=>
      if H.isEmpty then jR t (.map k v) y λy=>
       match ix with
       | .val t2 i=>jR t2 k i λi=>
        match ok with
        | true=>K (σ.cg d (.s8 [⟨v,an v,Di (jZ k y i) v.zero⟩,⟨.bool,.leaf,(jZ k y i).isSome⟩]))
        | false=>K (σ.cg d (.val v (Di (jZ k y i) v.zero)))
       | _=>none
      else none
    else none
   | _=>none
  else none
 | _=>none
def LQ (E:Env) (σ:St) (T:Nat) (x ix y:Slot) (K:St->Option R):Option R:=
 rf E T λT=>
 match T with
 | .map k v=>
  match x with
  | .ref r p snap=>
   if σ.ok r snap then
    qC σ r p λt m H z=>
     if m.own&&H.isEmpty then jR t (.map k v) z λz=>
      match ix,y with
      | .val t2 i,.val t3 w=>jR t2 k i λi=>jR t3 v w λw=>
       xo σ r p (.map k v) m (pL k z i w) λσ'=>K { σ' with vr:=(σ.nv r yG).vr,aT:=σ.aT }
      | _,_=>none
     else none
   else none
  | _=>none
 | _=>none
def Wj:Option Ty->Bool
 | some (.map _ _)=>true
 | _=>false
def LR (E:Env) (σ:St) (T:Nat) (x:Slot) (K:Nat->Option R):Option R:=
 rf E T λT=>
 match T with
 | .map k v=>
  match x with
  | .ref r p snap=>
   if σ.ok r snap then
    qC σ r p λt _ H y=>if H.isEmpty then jR t (.map k v) y λy=>K (List.length y) else none
   else none
  | _=>none
 | _=>none
def sV (E:Env) (iV i:Nat) (o:Oper) (σ:St) (K:St->Option R):Option R:=
 let fz:=YK E.fz iV i
 let d:=o.dst
 match o.op with
 | .move x=>T9 σ x d K
 | .assign x=>LO E σ o.type x (!fz 0) d K
 | .pick c a b=>J_ (ep σ c) λc=>match ep σ (bif c then a else b) with
  | .val .bool x=>K (σ.cg d (.val .bool x))
  | _=>none
 | .alloc t=>rf E t λt=>if t.xn then K (σ.cg d (.box t (aj t) [] t.zero)) else none
 | .box t x=>rf E t λt=>nC σ (ep σ x) (!fz 0) t λm v σ'=>K (Ou σ x d (σ'.cg d (.box t m [] v)))
 | .build t ps=>rf E t λt=>match t with
  | .arr n e=>if e.xn then On σ e fz ps.toList 0 (Ty.arr n e).zero λv σ=>K (σ.cg d (laid (.arr n e) (aj (.arr n e)) v)) else none
  | .pair t1 t2=>if (Ty.pair t1 t2).xn then GG E σ (.pair t1 t2) fz ps.toList 0 (aj (.pair t1 t2)) (Ty.pair t1 t2).zero λm v σ=>K (σ.cg d (laid (.pair t1 t2) m v)) else none
  | _=>none
 | .buildSlice t n ps=>rf E t λt=>match t with
  | .aa e=>if Nat.beq n ps.size&&e.xn&&Nat.ble (n*e.sz) 16777216 then Jm σ e fz ps.toList 0 (aj e) [] λm v σ=>K (σ.cg d (.own (.aa e) (.aa true m) [] v)) else none
  | _=>none
 | .load t a=>Ka E σ t a (fz 7) (fz 8) d K
 | .store t a x=>match d with
  | none=>Oj E σ t (ep σ a) (ep σ x) (!fz 1) K
  | some _=>none
 | .nilCheck x=>match ep σ x with
  | .ptr r p snap=>if σ.ok r snap then K (σ.cg d (.ptr r p snap)) else none
  | .cp t v=>K (σ.cg d (.cp t v))
  | .val .fn f=>K (σ.cg d (.val .fn f))
  | _=>none
 | .binOp op t x y _=>Oq E t op (ep σ x) (ep σ y) λt v=>K (σ.cg d (.val t v))
 | .unOp op _ x=>match op,ep σ x with
  | .not,.val .bool b=>K (σ.cg d (.val .bool (!b)))
  | .neg,.val (.int k) n=>K (σ.cg d (.val (.int k) (Gw k (0 - qR k n))))
  | _,_=>none
 | .convert s t x=>EM E σ s t (ep σ x) d K
 | .fieldAddr t x j=>EK E σ t (ep σ x) j d K
 | .field t x j=>LM E σ t (ep σ x) j d K
 | .indexAddr t x ix=>EL E σ t (ep σ x) (ep σ ix) d K
 | .index t x ix=>Ol E σ t (ep σ x) (ep σ ix) d K
 | .slice t x lo hi none=>Om E σ t (ep σ x) (lo.map (ep σ)) (hi.map (ep σ)) d K
 | .makeSlice t n c=>rf E t λt=>match t with
  | .aa e=>xX (ep σ n) λn=>xX (ep σ c) λc=>
   if e.xn then (if 0<=n/\n<=c/\c<=(b9:Int) then K (σ.cg d (.own (.aa e) (aj (.aa e)) [] (List.replicate n.toNat e.zero))) else none) else none
  | _=>none
 | .extract x j=>match x with
  | .tmp i=>match σ.get i with
   | .s8 xs=>match xs[j]? with
    | some x=>if x.t=.unit then none else K ((σ.put i (.s8 (xs.set j ⟨.unit,.leaf,()⟩))).cg d (laid x.t x.m x.v))
    | none=>none
   | _=>none
  | _=>none
 | .makeFunc (.func f) first cs=>
  if first.size=0 then
   match cs.toList with
   | []=>K (σ.cg d (.val .fn (f,0)))
   | [.tmp i]=>match σ.get i with
    | .box (.int .i64) _ _ n=>K (((σ.put i .dead).put i (.cp (.int .i64) n)).cg d (.val .fn (f,n)))
    | _=>none
   | _=>none
  else none
 | .makeMap t none=>rf E t λt=>match t with
  | .map k v=>if k.flat&&v.flat then K (σ.cg d (.own (.map k v) (aj (.map k v)) [] [])) else none
  | _=>none
 | .lookup t x ix ok=>LP E σ t (ep σ x) (ep σ ix) ok d K
 | .mapUpdate t x ix y=>match d with
  | none=>LQ E σ t (ep σ x) (ep σ ix) (ep σ y) K
  | some _=>none
 | .call c=>match c.callee with
  | .builtin .len=>match c.args.toList,c.argTypes.toList with
   | [x],[t]=>match Wj (E.TI t) with
    | false=>YL E σ t (ep σ x) λn=>K (σ.cg d (.val (.int .i64) (n:Int)))
    | true=>LR E σ t (ep σ x) λn=>K (σ.cg d (.val (.int .i64) (n:Int)))
   | _,_=>none
  | .builtin .append=>match c.args.toList,c.argTypes.toList with
   | [b,x],t::_=>LN E σ t (ep σ b) x (!fz 1) (fz 2) d K
   | _,_=>none
  | .builtin .copy=>match c.args.toList,c.argTypes.toList with
   | [b,x],t::_=>T7 E σ t b (ep σ x) d K
   | _,_=>none
  | .value (.func f)=>match E.G f with
   | some g=>match g.cap with
    | false=>EN g σ c.args.toList [] d K
    | true=>none
   | none=>none
  | .value (.tmp i)=>match Ov (σ.get i) with
   | some (f,n)=>match E.G f with
    | some g=>match g.cap with
     | true=>EN g σ c.args.toList [.cp (.int .i64) n] d K
     | false=>EN g σ c.args.toList [] d K
    | none=>none
   | none=>none
  | _=>none
 | _=>none
def pk (l:List (Nat×List Nat)) (i:Nat):List Nat:=match oF l i with | some x=>x | none=>[]
def GH (ops:List Oper) (σ:St) (g:Option (Nat×Bool)) (K:Bool->St->Option R):Option R:=
 match g with
 | none=>K true σ
 | some (j,want)=>match (ops[j]?).bind (·.dst) with
  | none=>none
  | some t=>match σ.get t with
   | .val .bool b=>match b with
    | true=>K (want == true) (σ.mr t (.val .bool true))
    | false=>K (want == false) (σ.mr t (.val .bool false))
   | .s8 []=>K false σ
   | _=>none
def LS (E:Env) (iV:Nat) (ops:List Oper):List Oper->Nat->St->(St->Option R)->Option R
 | [],_,σ,K=>K σ
 | o::rest,i,σ,K=>GH ops σ o.guard λb σ=>
  match b with
  | true=>sV E iV i o σ λσ=>LS E iV ops rest (i+1) σ K
  | false=>LS E iV ops rest (i+1) (σ.cg o.dst (.s8 [])) K
def Ow (σ:St) (o:Oper):Bool:=match o.op with
 | .load _ x=>match ep σ x with
  | .cp _ _=>true
  | _=>false
 | .convert _ _ x=>match ep σ x with
  | .val (.int _) _=>true
  | .val .str _=>true
  | .val (.aa (.int .u8)) _=>true
  | _=>false
 | _=>false
def Ox (E:Env) (iV i:Nat):Bool:=(pk E.ar iV).any (Nat.beq i)
def H7:Op->Bool
 | .store .. | .mapUpdate .. | .call ..=>true
 | _=>false
def rC:Path->Path->Bool
 | [],[]=>true
 | .fst::p,.fst::q=>rC p q
 | .snd::p,.snd::q=>rC p q
 | .idx i::p,.idx j::q=>Nat.beq i j&&rC p q
 | .rB i::p,.rB j::q=>Nat.beq i j&&rC p q
 | _,_=>false
def aax (σ:St) (r:Nat) (p:Path) (v:Int):Bool:=
 match qC σ r p λt _ _ x=>jR t (.int .i64) x λy=>some (decide ((y:Int)=v)) with
 | some b=>b
 | none=>false
def YO (σ:St) (o:Oper):Bool:=match o.op,o.dst with
 | .load _ (.tmp i),some d=>match σ.get i with
  | .ptr r p s=>match σ.get d with
   | .ref r' p' s'=>Nat.beq r r'&&(σ.ok r s&&σ.ok r s')&&rC p p'
   | .val (.int .i64) v=>σ.ok r s&&aax σ r p v
   | _=>false
  | .box ..=>match σ.get d with
   | .ref r' p' s'=>Nat.beq i r'&&σ.ok i s'&&rC [] p'
   | _=>false
  | _=>false
 | _,_=>false
def Kc (l:List (Nat×List (Nat×Nat))) (i:Nat):List (Nat×Nat):=match oF l i with | some x=>x | none=>[]
def T_ (E:Env) (iV i:Nat):Bool:=(Kc E.er iV).any λe=>Nat.beq i e.1
def Ua (E:Env) (iV:Nat) (ops:List Oper) (is:List Nat) (σ:St):Bool:=(Kc E.er iV).all λe=>is.any (Nat.beq e.1)||!(is.any (Nat.beq e.2)||Nat.ble ops.length e.2)||(match ops[e.1]? with
 | some o=>YO σ o
 | none=>false)
def Kd (E:Env) (iV:Nat) (ops:List Oper) (i:Nat) (o:Oper) (is:List Nat) (σ:St):Bool:=!(H7 o.op||T_ E iV i)||Ua E iV ops is σ
def SG (σ:St):List Nat->(St->Option R)->Option R
 | [],K=>K σ
 | i::is,K=>match σ.get i with
  | .box t m H v=>if H.isEmpty&&fits m (an t) then SG ((σ.put i .dead).put i (.cp t v)) is K else none
  | _=>none
def LT (σ:St) (d:Nat):Bool:=Nat.blt d σ.n&&(match σ.get d with
 | .dead=>true
 | _=>false)&&!EI σ.aT d&&!σ.gh.any λe=>Nat.beq e.1 d
def Ub (E:Env) (iV:Nat) (ops:List Oper) (is:List Nat) (σ:St):Bool:=(pk E.pd iV).all λj=>!is.any (Nat.beq j)||(match (ops[j]?).bind (·.dst) with
 | some d=>LT σ d
 | none=>false)
def Wk (ops:List Oper) (σ:St):List Nat->(St->Option R)->Option R
 | [],K=>K σ
 | j::js,K=>match (ops[j]?).bind (·.dst) with
  | some d=>Wk ops (σ.put d .dead) js K
  | none=>none
def GI (E:Env) (iV:Nat) (ops:List Oper):List Nat->St->(St->Option R)->Option R
 | [],σ,K=>K σ
 | i::is,σ,K=>
  match Ub E iV ops (i::is) σ with
  | false=>none
  | true=>
  match ops[i]? with
  | none=>none
  | some o=>GH ops σ o.guard λb σ=>
   match b with
   | true=>match Ox E iV i&&!Ow σ o with
    | true=>none
    | false=>sV E iV i o σ λσ=>match Kd E iV ops i o is σ with
     | true=>GI E iV ops is σ K
     | false=>none
   | false=>GI E iV ops is (σ.cg o.dst (.s8 [])) K
def tY:Code->Nat
 | .region id _ _=>id
 | .seq a _=>tY a
 | .block _ b=>tY b
 | .loop b=>tY b
 | .scope b=>tY b
 | _=>0
def GJ (live:List Nat) (fr:List (Nat×Md)) (r:Nat):Bool:=live.any (Nat.beq r)&&(match oF fr r with
 | none=>true
 | some _=>false)
def lE (live:List Nat) (fr:List (Nat×Md)) (σ:St) (i:Nat):Slot:=
 match σ.get i with
 | .ptr r p snap=>if σ.ok r snap&&GJ live fr r then .ptr r p (snap.map λ_=>0) else .dead
 | .ref r p snap=>if σ.ok r snap&&GJ live fr r then .ref r p (snap.map λ_=>0) else .dead
 | .sub r p snap lo hi=>if σ.ok r snap&&GJ live fr r then .sub r p (snap.map λ_=>0) lo hi else .dead
 | s=>s
def Ba (live:List Nat) (σ:St):St:={ n:=σ.n,sl:=live.map λi=>(i,lE live [] σ i),vr:=[],aT:=σ.aT }
def Dj (fr:List (Nat×Md)) (i:Nat) (s:Slot):Slot:=
 match oF fr i with
 | none=>s
 | some m1=>
  match s with
  | .own t m H v=>if H.isEmpty&&fits m m1 then (if m1=an t then .val t v else .own t m1 [] v) else .dead
  | .box t m H v=>if H.isEmpty&&fits m m1 then .box t m1 [] v else .dead
  | s=>s
def ge (live:List Nat) (fr:List (Nat×Md)) (σ:St):St:={ n:=σ.n,sl:=live.map λi=>(i,Dj fr i (lE live fr σ i)),vr:=[],aT:=σ.aT }
def Uc (l:List (Nat×List (Nat×Md))) (i:Nat):List (Nat×Md):=match oF l i with | some x=>x | none=>[]
inductive Ex where
 | normal
 | exit (id:Nat)
def iX (rec:St->Option R) (kp:St->St) (K:Ex->St->Option R):Ex->St->Option R
 | .normal,σ=>rec (kp σ)
 | .exit j,σ=>K (.exit j) σ
def ay (B:St->(Ex->St->Option R)->Option R) (K:Ex->St->Option R):Ex->St->Option R
 | .normal,σ=>B σ K
 | .exit j,σ=>K (.exit j) σ
def ai (id:Nat) (K:Ex->St->Option R):Ex->St->Option R
 | .normal,σ=>K .normal σ
 | .exit j,σ=>if Nat.beq j id then K .normal σ else K (.exit j) σ
def H8 (F:St->(Ex->St->Option R)->Option R) (kp:St->St) (K:Ex->St->Option R):Nat->St->Option R
 | 0,_=>none
 | k+1,σ=>F σ (iX (H8 F kp K k) kp K)
def we (E:Env) (k:Nat) (fin:St->Option R):Code->St->(Ex->St->Option R)->Option R
 | .skip,σ,K=>K .normal σ
 | .region id ops d,σ,K=>match d with
  | false=>LS E id ops.toList ops.toList 0 σ λσ=>SG σ (pk E.bx id) λσ=>K .normal σ
  | true=>SG σ (pk E.bx id) λσ=>Wk ops.toList σ (pk E.pd id) λσ=>GI E id ops.toList (pk E.od id) σ λσ=>K .normal σ
 | .seq a b,σ,K=>we E k fin a σ (ay (we E k fin b) K)
 | .cond c a b,σ,K=>J_ (ep σ c) λc=>match c with
  | true=>we E k fin a σ K
  | false=>we E k fin b σ K
 | .block id b,σ,K=>we E k fin b σ (ai id K)
 | .loop b,σ,K=>H8 (we E k fin b) (ge (pk E.lv (tY b)) (Uc E.lf (tY b))) K k (ge (pk E.lv (tY b)) (Uc E.lf (tY b)) σ)
 | .scope b,σ,K=>we E k fin b σ K
 | .exit id,σ,K=>K (.exit id) (Ba (pk E.lx id) σ)
 | .ret,σ,_=>fin σ
 | _,_,_=>none
end
def sub:List Nat->Code->Code
 | [],c=>c
 | i::p,.seq a b=>match i with
  | 0=>sub p a
  | _=>sub p b
 | i::p,.cond _ a b=>match i with
  | 0=>sub p a
  | _=>sub p b
 | _::p,.block _ b=>sub p b
 | _::p,.loop b=>sub p b
 | _::p,.scope b=>sub p b
 | _,c=>c
def am {V R:Type} (B:(V->Option R)->V->Option R):Nat->V->Option R
 | 0,_=>none
 | k+1,v=>B (am B k) v
theorem av {V R:Type} (F:St->(Ex->St->Option R)->Option R) (kp:St->St) (K:Ex->St->Option R) (σ:V->St) (B:(V->Option R)->V->Option R)
  (h:∀ (rec:St->Option R) (v:V),F (σ v) (iX rec kp K)=B (λv'=>rec (σ v')) v):∀ (n:Nat) (v:V),H8 F kp K n (σ v)=am B n v:=by
 intro n
 induction n with
 | zero=>intro v;rfl
 | succ n ih=>
  intro v;show F (σ v) (iX (H8 F kp K n) kp K)=B (am B n) v;simp_all
end
end OT
namespace OT
open Go
noncomputable section
def jn:(ps:List (PM×Ty))->(c9 (ps.map (·.2))).den->List Slot
 | [],_=>[]
 | (.ro,.ptr e)::ps,v=>.cp e v.1::jn ps v.2
 | (.fix f,.fn)::ps,v=>.val .fn (f,v.1.2)::jn ps v.2
 | (.fix _,_)::ps,v=>.dead::jn ps v.2
 | (.ro,t)::ps,v=>.val t v.1::jn ps v.2
 | (.ke m _,t)::ps,v=>.box t m [] v.1::jn ps v.2
 | (.lT m,t)::ps,v=>.own t m [] v.1::jn ps v.2
 | (.nK m,t)::ps,v=>.own t m [] v.1::jn ps v.2
 | (.tw m,t)::ps,v=>.box t m [] v.1::jn ps v.2
def Ci:Nat->List Slot->List (Nat×Slot)
 | _,[]=>[]
 | i,s::ss=>(i,s)::Ci (i+1) ss
def wm:Nat->List (PM×Ty)->List (Nat×Nat×Bool)
 | _,[]=>[]
 | i,(.ke _ _,_)::ps=>(i,i,false)::wm (i+1) ps
 | i,(.lT _,_)::ps=>(i,i,true)::wm (i+1) ps
 | i,(.tw _,_)::ps=>(i,i,false)::wm (i+1) ps
 | i,_::ps=>wm (i+1) ps
def Ec (ps:List (PM×Ty)) (v:(c9 (ps.map (·.2))).den) (n:Nat):St:={ n:=n,sl:=Ci 0 (jn ps v),vr:=[],aT:=wm 0 ps }
section
variable {R:Type}
def yI (σ:St):Nat->(ps:List (PM×Ty))->List Nat->((c9 (lP ps)).den->Option R)->Option R
 | _,[],_,K=>K ()
 | j,(.ro,_)::ps,es,K=>yI σ (j+1) ps es K
 | j,(.fix _,_)::ps,es,K=>yI σ (j+1) ps es K
 | j,(.tw _,_)::ps,es,K=>yI σ (j+1) ps es K
 | j,(.nK _,_)::ps,es,K=>yI σ (j+1) ps es K
 | j,(.ke _ m,t)::ps,i::es,K=>match σ.get i with
  | .box t' m' H v=>if H.isEmpty&&(decide (m'=m)||fits m' m)&&Ea σ.aT i j false then jR t' t v λv=>yI σ (j+1) ps es λvs=>K (v,vs) else none
  | _=>none
 | j,(.lT m,t)::ps,i::es,K=>match σ.get i with
  | .own t' m' H v | .box t' m' H v=>if H.isEmpty&&(decide (m'=m)||fits m' m)&&Ea σ.aT i j true then jR t' t v λv=>yI σ (j+1) ps es λvs=>K (v,vs) else none
  | _=>none
 | _,_,_,_=>none
def Ke (σ:St):ResultVar->Slot
 | .tmp i=>ep σ (.tmp i)
 | .cell a _=>match σ.get a with
  | .box _ _ _ _=>.ref a [] (σ.lC a)
  | _=>.dead
def Ud (σ:St) (ts:List Ty) (mv:Nat->Bool) (fin:St->((c9 ts).den->Option R)->Option R) :
    (rs:List (Ty×Md))->List ResultVar->Nat->((c9 (rs.map (·.1)++ts)).den->Option R)->Option R
 | [],[],_,K=>fin σ K
 | (t,m)::rs,x::xs,j,K=>nC σ (Ke σ x) (mv j) t λm' v σ'=>
  if m'=m\/fits m' m=true then Ud σ' ts mv fin rs xs (j+1) λvs=>K (v,vs) else none
 | _,_,_,_=>none
end
def Oy (ps:List (PM×Ty)) (rs:List (Ty×Md)) (es:List Nat) (Ed:List ResultVar) (mv:Nat->Bool) (σ:St):Option (c9 (rs.map (·.1)++lP ps)).den:=
 Ud σ (lP ps) mv (λσ K=>yI σ 0 ps es K) rs Ed 0 some
def mvs (fr:List Nat) (j:Nat):Bool:=!(fr.any (Nat.beq j))
def acb {R:Type} (fin:St->Option R):Ex->St->Option R
 | .normal,σ=>fin σ
 | .exit _,_=>none
def GK (fn:Func):Code:=match fn.body with
 | some c=>c
 | none=>.refuse ""
abbrev PQ:Type:=List (PM×Ty)
abbrev RQ:Type:=List (Ty×Md)
abbrev TL:Type:=List (Nat×Ty)
abbrev GL:Type:=List (Nat×uQ)
abbrev KT (R:Type):Type:=Ex->St->Option R
abbrev RT (R:Type):Type:=St->Option R
def NZ (E:Env) (k:Nat) (fn:Func) (ps:List (PM×Ty)) (rs:List (Ty×Md)) (es fr:List Nat) (v:(c9 (ps.map (·.2))).den):Option (c9 (rs.map (·.1)++lP ps)).den:=
 we E k (Oy ps rs es fn.results.toList (mvs fr)) (GK fn) (Ec ps v fn.ntmps) (acb (Oy ps rs es fn.results.toList (mvs fr)))
def lift {R:Type} (f:Nat->Option R):Option R:=open Classical in if h:∃ out,∃ k,∀ k',k<=k'->f k'=some out then some h.choose else none
theorem ah {R:Type} {f:Nat->Option R} {out:R} {k:Nat} (h:∀ k',k<=k'->f k'=some out):lift f=some out:=by
 have hex:∃ out,∃ k,∀ k',k<=k'->f k'=some out:=⟨out,k,h⟩
 unfold lift;rw[dif_pos hex];obtain ⟨k2,h2⟩:=hex.choose_spec;have e1:=h (max k k2) (Nat.le_max_left _ _);grind
theorem Wl {R:Type} {f:Nat->Option R} {out:R} (h:lift f=some out):∃ k,f k=some out:=by
 unfold lift at h;split at h
 ·rename_i hex;obtain ⟨k,hk⟩:=hex.choose_spec;injection h with h;exact ⟨k,by grind⟩
 ·cases h
abbrev i64:Ty:=.int .i64
abbrev u8:Ty:=.int .u8
def ag (n:Int):Int:=IntKind.wrap .i64 n
end
end OT
set_option linter.unusedVariables false
set_option linter.unusedSimpArgs false
namespace OT
open Go
abbrev FP:=Nat->Nat->Nat
abbrev Cells:=Nat->Nat->Prop
def isAgg:Ty->Bool
 | .unit | .pair _ _ | .arr _ _=>true
 | _=>false
def cu (t:Ty) (cs:List Value):Value:=if isAgg t then .agg cs.toArray else cs.headD undef
def EO (vH:List (Value×Value)):Value:=.tuple (vH.map λkv=>Value.tuple #[kv.1,kv.2]).toArray
def entriesOf (es:Array MapEntry):List (Value×Value):=es.toList.map λe=>(e.key,e.val)
def Ue (u:Value):Option Value:=if u.oneCell' then some u else none
def ce (w:World) (b i:Nat):Option Value:=match w.heap[b]? with
 | some (.map es _)=>if i=0 then some (EO (entriesOf es)) else none
 | _=>(w.cell? ⟨b,i,none⟩).bind Ue
theorem Cj {w w2:World} {b:Nat} (h:w2.heap[b]?=w.heap[b]?) (i:Nat):ce w2 b i=ce w b i:=by grind [ce,World.cell?]
theorem GN {u v:Value} (h:Ue u=some v):v=u/\u.oneCell'=true:=by
 grind [Ue]
theorem sy {w:World} {b i:Nat} {u:Value} (h:ce w b i=some u) (hu:u.oneCell'=true):w.cell? ⟨b,i,none⟩=some u:=by
 unfold ce at h;split at h
 ·split at h
  ·injection h with h;subst h;cases hu
  ·cases h
 ·cases hc:w.cell? ⟨b,i,none⟩ with
  | none=>grind
  | some v=>
   rw[hc] at h;have:=GN h;rw[this.1]
theorem H9 {w:World} {b i:Nat} {u:Value} (h:w.cell? ⟨b,i,none⟩=some u) (hu:u.oneCell'=true):ce w b i=some u:=by
 grind [World.cell?,ce,Ue]
theorem YP:∀ {a b:List (Value×Value)},EO a=EO b->a=b:=by
 have main:∀ (a b:List (Value×Value)),(a.map λkv=>Value.tuple #[kv.1,kv.2])=(b.map λkv=>Value.tuple #[kv.1,kv.2])->a=b:=by
  intro a
  induction a with
  | nil=>simp_all
  | cons x a ih=>
   intro b h;cases b <;> grind
 grind [EO]
theorem Wm {w:World} {r:Nat} {vH:List (Value×Value)} (h:ce w r 0=some (EO vH)):∃ es clock,w.heap[r]?=some (.map es clock)/\entriesOf es=vH:=by
 unfold ce at h;split at h
 ·grind [YP]
 ·cases hc:w.cell? ⟨r,0,none⟩ with
  | none=>grind
  | some v=>
   rw[hc] at h;have:=GN h;have h2:=this.2;rw[<-this.1] at h2;cases h2
theorem Wn {w:World} {r:Nat} {es:Array MapEntry} {clock:Nat} (h:w.heap[r]?=some (.map es clock)):ce w r 0=some (EO (entriesOf es)):=by
 grind [ce]
def Has (w:World) (b o:Nat) (L:List Value):Prop:=∀ j u,L[j]?=some u->ce w b (o+j)=some u
def zO:Ty->Bool
 | .int .u8=>true
 | _=>false
def iR (w:World) (b:Nat) (n:Nat×Bool):Prop:=∃ c e fr,w.heap[b]?=some (.cells c e fr)/\c.size=n.1/\(∀ i,i < n.1->¬ (fr.1<=i/\i < fr.2))/\(n.2=false->¬ (fr.1<=n.1/\n.1 < fr.2))
def de (b o n:Nat):FP:=λb' i=>if b'=b/\o<=i/\i < o+n then 1 else 0
def bk:Nat->(Nat->FP)->FP
 | 0,_=>λ_ _=>0
 | n+1,f=>λb i=>bk n f b i+f n b i
def g_ (f:Nat->FP) (j:Nat) (g:FP):Nat->FP:=λi=>if i=j then g else f i
theorem yJ {n:Nat} {f g:Nat->FP} (h:∀ j,j < n->f j=g j):bk n f=bk n g:=by
 induction n with
 | zero=>rfl
 | succ n ih=>
  funext b i;simp only[bk];rw[ih (λj hj=>h j Bys),h n Bys]
theorem u7 {n:Nat} (f:Nat->FP) {j:Nat} (hj:j < n) (g:FP) (b i:Nat):bk n (g_ f j g) b i+f j b i=bk n f b i+g b i:=by
 induction n with
 | zero=>omega
 | succ n ih=>
  simp only[bk];by_cases h:j=n
  ·subst h;have:bk j (g_ f j g)=bk j f:=yJ λk hk=>by grind [g_]
   rw[this];simp[g_];omega
  ·have:=ih Bys;have e:g_ f j g n=f n:=by grind [g_]
   rw[e];omega
theorem Oz {n:Nat} (f:Nat->FP) {j:Nat} (hj:n<=j) (g:FP):bk n (g_ f j g)=bk n f:=
 yJ λk hk=>by grind [g_]
theorem dz {n:Nat} (f:Nat->FP) {j:Nat} (hj:j < n) (b i:Nat):f j b i<=bk n f b i:=by
 induction n <;> grind [bk]
theorem wo {n:Nat} (f:Nat->FP) {j k:Nat} (hj:j < n) (hk:k < n) (jx:j≠k) (b i:Nat):f j b i+f k b i<=bk n f b i:=by
 have h1:=u7 f hj (λ_ _=>0) b i;have h2:=dz (g_ f j λ_ _=>0) hk b i;have e:g_ f j (λ_ _=>0) k=f k:=by grind [g_]
 rw[e] at h2;grind
theorem ns (n:Nat) (b i:Nat):bk n (λ_ _ _=>0) b i=0:=by
 induction n <;> grind [bk]
theorem wr (n m:Nat) (f:Nat->FP) (b i:Nat):bk (n+m) f b i=bk n f b i+bk m (λj=>f (n+j)) b i:=by
 induction m <;> grind [bk]
theorem LU {n:Nat} {f g:Nat->FP} (b i:Nat) (h:∀ j,j < n->f j b i<=g j b i):bk n f b i<=bk n g b i:=by
 induction n <;> grind [bk]
theorem MP (n:Nat) (f:Nat->FP) (k m:Nat) (h:k+m<=n) (b i:Nat):bk m (λj=>f (k+j)) b i<=bk n f b i:=by
 have e:n=k+(m+(n - k - m)):=by omega
 grind [wr]
theorem OA {n:Nat} {f:Nat->FP} {b i:Nat} (h:1<=bk n f b i):∃ j,j < n/\1<=f j b i:=by
 induction n <;> grind [bk]
section
variable (P:Program) (w:World) (A:Cells)
def Ro:(t:Ty)->t.den->List Value->Prop
 | .int k,v,cs=>cs=[.int k (qR k v)]
 | .bool,v,cs=>cs=[.bool v]
 | .str,v,cs=>cs=[.string ⟨List.toArray v⟩]
 | .unit,_,cs=>cs=[]
 | .pair a b,v,cs=>Ro a v.1 (cs.take a.sz)/\Ro b v.2 (cs.drop a.sz)
 | .arr n e,v,cs=>e.flat=true/\List.length v=n/\cs.length=n*e.sz/\∀ (i:Nat) (x:e.den),v[i]?=some x->Ro e x ((cs.drop (i*e.sz)).take e.sz)
 | .aa e,v,cs=>∃ a cap,cs=[.slice a (List.length v) cap]/\List.length v<=cap/\(a=none->List.length v=0)/\∀ ad,a=some ad->(0 < cap->ad.spot=none) /\
   ∀ (i:Nat) (x:e.den),v[i]?=some x->∃ L:List Value,L.length=e.sz/\(∀ j u,L[j]?=some u->ce w ad.block (ad.off+i*e.sz+j)=some u/\A ad.block (ad.off+i*e.sz+j))/\Ro e x L
 | .ptr e,v,cs=>∃ ad,cs=[.pointer (some ad)]/\ad.spot=none /\
   ∃ L:List Value,L.length=e.sz/\(∀ j u,L[j]?=some u->ce w ad.block (ad.off+j)=some u/\A ad.block (ad.off+j))/\Ro e v L
 | .fn,v,cs=>∃ Bb,cs=[.func (.func v.1) #[] Bb]/\∃ fn,P.funcs[v.1]?=some fn /\
   ((fn.nfree=0/\Bb=#[])\/(fn.nfree=1/\∃ ad:Addr,Bb=#[.pointer (some ad)]/\ad.spot=none/\ce w ad.block ad.off=some (.int .i64 v.2)/\A ad.block ad.off))
 | .map k v,x,cs=>k.flat=true/\v.flat=true/\∃ (r:Nat) (vH:List (Value×Value)),cs=[.map (some r)]/\ce w r 0=some (EO vH)/\A r 0/\vH.length=List.length x /\
   ∀ (i:Nat) (y:k.den×v.den),x[i]?=some y->∃ (kc vc:List Value),vH[i]?=some (cu k kc,cu v vc)/\Ro k y.1 kc/\Ro v y.2 vc
def hole (H:List Path):Bool:=H.any (·.isEmpty)
def k8 (i:Nat):Path->Option Path
 | .idx j::p=>if i=j then some p else none
 | _=>none
def ax:(t:Ty)->Md->List Path->t.den->List Value->FP->Prop
 | .pair a b,m,H,v,cs,F=>hole H=false/\∃ F1 F2:FP,(∀ x i,F1 x i+F2 x i<=F x i) /\
   ax a m.l (H.filterMap xw) v.1 (cs.take a.sz) F1/\ax b m.r (H.filterMap xx) v.2 (cs.drop a.sz) F2
 | .aa e,m,H,v,cs,F=>
   if hole H then ∃ x:Value,cs=[x]/\x.oneCell'=true
   else if m.own then ∃ a cap,cs=[.slice a (List.length v) cap]/\List.length v<=cap/\cap<=maxLen/\(a=none->cap=0)/\∀ ad,a=some ad->ad.off=0/\ad.spot=none /\
    iR w ad.block (cap*e.sz,zO e)/\∃ Fi:Nat->FP,(∀ x i,de ad.block 0 (cap*e.sz) x i+bk (List.length v) Fi x i<=F x i) /\
    ∀ (i:Nat) (x:e.den),v[i]?=some x->∃ L:List Value,L.length=e.sz/\Has w ad.block (i*e.sz) L/\ax e m.e (H.filterMap (k8 i)) x L (Fi i)
   else H=[]/\m.e.kS=true/\Ro P w A (.aa e) v cs
 | .ptr e,m,H,v,cs,F=>
   if hole H then ∃ x:Value,cs=[x]/\x.oneCell'=true
   else if m.own then ∃ b,cs=[.pointer (some ⟨b,0,none⟩)]/\iR w b (e.sz,false)/\∃ (L:List Value) (F1:FP),L.length=e.sz/\Has w b 0 L /\
    (∀ x i,de b 0 e.sz x i+F1 x i<=F x i)/\ax e m.e [] v L F1
   else H=[]/\m.e.kS=true/\Ro P w A (.ptr e) v cs
 | .int k,_,_,v,cs,_=>Ro P w A (.int k) v cs
 | .bool,_,_,v,cs,_=>Ro P w A .bool v cs
 | .str,_,_,v,cs,_=>Ro P w A .str v cs
 | .unit,_,_,v,cs,_=>Ro P w A .unit v cs
 | .arr n e,_,H,v,cs,_=>H=[]/\Ro P w A (.arr n e) v cs
 | .fn,_,_,v,cs,_=>Ro P w A .fn v cs
 | .map k v,m,H,x,cs,F=>
   if hole H then ∃ x:Value,cs=[x]/\x.oneCell'=true
   else if m.own then k.flat=true/\v.flat=true/\∃ (r:Nat) (vH:List (Value×Value)),cs=[.map (some r)]/\ce w r 0=some (EO vH)/\1<=F r 0/\vH.length=List.length x /\
    ∀ (i:Nat) (y:k.den×v.den),x[i]?=some y->∃ (kc vc:List Value),vH[i]?=some (cu k kc,cu v vc)/\Ro P w A k y.1 kc/\Ro P w A v y.2 vc
   else H=[]/\m.e.kS=true/\Ro P w A (.map k v) x cs
end
theorem Ro.length {P:Program} {w:World} {A:Cells}:∀ (t:Ty) {v:t.den} {cs:List Value},Ro P w A t v cs->cs.length=t.sz:=by
 intro t
 induction t <;> grind [Ty.sz,Ro]
theorem ax.length {P:Program} {w:World} {A:Cells}:∀ (t:Ty) {m:Md} {H:List Path} {v:t.den} {cs:List Value} {F:FP},ax P w A t m H v cs F->cs.length=t.sz:=by
 intro t
 induction t <;> grind [Ty.sz,ax,Ro.length]
structure Agr (w w':World) (S:Nat->Nat->Prop):Prop where
 cell:∀ b i,S b i->∀ u,ce w b i=some u->ce w' b i=some u
 wg:∀ b n,iR w b n->iR w' b n
theorem Ro.mono {P:Program} {w w':World} {A A':Cells} (hc:∀ b i,A b i->∀ u,ce w b i=some u->ce w' b i=some u) (hA:∀ b i,A b i->A' b i) :
  ∀ (t:Ty) {v:t.den} {cs:List Value},Ro P w A t v cs->Ro P w' A' t v cs:=by
 intro t
 induction t with
 | pair a b nE nw=>intro v cs h;exact ⟨nE h.1,nw h.2⟩
 | arr n e ih=>intro v cs h;exact ⟨h.1,h.2.1,h.2.2.1,λi x hx=>ih (h.2.2.2 i x hx)⟩
 | aa e ih=>
  rintro v cs ⟨a,cap,h1,h2,h3,h4⟩;refine ⟨a,cap,h1,h2,h3,λad j0=>⟨(h4 ad j0).1,λi x hx=>?_⟩⟩
  grind
 | ptr e ih=>
  rintro v cs ⟨ad,h1,h2,L,hl,hL,hr⟩;exact ⟨ad,h1,h2,L,hl,λj u hu=>⟨hc _ _ (hL j u hu).2 u (hL j u hu).1,hA _ _ (hL j u hu).2⟩,ih hr⟩
 | fn=>
  rintro v cs ⟨Bb,h1,fn,h2,h3⟩;refine ⟨Bb,h1,fn,h2,?_⟩
  grind
 | map k v ihk ihv=>
  rintro x cs ⟨h1,h2,r,vH,h3,h4,h5,h6,h7⟩;refine ⟨h1,h2,r,vH,h3,hc _ _ h5 _ h4,hA _ _ h5,h6,λi y hy=>?_⟩
  grind
 | _=>intro v cs h;exact h
theorem ax.mono {P:Program} {w w':World} {A A':Cells} (hA:∀ b i,A b i->A' b i) (hc:∀ b i,A b i->∀ u,ce w b i=some u->ce w' b i=some u) (hb:∀ b n,iR w b n->iR w' b n) :
  ∀ (t:Ty) {m:Md} {H:List Path} {v:t.den} {cs:List Value} {F F':FP},ax P w A t m H v cs F->(∀ b i,F b i<=F' b i)->(∀ b i,1<=F b i->∀ u,ce w b i=some u->ce w' b i=some u)->ax P w' A' t m H v cs F':=by
 intro t
 induction t with
 | pair a b nE nw=>
  intro m H v cs F F' h hF Ck;obtain ⟨h0,F1,F2,hs,h1,h2⟩:=h
  exact ⟨h0,F1,F2,λx i=>bG (hs x i) (hF x i),nE h1 (λ_ _=>aH _) (λb i hp=>Ck b i (by grind)),
   nw h2 (λ_ _=>aH _) (λb i hp=>Ck b i (by grind))⟩
 | aa e ih=>
  intro m H v cs F F' h hF Ck;simp only[ax] at h ⊢;split at h
  ·grind
  ·rename_i hh;rw[aV hh];split at h
   ·rename_i hm;rw[aR hm];obtain ⟨a,cap,h1,h2,h3,h4,h5⟩:=h;refine ⟨a,cap,h1,h2,h3,h4,λad j0=>?_⟩
    obtain ⟨g1,g2,g3,Fi,g4,g5⟩:=h5 ad j0;refine ⟨g1,g2,hb _ _ g3,Fi,λx i=>bG (g4 x i) (hF x i),λi x hx=>?_⟩
    obtain ⟨L,hl,hL,hr⟩:=g5 i x hx;have hi:i < List.length v:=(aM.1 hx).1;refine ⟨L,hl,λj u hu=>Ck _ _ ?_ u (hL j u hu),ih hr (λ_ _=>aH _) (λb k hp=>Ck b k ?_)⟩
    ·have:=g4 ad.block (i*e.sz+j);have hj:j < e.sz:=hl ▸ (aM.1 hu).1
     have:i*e.sz+j < cap*e.sz:=by
      have h1:(i+1)*e.sz<=cap*e.sz:=aX _ Bys;grind
     grind [de]
    grind [dz]
   grind [Ro.mono]
 | ptr e ih=>
  intro m H v cs F F' h hF Ck;simp only[ax] at h ⊢;split at h
  ·grind
  ·rename_i hh;rw[aV hh];split at h
   ·rename_i hm;rw[aR hm];obtain ⟨b,h1,h2,L,F1,h3,h4,h5,h6⟩:=h;refine ⟨b,h1,hb _ _ h2,L,F1,h3,λj u hu=>Ck _ _ ?_ u (h4 j u hu),λx i=>bG (h5 x i) (hF x i),ih h6 (λ_ _=>aH _) (λb' k hp=>Ck b' k ?_)⟩
    all_goals grind [de]
   grind [Ro.mono]
 | arr n e ih=>intro m H v cs F F' h hF Ck;exact ⟨h.1,Ro.mono hc hA _ h.2⟩
 | map k v ihk ihv=>
  grind [ax,Ro.mono]
 | _=>intro m H v cs F F' h hF Ck;exact Ro.mono hc hA _ h
theorem ax.le {P:Program} {w:World} {A:Cells} {t:Ty} {m:Md} {H:List Path} {v:t.den} {cs:List Value} {F F':FP} (h:ax P w A t m H v cs F) (hF:∀ b i,F b i<=F' b i):ax P w A t m H v cs F':=
 ax.mono (λ_ _ h=>h) (λ_ _ _ _ h=>h) (λ_ _ h=>h) t h hF (λ_ _ _ _ h=>h)
theorem ax.yK {P:Program} {w:World} {A A':Cells} (hA:∀ b i,A b i->A' b i) :
  ∀ (t:Ty) {m:Md} {v:t.den} {cs:List Value} {F:FP},ax P w A t m [] v cs F->(∀ b i,1<=F b i->A' b i)->Ro P w A' t v cs:=by
 intro t
 induction t with
 | pair a b nE nw=>
  intro m v cs F h hF;obtain ⟨h0,F1,F2,hs,h1,h2⟩:=h;exact ⟨nE h1 (λb i hp=>hF b i (by grind)),nw h2 (λb i hp=>hF b i (by grind))⟩
 | aa e ih=>
  intro m v cs F h hF;simp only[ax,hole,bT,aF,aS] at h;split at h
  ·obtain ⟨a,cap,h1,h2,h3,h4,h5⟩:=h;refine ⟨a,cap,h1,h2,λhn=>by grind,λad j0=>?_⟩
   obtain ⟨g1,g2,g3,Fi,g4,g5⟩:=h5 ad j0;refine ⟨λ_=>g2,λi x hx=>?_⟩
   obtain ⟨L,hl,hL,hr⟩:=g5 i x hx;have hi:i < List.length v:=(aM.1 hx).1;refine ⟨L,hl,λj u hu=>?_,ih hr λb k hp=>hF b k ?_⟩
   ·rw[g1,bE];refine ⟨hL j u hu,hF _ _ ?_⟩
    have:=g4 ad.block (i*e.sz+j);have hj:j < e.sz:=hl ▸ (aM.1 hu).1
    have:i*e.sz+j < cap*e.sz:=by
     have h1:(i+1)*e.sz<=cap*e.sz:=aX _ Bys;grind
    grind [de]
   grind [dz]
  grind [Ro.mono]
 | ptr e ih=>
  intro m v cs F h hF;simp only[ax,hole,bT,aF,aS] at h;split at h
  ·obtain ⟨b,h1,h2,L,F1,h3,h4,h5,h6⟩:=h;refine ⟨_,h1,rfl,L,h3,λj u hu=>⟨h4 j u hu,hF _ _ ?_⟩,ih h6 λb' k hp=>hF _ _ ?_⟩
   all_goals grind [de]
  grind [Ro.mono]
 | arr n e ih=>intro m v cs F h hF;exact Ro.mono (λ_ _ _ _ h=>h) hA _ h.2
 | map k v ihk ihv=>
  intro m x cs F h hF;simp only[ax,hole,bT,aF,aS] at h;split at h
  ·obtain ⟨h1,h2,r,vH,h3,h4,h5,h6,h7⟩:=h;refine ⟨h1,h2,r,vH,h3,h4,hF _ _ h5,h6,λi y hy=>?_⟩
   grind [Ro.mono]
  grind [Ro.mono]
 | _=>intro m v cs F h hF;exact Ro.mono (λ_ _ _ _ h=>h) hA _ h
end OT
set_option linter.unusedVariables false
set_option linter.unusedSimpArgs false
namespace OT
open Go
theorem SH {m:Md} (h:m.kS=true):m.l.kS=true:=by cases m <;> simp_all [Md.kS,Md.l]
theorem SI {m:Md} (h:m.kS=true):m.r.kS=true:=by cases m <;> simp_all [Md.kS,Md.r]
theorem LV {m:Md} (h:m.kS=true):m.e.kS=true:=by cases m <;> simp_all [Md.kS,Md.e]
theorem yn {m:Md} (h:m.kS=true):m.own=false:=by cases m <;> simp_all [Md.kS,Md.own]
theorem iF (t:Ty):(an t).kS=true:=by
 induction t <;> simp_all [an,u0,Md.kS]
theorem acd {m m1:Md} (h:fits m m1=true):fits m.l m1.l=true:=by cases m <;> cases m1 <;> simp_all [fits,Md.l]
theorem ace {m m1:Md} (h:fits m m1=true):fits m.r m1.r=true:=by cases m <;> cases m1 <;> simp_all [fits,Md.r]
theorem Wo {m m1:Md} (h:fits m m1=true):fits m.e m1.e=true:=by cases m <;> cases m1 <;> simp_all [fits,Md.e]
theorem Jn {m m1:Md} (h:fits m m1=true):m1.own=true->m.own=true:=by
 intro h1;cases m <;> cases m1 <;> simp_all [fits,Md.own]
theorem LW {m m1:Md} (h:fits m m1=true) (h1:m1.own=false):m1.e.kS=true\/∃ e,m1=.arr e:=by
 cases m <;> cases m1 <;> simp_all [fits,Md.own,Md.e,Md.kS]
theorem EP:∀ {m m1:Md},fits m m1=true->m.kS=true->m1.kS=true:=by
 intro m
 induction m with
 | leaf=>grind [fits]
 | pair a b nE nw=>
  intro m1 h hn;cases m1 <;> grind [fits,Md.kS]
 | arr e ih=>
  intro m1 h hn;cases m1 <;> grind [fits,Md.kS]
 | aa o e ih=>
  intro m1 h hn;cases m1 <;> grind [fits,Md.kS]
 | ptr o e ih=>
  intro m1 h hn;cases m1 <;> grind [fits,Md.kS]
section
variable {P:Program} {w:World} {A:Cells}
theorem Ro.rep:∀ (t:Ty) {m:Md} {v:t.den} {cs:List Value} (F:FP),m.kS=true->Ro P w A t v cs->ax P w A t m [] v cs F:=by
 intro t
 induction t with
 | pair a b nE nw=>
  intro m v cs F hm h;exact ⟨rfl,λ_ _=>0,λ_ _=>0,λ_ _=>aZ _,nE _ (SH hm) h.1,nw _ (SI hm) h.2⟩
 | aa e ih=>grind [ax,hole,yn,LV]
 | ptr e ih=>grind [ax,hole,yn,LV]
 | arr n e ih=>intro m v cs F hm h;exact ⟨rfl,h⟩
 | map k v=>grind [ax,hole,yn,LV]
 | _=>intro m v cs F hm h;exact h
theorem ax.ro:∀ (t:Ty) {m:Md} {v:t.den} {cs:List Value} {F:FP},m.kS=true->ax P w A t m [] v cs F->Ro P w A t v cs:=by
 intro t
 induction t with
 | pair a b nE nw=>
  intro m v cs F hm h;obtain ⟨_,F1,F2,_,h1,h2⟩:=h;exact ⟨nE (SH hm) h1,nw (SI hm) h2⟩
 | aa e ih=>grind [ax,hole,yn]
 | ptr e ih=>grind [ax,hole,yn]
 | arr n e ih=>intro m v cs F hm h;exact h.2
 | map k v=>grind [ax,hole,yn]
 | _=>intro m v cs F hm h;exact h
theorem Ro.flat:∀ (t:Ty) {m:Md} {v:t.den} {cs:List Value} (F:FP),t.flat=true->Ro P w A t v cs->ax P w A t m [] v cs F:=by
 intro t
 induction t with
 | pair a b nE nw=>
  intro m v cs F hm h;simp only[Ty.flat,aD] at hm;exact ⟨rfl,λ_ _=>0,λ_ _=>0,λ_ _=>aZ _,nE _ hm.1 h.1,nw _ hm.2 h.2⟩
 | aa e ih=>grind [Ty.flat]
 | ptr e ih=>grind [Ty.flat]
 | arr n e ih=>intro m v cs F hm h;exact ⟨rfl,h⟩
 | map k v=>grind [Ty.flat]
 | _=>intro m v cs F hm h;exact h
theorem ax.flat:∀ (t:Ty) {m:Md} {H:List Path} {v:t.den} {cs:List Value} {F:FP},t.flat=true->ax P w A t m H v cs F->Ro P w A t v cs:=by
 intro t
 induction t with
 | pair a b nE nw=>
  intro m H v cs F hm h;simp only[Ty.flat,aD] at hm;obtain ⟨_,F1,F2,_,h1,h2⟩:=h;exact ⟨nE hm.1 h1,nw hm.2 h2⟩
 | aa e ih=>grind [Ty.flat]
 | ptr e ih=>grind [Ty.flat]
 | arr n e ih=>intro m H v cs F hm h;exact h.2
 | map k v=>grind [Ty.flat]
 | _=>intro m H v cs F hm h;exact h
theorem ax.fits:∀ (t:Ty) {m m1:Md} {v:t.den} {cs:List Value} {F:FP},fits m m1=true->ax P w A t m [] v cs F->(∀ b i,F b i<=1) ->
  ∃ F1:FP,(∀ b i,F1 b i<=F b i)/\∀ A':Cells,(∀ b i,A b i->A' b i)->(∀ b i,1<=F b i->F1 b i=0->A' b i)->ax P w A' t m1 [] v cs F1:=by
 intro t
 induction t with
 | pair a b nE nw=>
  intro m m1 v cs F hf h hF;obtain ⟨_,Fa,Fb,hs,h1,h2⟩:=h;obtain ⟨G1,hG1,k1⟩:=nE (acd hf) h1 (λb i=>by grind);obtain ⟨G2,hG2,k2⟩:=nw (ace hf) h2 (λb i=>by grind);refine ⟨λb i=>G1 b i+G2 b i,λb i=>by grind,λA' hA ol=>⟨rfl,G1,G2,λ_ _=>aH _,k1 A' hA λb i hp hz=>?_,k2 A' hA λb i hp hz=>?_⟩⟩
  ·have:=hs b i;have:=hF b i;have:=hG2 b i
   exact ol b i Bys (by grind)
  ·have:=hs b i;have:=hF b i;have:=hG1 b i
   exact ol b i Bys (by grind)
 | aa e ih=>
  intro m m1 v cs F hf h hF;by_cases Ee:m1.own=true
  ·have hm:=Jn hf Ee;simp only[ax,hole,bT,aF,aS,hm,aJ] at h;obtain ⟨a,cap,h1,h2,h3,h4,h5⟩:=h
   cases a with
   | none=>
    refine ⟨λ_ _=>0,λ_ _=>aZ _,λA' hA ol=>?_⟩
    grind [ax,hole]
   | some ad=>
    obtain ⟨g1,g2,g3,Fi,g4,g5⟩:=h5 ad rfl
    have each:∀ i,∃ Gi:FP,(∀ b k,Gi b k<=Fi i b k)/\∀ A':Cells,(∀ b i,A b i->A' b i)->(∀ b k,1<=Fi i b k->Gi b k=0->A' b k) ->
      ∀ x,v[i]?=some x->∃ L:List Value,L.length=e.sz/\Has w ad.block (i*e.sz) L/\ax P w A' e m1.e (([]:List Path).filterMap (k8 i)) x L Gi:=by
     intro i
     cases hx:(v:List e.den)[i]? with
     | none=>exact ⟨λ_ _=>0,λ_ _=>aZ _,λA' _ _ x OB=>by cases OB⟩
     | some x=>
      obtain ⟨L,hl,hL,hr⟩:=g5 i x hx;have hi:i < List.length v:=(aM.1 hx).1;obtain ⟨G,hG,k⟩:=ih (Wo hf) hr (λb k=>by have:=dz Fi hi b k;grind);exact ⟨G,hG,λA' hA ol x' OB=>by injection OB with OB;subst OB;exact ⟨L,hl,hL,k A' hA ol⟩⟩
    have ⟨Gi,hGi⟩:=fQ each;refine ⟨λb k=>de ad.block 0 (cap*e.sz) b k+bk (List.length v) Gi b k,λb k=>?_,λA' hA ol=>?_⟩
    ·have:=g4 b k;have:=LU b k (f:=Gi) (g:=Fi) (n:=List.length v) λj _=>(hGi j).1 b k
     grind
    ·simp only[ax,hole,bT,aF,aS,Ee,aJ];refine ⟨some ad,cap,h1,h2,h3,h4,λdt Uf=>?_⟩
     injection Uf with Uf;subst Uf;refine ⟨g1,g2,g3,Gi,λ_ _=>aH _,λi x hx=>(hGi i).2 A' hA (λb k hp hz=>?_) x hx⟩
     have hi:i < List.length v:=(aM.1 hx).1;have h1:=g4 b k;have h2:=hF b k;have h3:=dz Fi hi b k
     refine ol b k Bys ?_;show de ad.block 0 (cap*e.sz) b k+bk (List.length v) Gi b k=0
     have:bk (List.length v) Gi b k=0:=by
      rcases bJ (bk (List.length v) Gi b k) with h0 | h0
      ·exact h0
      ·obtain ⟨j,hj,hp'⟩:=OA h0;have:=(hGi j).1 b k;by_cases po:j=i
       all_goals grind [wo]
     omega
  ·have OC:m1.own=false:=by simpa using Ee
   have rD:m1.e.kS=true:=by
    rcases LW hf OC with h | ⟨e',rfl⟩
    ·exact h
    ·cases m <;> simp[OT.fits] at hf;simp only[ax,hole,bT,aF,aS,Md.own] at h;exact EP hf h.2.1
   refine ⟨λ_ _=>0,λ_ _=>aZ _,λA' hA ol=>?_⟩
   grind [ax.yK,ax]
 | ptr e ih=>
  intro m m1 v cs F hf h hF;by_cases Ee:m1.own=true
  ·have hm:=Jn hf Ee;simp only[ax,hole,bT,aF,aS,hm,aJ] at h;obtain ⟨b,h1,h2,L,F1,h3,h4,h5,h6⟩:=h;obtain ⟨G,hG,k⟩:=ih (Wo hf) h6 (λb' i=>by grind);refine ⟨λb' k=>de b 0 e.sz b' k+G b' k,λb' k=>by grind,λA' hA ol=>?_⟩
   simp only[ax,hole,bT,aF,aS,Ee,aJ];refine ⟨b,h1,h2,L,G,h3,h4,λ_ _=>aH _,k A' hA λb' i hp hz=>ol b' i ?_ ?_⟩
   all_goals grind
  ·have OC:m1.own=false:=by simpa using Ee
   have rD:m1.e.kS=true:=by
    rcases LW hf OC with h | ⟨e',rfl⟩
    ·exact h
    ·cases m <;> simp[OT.fits] at hf;simp only[ax,hole,bT,aF,aS,Md.own] at h;exact EP hf h.2.1
   refine ⟨λ_ _=>0,λ_ _=>aZ _,λA' hA ol=>?_⟩
   grind [ax.yK,ax]
 | arr n e ih=>intro m m1 v cs F hf h hF;exact ⟨λ_ _=>0,λ_ _=>aZ _,λA' hA ol=>⟨rfl,Ro.mono (λ_ _ _ _ h=>h) hA _ h.2⟩⟩
 | map k v ihk ihv=>
  intro m m1 x cs F hf h hF;by_cases Ee:m1.own=true
  ·have hm:=Jn hf Ee;simp only[ax,hole,bT,aF,aS,hm,aJ] at h;obtain ⟨h1,h2,r,vH,h3,h4,h5,h6,h7⟩:=h;refine ⟨F,λ_ _=>aH _,λA' hA ol=>?_⟩
   grind [ax,hole,Ro.mono]
  ·have OC:m1.own=false:=by simpa using Ee
   have rD:m1.e.kS=true:=by
    rcases LW hf OC with h | ⟨e',rfl⟩
    ·exact h
    ·cases m <;> simp[OT.fits] at hf;simp only[ax,hole,bT,aF,aS,Md.own] at h;exact EP hf h.2.1
   refine ⟨λ_ _=>0,λ_ _=>aZ _,λA' hA ol=>?_⟩
   grind [ax.yK,ax]
 | _=>intro m m1 v cs F hf h hF;exact ⟨λ_ _=>0,λ_ _=>aZ _,λA' hA ol=>Ro.mono (λ_ _ _ _ h=>h) hA _ h⟩
end
end OT
set_option linter.unusedVariables false
set_option linter.unusedSimpArgs false
namespace OT
open Go
def rd (w:World) (b o n:Nat):List Value:=(List.range n).map λj=>(ce w b (o+j)).getD undef
theorem AI (w:World) (b o n:Nat):(rd w b o n).length=n:=by simp[rd]
theorem gc {w:World} {b o:Nat} {L:List Value} {n:Nat} (h:Has w b o L) (hn:L.length=n):rd w b o n=L:=by
 subst hn;apply eE;intro j;unfold rd;rw[eR];by_cases hj:j < L.length
 ·rw[gM hj];have:=h j L[j] (aB hj);grind
 grind
structure Pl where
 t:Ty
 H:List Path
 cs:List Value
 ad:Option (Nat×Nat)
def iY (ad:Option (Nat×Nat)) (k:Nat):Option (Nat×Nat):=ad.map λx=>(x.1,x.2+k)
def bt (w:World):Path->Ty->List Path->List Value->Option (Nat×Nat)->Option Pl
 | [],t,H,cs,ad=>some ⟨t,H,cs,ad⟩
 | .fst::p,.pair a _,H,cs,ad=>if hole H then none else bt w p a (H.filterMap xw) (cs.take a.sz) ad
 | .snd::p,.pair a b,H,cs,ad=>if hole H then none else bt w p b (H.filterMap xx) (cs.drop a.sz) (iY ad a.sz)
 | .idx i::p,.aa e,H,cs,_=>if hole H then none else match cs with
  | [.slice (some a) n _]=>if i < n then bt w p e (H.filterMap (k8 i)) (rd w a.block (a.off+i*e.sz) e.sz) (some (a.block,a.off+i*e.sz)) else none
  | _=>none
 | .rB i::p,.arr n e,H,cs,ad=>if H.isEmpty then (if i < n then bt w p e [] ((cs.drop (i*e.sz)).take e.sz) (iY ad (i*e.sz)) else none) else none
 | _,_,_,_,_=>none
def yL:Ty->Bool
 | .aa _ | .map _ _=>true
 | _=>false
def tj (d:Nat) (full:Prop) (w:World) (t:Ty) (H:List Path) (cs:List Value) (ad:Option (Nat×Nat)) (w2:World) (H2:List Path) (d9:List Value):Prop:=
 ∀ q pl,eu q<=d->bt w q t H cs ad=some pl->∃ H' cc,bt w2 q t H2 d9 ad=some ⟨pl.t,H',cc,pl.ad⟩/\((eu q < d/\yL pl.t=true)\/full->cc=pl.cs)
theorem GO {R:Type} {H:List Path} {i:Nat} {K:List Path->Option R} {r:R} (h:zM H i K=some r) :
  K (H.filterMap (k8 i))=some r/\(∀ j,j≠i->H.filterMap (k8 j)=[])/\hole H=false:=by
 unfold zM at h;split at h
 ·exact ⟨h,λ_ _=>rfl,rfl⟩
 ·rename_i j q;split at h
  ·rename_i ul;subst ul;refine ⟨by simpa [k8] using h,λj hj=>by simp[k8,hj],rfl⟩
  ·cases h
 ·cases h
theorem EQ {R S:Type} {H:List Path} {i:Nat} {K:List Path->Option R} {r:R} (h:zM H i K=some r) (K2:List Path->Option S) :
  zM H i K2=K2 (H.filterMap (k8 i)):=by
 unfold zM at h ⊢;grind [k8]
theorem vI (H:List Path):(H.map (.fst::·)).filterMap xw=H:=by
 induction H <;> simp_all [xw]
theorem vJ (H:List Path):(H.map (.snd::·)).filterMap xx=H:=by
 induction H <;> simp_all [xx]
theorem wt (H:List Path):(H.map (.snd::·)).filterMap xw=[]:=by
 simp_all [xw]
theorem wu (H:List Path):(H.map (.fst::·)).filterMap xx=[]:=by
 simp_all [xx]
theorem Gx (i:Nat) (H:List Path):(H.map (.idx i::·)).filterMap (k8 i)=H:=by
 induction H <;> simp_all [k8]
theorem Cl {i j:Nat} (h:j≠i) (H:List Path):(H.map (.idx i::·)).filterMap (k8 j)=[]:=by
 simp_all [k8]
theorem sG (s:Step) (H:List Path):hole (H.map (s::·))=false:=by
 grind [hole]
theorem tZ (H1 H2:List Path):hole (H1++H2)=(hole H1||hole H2):=by simp[hole]
theorem adn {w:World}:∀ (q:Path) (t:Ty) {H H2:List Path} {cs:List Value} {ad:Option (Nat×Nat)} {pl MQ:Pl},bt w q t H cs ad=some pl->bt w q t H2 cs ad=some MQ->MQ.t=pl.t/\MQ.cs=pl.cs/\MQ.ad=pl.ad:=by
 intro q
 induction q with
 | nil=>grind [bt]
 | cons s q ih=>
  intro t H H2 cs ad pl MQ h h2
  cases t with
  | pair a b=>
   cases s <;> grind [bt]
  | aa e=>
   cases s with
   | idx i=>
    simp only[bt] at h h2;grind
   | _=>simp[bt] at h
  | arr n e=>
   cases s <;> grind [bt]
  | _=>grind [bt]
section
variable {P:Program}
theorem yo {w w2:World} {A:Cells} (hA:∀ b i,A b i->∀ u,ce w b i=some u->ce w2 b i=some u) :
  ∀ (q:Path) (t:Ty) {m:Md} {H:List Path} {v:t.den} {cs:List Value} {F:FP} {ad:Option (Nat×Nat)} {pl:Pl},ax P w A t m H v cs F->(∀ b i,1<=F b i->∀ u,ce w b i=some u->ce w2 b i=some u) ->
  bt w q t H cs ad=some pl->bt w2 q t H cs ad=some pl:=by
 intro q
 induction q with
 | nil=>intro t m H v cs F ad pl _ _ h;exact h
 | cons s q ih=>
  intro t m H v cs F ad pl hr hF h
  cases t with
  | pair a b=>
   obtain ⟨h0,F1,F2,hs,h1,h2⟩:=hr;cases s <;> grind [bt]
  | aa e=>
   cases s with
   | fst=>simp[bt] at h
   | snd=>simp[bt] at h
   | rB i=>simp[bt] at h
   | idx i=>
    simp only[ax] at hr;simp only[bt] at h ⊢;split at h
    ·cases h
    ·rename_i hh;rw[aV hh];rw[aV hh] at hr;split at hr
     ·obtain ⟨a,cap,rfl,h2,h3,h4,h5⟩:=hr
      cases a with
      | none=>cases h
      | some iP=>
       obtain ⟨g1,g2,g3,Fi,g4,g5⟩:=h5 iP rfl;simp only at h ⊢;split at h
       ·rename_i hi;rw[aR hi];obtain ⟨L,hl,hL,iT⟩:=g5 i _ (aB hi);have a_:(i+1)*e.sz<=cap*e.sz:=aX _ Bys;rw[bW] at a_
        have hL2:Has w2 iP.block (i*e.sz) L:=λj u hu=>by
         have hj:j < e.sz:=hl ▸ (aM.1 hu).1;refine hF _ _ ?_ u (hL j u hu);grind [de]
        rw[g1,bE,gc hL hl] at h;grind [gc,dz]
       ·cases h
     ·obtain ⟨rfl,rD,a,cap,rfl,h2,h3,h4⟩:=hr
      cases a with
      | none=>cases h
      | some iP=>
       simp only at h ⊢;split at h
       ·rename_i hi;rw[aR hi];obtain ⟨L,hl,hL,iT⟩:=(h4 iP rfl).2 i _ (aB hi);rw[gc (λj u hu=>(hL j u hu).1) hl] at h;rw[gc (λj u hu=>hA _ _ (hL j u hu).2 u (hL j u hu).1) hl];exact ih e (Ro.rep e (λ_ _=>0) rD iT) (λb k hp=>by simp at hp) h
       ·cases h
  | arr n e=>
   cases s with
   | fst=>simp[bt] at h
   | snd=>simp[bt] at h
   | idx i=>simp[bt] at h
   | rB i=>
    obtain ⟨rfl,hf,hl,hlen,hr⟩:=hr;simp only[bt,cM,aJ] at h ⊢;split at h
    ·rename_i hi;rw[aR hi];exact ih e (Ro.flat e (m:=.leaf) (λ_ _=>0) hf (hr i _ (aB (by grind)))) (λb k hp=>by simp at hp) h
    ·cases h
  | _=>grind [bt]
theorem Wp {w:World} {A:Cells} {S:Nat->Nat->Prop} (hA:∀ b i,A b i->S b i) :
  ∀ (q:Path) (t:Ty) {m:Md} {H:List Path} {v:t.den} {cs:List Value} {F:FP} {ad:Option (Nat×Nat)} {pl:Pl},ax P w A t m H v cs F->(∀ b i,1<=F b i->S b i) ->
  (∀ b o,ad=some (b,o)->∀ j,j < t.sz->S b (o+j))->bt w q t H cs ad=some pl->∀ b o,pl.ad=some (b,o)->∀ j,j < pl.t.sz->S b (o+j):=by
 intro q
 induction q with
 | nil=>grind [bt]
 | cons s q ih=>
  intro t m H v cs F ad pl hr hF j0 h
  cases t with
  | pair a b=>
   obtain ⟨h0,F1,F2,hs,h1,h2⟩:=hr
   cases s with
   | fst=>grind [bt,Ty.sz]
   | snd=>
    simp only[bt,h0,aS] at h;refine ih b h2 (λb i hp=>hF b i (by grind)) (λb' o e j hj=>?_) h
    cases ad with
    | none=>cases e
    | some y=>
     simp only[iY,bQ,aQ,bL] at e;obtain ⟨rfl,rfl⟩:=e;grind [Ty.sz]
   | idx i=>simp[bt] at h
   | rB i=>simp[bt] at h
  | aa e=>
   cases s with
   | fst=>simp[bt] at h
   | snd=>simp[bt] at h
   | rB i=>simp[bt] at h
   | idx i=>
    simp only[ax] at hr;simp only[bt] at h;split at h
    ·cases h
    ·rename_i hh;rw[aV hh] at hr;split at hr
     ·obtain ⟨a,cap,rfl,h2,h3,h4,h5⟩:=hr
      cases a with
      | none=>cases h
      | some iP=>
       obtain ⟨g1,g2,g3,Fi,g4,g5⟩:=h5 iP rfl;simp only at h;split at h
       ·rename_i hi;obtain ⟨L,hl,hL,iT⟩:=g5 i _ (aB hi);have a_:(i+1)*e.sz<=cap*e.sz:=aX _ Bys;rw[bW] at a_;rw[g1,bE,gc hL hl] at h;grind [dz,de]
       ·cases h
     ·obtain ⟨rfl,rD,a,cap,rfl,h2,h3,h4⟩:=hr
      cases a with
      | none=>cases h
      | some iP=>
       simp only at h;split at h
       ·rename_i hi;obtain ⟨L,hl,hL,iT⟩:=(h4 iP rfl).2 i _ (aB hi);rw[gc (λj u hu=>(hL j u hu).1) hl] at h;refine ih e (Ro.rep e (λ_ _=>0) rD iT) (λb k hp=>by simp at hp) (λb' o e' j hj=>?_) h;simp only[aQ,bL] at e';obtain ⟨rfl,rfl⟩:=e';exact hA _ _ (hL j _ (aB Bys)).2
       ·cases h
  | arr n e=>
   cases s with
   | fst=>simp[bt] at h
   | snd=>simp[bt] at h
   | idx i=>simp[bt] at h
   | rB i=>
    obtain ⟨rfl,hf,hl,hlen,hr⟩:=hr;simp only[bt,cM,aJ] at h;split at h
    ·rename_i hi;refine ih e (Ro.flat e (m:=.leaf) (λ_ _=>0) hf (hr i _ (aB (by grind)))) (λb k hp=>by simp at hp) (λb' o e' j hj=>?_) h
     cases ad with
     | none=>cases e'
     | some y=>
      simp only[iY,bQ,aQ,bL] at e';obtain ⟨rfl,rfl⟩:=e';have a_:(i+1)*e.sz<=n*e.sz:=aX _ hi;rw[bW] at a_;have:=j0 y.1 y.2 rfl (i*e.sz+j) (by grind [Ty.sz])
      rwa [cB]
    ·cases h
  | _=>grind [bt]
theorem SJ {w:World} {A:Cells} :
  ∀ (q:Path) (t:Ty) {m:Md} {H:List Path} {v:t.den} {cs:List Value} {F:FP} {ad:Option (Nat×Nat)} {pl:Pl},ax P w A t m H v cs F ->
  (∀ b o,ad=some (b,o)->Has w b o cs)->bt w q t H cs ad=some pl->(∀ b o,pl.ad=some (b,o)->Has w b o pl.cs)/\∃ (m':Md) (v':pl.t.den) (F':FP),ax P w A pl.t m' pl.H v' pl.cs F':=by
 intro q
 induction q with
 | nil=>grind [bt]
 | cons s q ih=>
  intro t m H v cs F ad pl hr j0 h
  cases t with
  | pair a b=>
   obtain ⟨h0,F1,F2,hs,h1,h2⟩:=hr
   cases s with
   | fst=>
    simp only[bt,h0,aS] at h;exact ih a h1 (λb' o e j u hu=>j0 b' o e j u (by grind)) h
   | snd=>
    simp only[bt,h0,aS] at h;refine ih b h2 (λb' o e j u hu=>?_) h
    cases ad with
    | none=>cases e
    | some y=>
     simp only[iY,bQ,aQ,bL] at e;obtain ⟨rfl,rfl⟩:=e;rw[bK] at hu;have:=j0 y.1 y.2 rfl (a.sz+j) u hu
     rwa [cB]
   | idx i=>simp[bt] at h
   | rB i=>simp[bt] at h
  | aa e=>
   cases s with
   | fst=>simp[bt] at h
   | snd=>simp[bt] at h
   | rB i=>simp[bt] at h
   | idx i=>
    simp only[ax] at hr;simp only[bt] at h;split at h
    ·cases h
    ·rename_i hh;rw[aV hh] at hr;split at hr
     ·obtain ⟨a,cap,rfl,h2,h3,h4,h5⟩:=hr
      cases a with
      | none=>cases h
      | some iP=>
       obtain ⟨g1,g2,g3,Fi,g4,g5⟩:=h5 iP rfl;simp only at h;split at h
       ·rename_i hi;obtain ⟨L,hl,hL,iT⟩:=g5 i _ (aB hi);grind [gc]
       ·cases h
     ·obtain ⟨rfl,rD,a,cap,rfl,h2,h3,h4⟩:=hr
      cases a with
      | none=>cases h
      | some iP=>
       simp only at h;split at h
       ·rename_i hi;obtain ⟨L,hl,hL,iT⟩:=(h4 iP rfl).2 i _ (aB hi);rw[gc (λj u hu=>(hL j u hu).1) hl] at h;refine ih e (Ro.rep e (λ_ _=>0) rD iT) (λb' o e'=>?_) h;simp only[aQ,bL] at e';obtain ⟨rfl,rfl⟩:=e';exact λj u hu=>(hL j u hu).1
       ·cases h
  | arr n e=>
   cases s with
   | fst=>simp[bt] at h
   | snd=>simp[bt] at h
   | idx i=>simp[bt] at h
   | rB i=>
    obtain ⟨rfl,hf,hl,hlen,hr⟩:=hr;simp only[bt,cM,aJ] at h;split at h
    ·rename_i hi;refine ih e (Ro.flat e (m:=.leaf) (λ_ _=>0) hf (hr i _ (aB (by grind)))) (λb' o e' j u hu=>?_) h
     cases ad with
     | none=>cases e'
     | some y=>
      simp only[iY,bQ,aQ,bL] at e';obtain ⟨rfl,rfl⟩:=e';rw[bN] at hu;split at hu
      ·rw[bK] at hu;have:=j0 y.1 y.2 rfl (i*e.sz+j) u hu
       rwa [cB]
      ·cases hu
    ·cases h
  | _=>grind [bt]
theorem Dk {w w2:World} {A A2:Cells} :
  ∀ (q:Path) (t:Ty) {m m2:Md} {H H2:List Path} {v v2:t.den} {cs d9:List Value} {F F2:FP} {ad:Option (Nat×Nat)} {pl:Pl},
  ax P w2 A2 t m2 H2 v2 d9 F2->(eu q=0\/t.flat=true) ->
  bt w q t H cs ad=some pl->∃ H' cc,bt w2 q t H2 d9 ad=some ⟨pl.t,H',cc,pl.ad⟩/\(t.flat=true->yL pl.t=false):=by
 intro q
 induction q with
 | nil=>
  intro t m m2 H H2 v v2 cs d9 F F2 ad pl hr hq h;simp only[bt,aQ] at h;subst h;exact ⟨_,_,rfl,λhf=>by cases t <;> simp_all [Ty.flat,yL]⟩
 | cons s q ih=>
  intro t m m2 H H2 v v2 cs d9 F F2 ad pl hr hq h
  cases t with
  | pair a b=>
   obtain ⟨h0,F1,F2,hs,h1,h2⟩:=hr;simp only[Ty.flat,aD] at hq ⊢
   cases s with
   | fst=>
    simp only[bt,h0,aS] at h ⊢;split at h
    ·cases h
    ·obtain ⟨H',cc,h3,h4⟩:=ih a (v:=v.1) (m:=.leaf) (F:=F) h1 (hq.imp (λh=>by simpa [eu] using h) (·.1)) h;grind
   | snd=>
    simp only[bt,h0,aS] at h ⊢;split at h
    ·cases h
    ·obtain ⟨H',cc,h3,h4⟩:=ih b (v:=v.2) (m:=.leaf) (F:=F) h2 (hq.imp (λh=>by simpa [eu] using h) (·.2)) h;grind
   | idx i=>simp[bt] at h
   | rB i=>simp[bt] at h
  | aa e=>
   cases s <;> grind [bt,eu,Ty.flat]
  | arr n e=>
   cases s with
   | fst=>simp[bt] at h
   | snd=>simp[bt] at h
   | idx i=>simp[bt] at h
   | rB i=>
    obtain ⟨rfl,hf,hl,hlen,hr⟩:=hr;simp only[bt,cM,aJ] at h ⊢;split at h
    ·split at h
     ·rename_i hi;rw[aR hi];obtain ⟨H',cc,h3,h4⟩:=ih e (v:=e.zero) (m:=.leaf) (F:=F) (Ro.flat e (m:=.leaf) (λ_ _=>0) hf (hr i _ (aB (by grind)))) (.inr hf) h;grind
     ·cases h
    ·cases h
  | _=>grind [bt]
theorem tj.zero {w w2:World} {A A2:Cells} {t:Ty} {m2:Md} {H H2:List Path} {v2:t.den} {cs d9:List Value} {F2:FP} (ad:Option (Nat×Nat)) (h:ax P w2 A2 t m2 H2 v2 d9 F2):tj 0 False w t H cs ad w2 H2 d9:=by
 intro q pl hq hp;obtain ⟨H',cc,h1,_⟩:=Dk (A:=A) (m:=m2) (v:=v2) (F:=F2) q t h (.inl Bys) hp;grind
theorem tj.flat {w w2:World} {A A2:Cells} {t:Ty} {m2:Md} {H H2:List Path} {v2:t.den} {cs d9:List Value} {F2:FP} (ad:Option (Nat×Nat)) (h:ax P w2 A2 t m2 H2 v2 d9 F2) (hf:t.flat=true) (d:Nat):tj d False w t H cs ad w2 H2 d9:=by
 intro q pl hq hp;obtain ⟨H',cc,h1,h2⟩:=Dk (A:=A) (m:=m2) (v:=v2) (F:=F2) q t h (.inr hf) hp;grind
theorem tj.same {w w2:World} {A:Cells} {t:Ty} {m:Md} {H:List Path} {v:t.den} {cs:List Value} {F:FP} (ad:Option (Nat×Nat)) (h:ax P w A t m H v cs F)
  (hA:∀ b i,A b i->∀ u,ce w b i=some u->ce w2 b i=some u) (hF:∀ b i,1<=F b i->∀ u,ce w b i=some u->ce w2 b i=some u) (d:Nat) (full:Prop):tj d full w t H cs ad w2 H cs:=by
 intro q pl hq hp;exact ⟨pl.H,pl.cs,yo hA q t h hF hp,λ_=>rfl⟩
end
end OT
set_option linter.unusedVariables false
set_option linter.unusedSimpArgs false
namespace OT
open Go
def Cm (cs:List Value) (off:Nat) (n:Nat) (c2:List Value):List Value:=cs.take off++c2++cs.drop (off+n)
def lU (loc:Option Nat) (cs:List Value) (n:Nat) (c2:List Value):List Value:=match loc with
 | some off=>Cm cs off n c2
 | none=>cs
theorem wT {cs c2:List Value} {off n:Nat} (h:off+n<=cs.length) (h2:c2.length=n):(Cm cs off n c2).length=cs.length:=by
 simp[Cm];omega
theorem Cn {cs:List Value} {off n:Nat} (h:off+n<=cs.length):Cm cs off n ((cs.drop off).take n)=cs:=by
 unfold Cm;rw[cA]
 have:(cs.drop off).take n++cs.drop (off+n)=cs.drop off:=by
  rw[<-dB];exact dA n (cs.drop off)
 rw[this];exact dA off cs
theorem Ef {cs c2:List Value} {off n:Nat} (h:off+n<=cs.length) (h2:c2.length=n) (j:Nat):(Cm cs off n c2)[j]?=if off<=j/\j < off+n then c2[j - off]? else cs[j]?:=by
 unfold Cm;rw[List.getElem?_append,List.getElem?_append];simp only[bU,dC];have h1:min off cs.length=off:=by omega
 rw[h1,h2];split
 ·split
  ·rw[aV Bys,bN,aR Bys]
  ·rw[aR Bys]
 ·rw[aV Bys,bK];congr 1;omega
theorem aa9 {cs c2:List Value} {k n' off n:Nat} (h:off+n<=n') (h':k+n'<=cs.length) (h2:c2.length=n) :
  Cm cs k n' (Cm ((cs.drop k).take n') off n c2)=Cm cs (k+off) n c2:=by
 have hl:((cs.drop k).take n').length=n':=by simp;omega
 apply eE;intro j;rw[Ef h' (by rw[wT Bys h2,hl]),Ef Bys h2,Ef Bys h2];by_cases h3:k<=j/\j < k+n'
 ·rw[aR h3];by_cases h4:off<=j - k/\j - k < off+n
  ·rw[aR h4,aR Bys];congr 1;omega
  ·rw[aV h4,aV Bys,bN,aR Bys,bK];congr 1;omega
 ·rw[aV h3,aV Bys]
theorem SK {w2:World} {b o:Nat} {cs c2:List Value} {off n:Nat} (h:off+n<=cs.length) (h2:c2.length=n)
  (hc:Has w2 b (o+off) c2) (hk:∀ j u,cs[j]?=some u->¬ (off<=j/\j < off+n)->ce w2 b (o+j)=some u):Has w2 b o (Cm cs off n c2):=by
 intro j u hu;rw[Ef h h2] at hu;split at hu
 ·have:=hc _ u hu;rw[show o+off+(j - off)=o+j by omega] at this;exact this
 ·exact hk j u hu (by assumption)
section
variable {P:Program} {R:Type}
theorem acf {w:World} {A:Cells} {r:R}:∀ (p:Path) (t:Ty) {m:Md} {H:List Path} {v:t.den} {cs:List Value} {F:FP} {ad:Option (Nat×Nat)} {K:(t':Ty)->Md->List Path->t'.den->Option R},
  o_ p t m H v K=some r->ax P w A t m H v cs F->(∀ b o,ad=some (b,o)->Has w b o cs) ->
  ∃ (t':Ty) (m':Md) (H':List Path) (v':t'.den) (cc:List Value) (dt:Option (Nat×Nat)) (F':FP),K t' m' H' v'=some r/\(∀ {S:Type} (K0:(t:Ty)->Md->List Path->t.den->Option S),o_ p t m H v K0=K0 t' m' H' v')/\bt w p t H cs ad=some ⟨t',H',cc,dt⟩/\ax P w A t' m' H' v' cc F' /\
   (∀ b i,F' b i<=F b i)/\(∀ b o,dt=some (b,o)->Has w b o cc)/\(ad.isSome=true->dt.isSome=true):=by
 intro p
 induction p with
 | nil=>intro t m H v cs F ad K h hr j0;exact ⟨t,m,H,v,cs,ad,F,h,λ_=>rfl,rfl,hr,λ_ _=>aH _,j0,λh=>h⟩
 | cons s p ih=>
  intro t m H v cs F ad K h hr j0
  cases t with
  | pair a b=>
   obtain ⟨h0,F1,F2,hs,h1,h2⟩:=hr;have hle:=ax.length a h1;have OD:=ax.length b h2;simp only[dC,cC] at hle OD
   cases s with
   | fst=>
    have zF:H.any (·.isEmpty)=false:=h0;simp only[o_,zF] at h
    obtain ⟨t',m',H',v',cc,dt,F',k1,kn,k2,k3,k4,k5,k6⟩:=ih a h h1 (ad:=ad) (λb o hb j u hu=>by
     rw[bN] at hu;split at hu;exact j0 b o hb j u hu;cases hu)
    exact ⟨t',m',H',v',cc,dt,F',k1,λK0=>by simp only[o_,zF];exact kn K0,by simp only[bt,h0];exact k2,k3,λb i=>by have:=hs b i;have:=k4 b i;omega,k5,k6⟩
   | snd=>
    have zF:H.any (·.isEmpty)=false:=h0;simp only[o_,zF] at h
    obtain ⟨t',m',H',v',cc,dt,F',k1,kn,k2,k3,k4,k5,k6⟩:=ih b h h2 (ad:=iY ad a.sz) (λb' o hb j u hu=>by
     cases ad with
     | none=>cases hb
     | some x=>
      simp only[iY,bQ,aQ,bL] at hb;obtain ⟨rfl,rfl⟩:=hb;rw[bK] at hu;have:=j0 x.1 x.2 rfl _ u hu
      rwa [cB])
    exact ⟨t',m',H',v',cc,dt,F',k1,λK0=>by simp only[o_,zF];exact kn K0,by simp only[bt,h0];exact k2,k3,λb i=>by have:=hs b i;have:=k4 b i;omega,k5,λh=>k6 (by cases ad <;> simp_all [iY])⟩
   | idx i=>simp[o_] at h
   | rB i=>simp[o_] at h
  | aa e=>
   cases s with
   | fst=>simp[o_] at h
   | snd=>simp[o_] at h
   | rB i=>simp[o_] at h
   | idx i=>
    simp only[o_] at h;obtain ⟨h1,h2,h3⟩:=GO h
    cases hx:(v:List e.den)[i]? with
    | none=>rw[hx] at h1;cases h1
    | some x=>
     rw[hx] at h1;simp only[aA] at h1;have hi:i < List.length v:=(aM.1 hx).1;simp only[ax,h3,aF,aS] at hr;split at hr
     ·obtain ⟨a,cap,rfl,g2,g3,g4,g5⟩:=hr
      cases a with
      | none=>have:=g4 rfl;omega
      | some iP=>
       obtain ⟨q1,q2,q3,Fi,q4,q5⟩:=g5 iP rfl;obtain ⟨L,hl,hL,iT⟩:=q5 i x hx
       obtain ⟨t',m',H',v',cc,dt,F',k1,kn,k2,k3,k4,k5,k6⟩:=ih e h1 iT (ad:=some (iP.block,i*e.sz)) (λb o hb=>by
        simp only[aQ,bL] at hb;obtain ⟨rfl,rfl⟩:=hb;exact hL)
       refine ⟨t',m',H',v',cc,dt,F',k1,λK0=>by simp only[o_];rw[EQ h,hx];exact kn K0,?_,k3,λb k=>?_,k5,λ_=>k6 rfl⟩
       ·simp only[bt,h3,aF,aS,hi,aJ,q1,bE,gc hL hl];exact k2
       ·have:=k4 b k;have:=q4 b k;have:=dz Fi hi b k;omega
     ·obtain ⟨rfl,rD,a,cap,rfl,g2,g3,g4⟩:=hr
      cases a with
      | none=>have:=g3 rfl;omega
      | some iP=>
       obtain ⟨L,hl,hL,iT⟩:=(g4 iP rfl).2 i x hx;have hL':Has w iP.block (iP.off+i*e.sz) L:=λj u hu=>(hL j u hu).1
       obtain ⟨t',m',H',v',cc,dt,F',k1,kn,k2,k3,k4,k5,k6⟩:=ih e h1 (Ro.rep e (λ_ _=>0) rD iT) (ad:=some (iP.block,iP.off+i*e.sz)) (λb o hb=>by
        simp only[aQ,bL] at hb;obtain ⟨rfl,rfl⟩:=hb;exact hL')
       refine ⟨t',m',H',v',cc,dt,F',k1,λK0=>by simp only[o_];rw[EQ h,hx];exact kn K0,?_,k3,λb k=>?_,k5,λ_=>k6 rfl⟩
       ·simp only[bt,h3,aF,aS,hi,aJ,gc hL' hl];exact k2
       ·have:=k4 b k;omega
  | arr n e=>
   cases s with
   | fst=>simp[o_] at h
   | snd=>simp[o_] at h
   | idx i=>simp[o_] at h
   | rB i=>
    obtain ⟨rfl,hf,hl,hlen,hr⟩:=hr;simp only[o_,cM,aJ] at h
    cases hx:(v:List e.den)[i]? with
    | none=>rw[hx] at h;cases h
    | some x=>
     rw[hx] at h;simp only[aA] at h;have hi:i < n:=hl ▸ (aM.1 hx).1
     obtain ⟨t',m',H',v',cc,dt,F',k1,kn,k2,k3,k4,k5,k6⟩:=ih e h (Ro.flat e (λ_ _=>0) hf (hr i x hx)) (ad:=iY ad (i*e.sz)) (λb' o hb j u hu=>by
      cases ad with
      | none=>cases hb
      | some y=>
       simp only[iY,bQ,aQ,bL] at hb;obtain ⟨rfl,rfl⟩:=hb;rw[bN] at hu;split at hu
       ·rw[bK] at hu;have:=j0 y.1 y.2 rfl _ u hu
        rwa [cB]
       ·cases hu)
     exact ⟨t',m',H',v',cc,dt,F',k1,λK0=>by simp only[o_,cM,aJ,hx,aA];exact kn K0,by simp only[bt,cM,aJ,hi];exact k2,k3,λb k=>by have:=k4 b k;omega,k5,λh=>k6 (by cases ad <;> simp_all [iY])⟩
  | _=>cases s <;> simp[o_] at h
structure ado (P:Program) (w:World) (A:Cells) {R:Type} (r:R) (p:Path) (t:Ty) (m:Md) (H:List Path) (v:t.den) (cs:List Value) (F:FP) (ad:Option (Nat×Nat))
  (f:(t':Ty)->Md->List Path->t'.den->(Md->List Path->t'.den->Option R)->Option R) (K:Md->List Path->t.den->Option R)
  (t':Ty) (m':Md) (H':List Path) (v':t'.den) (cc:List Value) (dt:Option (Nat×Nat)) (F' G:FP) (kk:Md->List Path->t'.den->Option R) (loc:Option Nat):Prop where
 run:f t' m' H' v' kk=some r
 Wq:∀ {S:Type} (K0:(t':Ty)->Md->List Path->t'.den->Option S),o_ p t m H v K0=K0 t' m' H' v'
 place:bt w p t H cs ad=some ⟨t',H',cc,dt⟩
 rep:ax P w A t' m' H' v' cc F'
 sum:∀ b i,F' b i+G b i<=F b i
 has:∀ b o,dt=some (b,o)->Has w b o cc
 vK:∀ off,loc=some off->off+t'.sz<=t.sz/\cc=(cs.drop off).take t'.sz/\dt=iY ad off
 Ug:1<=eu p->loc=none
 out:loc=none->∃ b o,dt=some (b,o)/\∀ j,j < t'.sz->1<=G b (o+j)/\w.frozen? ⟨b,o+j,none⟩=false
 back:∀ m2 H2 (v2:t'.den),kk m2 H2 v2=some r->∀ (w2:World) (A2:Cells) (d9:List Value) (F2:FP),
  (∀ b n,iR w b n->iR w2 b n)->(∀ b i,A b i->A2 b i)->(∀ b i,A b i->∀ u,ce w b i=some u->ce w2 b i=some u) ->
  (∀ b i,1<=G b i->(∀ o,dt=some (b,o)->¬ (o<=i/\i < o+t'.sz))->∀ u,ce w b i=some u->ce w2 b i=some u) ->
  (∀ b o,dt=some (b,o)->Has w2 b o d9)->ax P w2 A2 t' m2 H2 v2 d9 F2->(∀ b i,F2 b i+G b i<=1) ->
  ∃ m3 H3 v3 F3,K m3 H3 v3=some r/\(∀ b i,F3 b i<=F2 b i+G b i) /\
   (∀ A3:Cells,(∀ b i,A2 b i->A3 b i)->(∀ b i,1<=F2 b i+G b i->F3 b i=0->A3 b i)->ax P w2 A3 t m3 H3 v3 (lU loc cs t'.sz d9) F3) /\
   (∀ d full,tj d full w t' H' cc dt w2 H2 d9->tj (d+eu p) full w t H cs ad w2 H3 (lU loc cs t'.sz d9))
theorem iR.frozen {w:World} {b:Nat} {n:Nat×Bool} (h:iR w b n) {i:Nat} (hi:i < n.1):w.frozen? ⟨b,i,none⟩=false:=by
 obtain ⟨c,e,fr,h1,h2,h3,_⟩:=h;obtain ⟨lo,rE⟩:=fr;have:=h3 i hi;simp only[World.frozen?,h1];simp only[Bool.and_eq_false_iff,fR];simp only at this;omega
theorem acg {w:World} {A:Cells} {r:R}:∀ (p:Path) (t:Ty) {m:Md} {H:List Path} {v:t.den} {cs:List Value} {F:FP} {ad:Option (Nat×Nat)}
  {f:(t':Ty)->Md->List Path->t'.den->(Md->List Path->t'.den->Option R)->Option R} {K:Md->List Path->t.den->Option R},
  sF p t m H v f K=some r->ax P w A t m H v cs F->(∀ b i,F b i<=1)->(∀ b o,ad=some (b,o)->Has w b o cs)->(∀ b o,ad=some (b,o)->∀ j,j < t.sz->F b (o+j)=0) ->
  ∃ t' m' H' v' cc dt F' G kk loc,ado P w A r p t m H v cs F ad f K t' m' H' v' cc dt F' G kk loc:=by
 intro p
 induction p with
 | nil=>
  intro t m H v cs F ad f K h hr hF j0 xp;have hlen:=ax.length t hr;refine ⟨t,m,H,v,cs,ad,F,λ_ _=>0,K,some 0,h,λ_=>rfl,rfl,hr,λ_ _=>by simp,j0,?_,(λh=>by simp[eu] at h),(λh=>by cases h),?_⟩
  ·intro off ho;injection ho with ho;subst ho;refine ⟨by omega,?_,?_⟩
   ·rw[eD,<- hlen,eM]
   ·cases ad <;> simp[iY]
  ·intro m2 H2 v2 hk w2 A2 d9 F2 hb hA uB hG ER yp hs;have zG:=ax.length t yp
   have aeC:lU (some 0) cs t.sz d9=d9:=by
    simp[lU,Cm,List.drop_eq_nil_of_le (show cs.length<=t.sz by omega)]
   rw[aeC];refine ⟨m2,H2,v2,F2,hk,λ_ _=>by simp,λA3 sH _=>ax.mono sH (λ_ _ _ _ h=>h) (λ_ _ h=>h) t yp (λ_ _=>aH _) (λ_ _ _ _ h=>h),λd full hd=>hd⟩
 | cons s p ih=>
  intro t m H v cs F ad f K h hr hF j0 xp
  cases t with
  | pair a b=>
   obtain ⟨h0,F1,F2,hs,h1,h2⟩:=hr;have hle:=ax.length a h1;have OD:=ax.length b h2;simp only[dC,cC] at hle OD;have zF:H.any (·.isEmpty)=false:=h0
   have adq:∀ b o,ad=some (b,o)->Has w b o (cs.take a.sz):=λb o hb j u hu=>by
    rw[bN] at hu;split at hu;exact j0 b o hb j u hu;cases hu
   have adr:∀ b' o,iY ad a.sz=some (b',o)->Has w b' o (cs.drop a.sz):=λb' o hb j u hu=>by
    cases ad with
    | none=>cases hb
    | some x=>
     simp only[iY,bQ,aQ,bL] at hb;obtain ⟨rfl,rfl⟩:=hb;rw[bK] at hu;have:=j0 x.1 x.2 rfl _ u hu
     rwa [cB]
   cases s with
   | fst=>
    simp only[sF,zF] at h
    obtain ⟨t',m',H',v',cc,dt,F',G,kk,loc,M⟩:=ih a h h1 (λb i=>by have:=hs b i;have:=hF b i;omega) adq (λb' o hb j hj=>by
     have:=xp b' o hb j (by simp only[Ty.sz];omega);have:=hs b' (o+j);omega)
    refine ⟨t',m',H',v',cc,dt,F',λb i=>G b i+F2 b i,kk,loc,M.run,λK0=>by simp only[o_,zF];exact M.Wq K0,by simp only[bt,h0];exact M.place,M.rep,λb i=>by have:=hs b i;have:=M.sum b i;omega,M.has,?_,(λh=>M.Ug (by simpa [eu] using h)),?_,?_⟩
    ·intro off ho;obtain ⟨q1,q2,q3⟩:=M.vK off ho;refine ⟨by simp only[Ty.sz];omega,?_,q3⟩
     rw[q2,eN,eO];congr 1;omega
    ·intro ho;obtain ⟨b',o,q1,q2⟩:=M.out ho;exact ⟨b',o,q1,λj hj=>⟨by have:=(q2 j hj).1;omega,(q2 j hj).2⟩⟩
    ·intro m2 H2 v2 hk w2 A2 d9 MR hb hA uB hG ER yp rg;obtain ⟨m3,H3,v3,F3,k1,k2,k3,k4⟩:=M.back m2 H2 v2 hk w2 A2 d9 MR hb hA uB (λb' i hp hn=>hG b' i Bys hn) ER yp (λb' i=>by have:=rg b' i;omega);have zG:=ax.length t' yp
     have qD:lU loc cs t'.sz d9=lU loc (cs.take a.sz) t'.sz d9++cs.drop a.sz:=by
      cases loc with
      | none=>simp[lU]
      | some off=>
       have:=(M.vK off rfl).1;simp only[lU,Cm];rw[eO,show min off a.sz=off by omega,cA,cA,cA];congr 2;rw[eN];have e:cs.drop a.sz=(cs.drop (off+t'.sz)).drop (a.sz - (off+t'.sz)):=by rw[dB];congr 1;omega
       rw[e,dA]
     have yM:(lU loc (cs.take a.sz) t'.sz d9).length=a.sz:=by
      cases loc with
      | none=>simp[lU];omega
      | some off=>have:=(M.vK off rfl).1;simp only[lU];rw[wT (by simp;omega) zG];simp;omega
     have Bx:∀ d full,tj d full w t' H' cc dt w2 H2 d9->full->lU loc cs t'.sz d9=cs:=λd full hd yN=>by
      obtain ⟨H5,c5,e1,e2⟩:=hd [] ⟨t',H',cc,dt⟩ (aZ _) rfl;simp only[bt,aQ,Pl.mk.injEq] at e1;have e3:d9=cc:=e1.2.2.1.trans (e2 (.inr yN))
      cases loc with
      | none=>rfl
      | some off=>
       have:=M.vK off rfl;rw[e3,this.2.1,eN,eO,show min t'.sz (a.sz - off)=t'.sz by omega];exact Cn Bys
     have qS:(lU loc cs t'.sz d9).take a.sz=lU loc (cs.take a.sz) t'.sz d9:=by rw[qD];exact iA yM
     have GP:(lU loc cs t'.sz d9).drop a.sz=cs.drop a.sz:=by rw[qD];exact iB yM
     have MS:∀ b' i,1<=F2 b' i->∀ u,ce w b' i=some u->ce w2 b' i=some u:=λb' i hp u hu=>by
      refine hG b' i Bys (λo mR Co=>?_) u hu;have OE:=hs b' i;have hFb:=hF b' i
      cases loc with
      | none=>
       obtain ⟨b0,o0,q1,q2⟩:=M.out rfl;rw[q1] at mR;simp only[aQ,bL] at mR;obtain ⟨rfl,rfl⟩:=mR;have:=(q2 (i - o0) Bys).1;rw[show o0+(i - o0)=i by omega] at this;have:=M.sum b0 i;omega
      | some off=>
       obtain ⟨q1,q2,q3⟩:=M.vK off rfl
       cases ad with
       | none=>rw[q3] at mR;cases mR
       | some x=>
        rw[q3] at mR;simp only[iY,bQ,aQ,bL] at mR;obtain ⟨rfl,rfl⟩:=mR;have:=xp x.1 x.2 rfl (i - x.2) (by simp only[Ty.sz];omega);rw[show x.2+(i - x.2)=i by omega] at this;omega
     refine ⟨_,_,_,λb' i=>F3 b' i+F2 b' i,k1,λb' i=>by have:=k2 b' i;show F3 b' i+F2 b' i<=_;omega,λA3 sH ol=>?_,λd full hd=>?_⟩
     ·refine ⟨by rw[tZ,sG,sG];rfl,F3,F2,λ_ _=>aH _,?_,?_⟩
      ·rw[qS,cO,vI,wt,cR];refine k3 A3 sH λb' i hp hz=>ol b' i Bys ?_;have:=rg b' i;show F3 b' i+F2 b' i=0;omega
      ·rw[GP,cO,wu,vJ,cJ];exact ax.mono (λb' i ha=>sH b' i (hA b' i ha)) uB hb b h2 (λ_ _=>aH _) MS
     ·intro q pl hq hp
      cases q with
      | nil=>
       simp only[bt,aQ] at hp;subst hp;refine ⟨_,_,rfl,λh=>?_⟩
       rcases h with ⟨_,hs⟩ | yN
       ·simp[yL] at hs
       ·exact Bx d full hd yN
      | cons s q=>
       cases s with
       | fst=>
        simp only[bt,h0,aF,aS] at hp;obtain ⟨H4,cs4,e1,e2⟩:=k4 d full hd q pl (by simpa [eu] using hq) hp;refine ⟨H4,cs4,?_,λuC=>e2 (by simpa [eu] using uC)⟩
        simp only[bt,tZ,sG,fU,aF,aS];rw[qS,cO,vI,wt,cR];exact e1
       | snd=>
        simp only[bt,h0,aF,aS] at hp;refine ⟨pl.H,pl.cs,?_,λ_=>rfl⟩
        simp only[bt,tZ,sG,fU,aF,aS];rw[GP,cO,wu,vJ,cJ];exact yo uB q b h2 MS hp
       | idx i=>simp[bt] at hp
       | rB i=>simp[bt] at hp
   | snd=>
    simp only[sF,zF] at h
    obtain ⟨t',m',H',v',cc,dt,F',G,kk,loc,M⟩:=ih b h h2 (λb i=>by have:=hs b i;have:=hF b i;omega) adr (λb' o hb j hj=>by
     cases ad with
     | none=>cases hb
     | some x=>
      simp only[iY,bQ,aQ,bL] at hb;obtain ⟨rfl,rfl⟩:=hb;have:=xp x.1 x.2 rfl (a.sz+j) (by simp only[Ty.sz];omega);have:=hs x.1 (x.2+(a.sz+j))
      rw[cB];omega)
    refine ⟨t',m',H',v',cc,dt,F',λb i=>G b i+F1 b i,kk,loc.map (a.sz+·),M.run,λK0=>by simp only[o_,zF];exact M.Wq K0,by simp only[bt,h0];exact M.place,M.rep,λb i=>by have:=hs b i;have:=M.sum b i;omega,M.has,?_,(λh=>by rw[M.Ug (by simpa [eu] using h)];rfl),?_,?_⟩
    ·intro ach ho;obtain ⟨off,ho2,rfl⟩:=Option.map_eq_some_iff.1 ho;obtain ⟨q1,q2,q3⟩:=M.vK off ho2;refine ⟨by simp only[Ty.sz];omega,by rw[q2,dB],?_⟩
     rw[q3];cases ad <;> simp[iY,cB]
    ·intro ho;obtain ⟨b',o,q1,q2⟩:=M.out (by simpa using ho);exact ⟨b',o,q1,λj hj=>⟨by have:=(q2 j hj).1;omega,(q2 j hj).2⟩⟩
    ·intro m2 H2 v2 hk w2 A2 d9 MR hb hA uB hG ER yp rg;obtain ⟨m3,H3,v3,F3,k1,k2,k3,k4⟩:=M.back m2 H2 v2 hk w2 A2 d9 MR hb hA uB (λb' i hp hn=>hG b' i Bys hn) ER yp (λb' i=>by have:=rg b' i;omega);have zG:=ax.length t' yp
     have qD:lU (loc.map (a.sz+·)) cs t'.sz d9=cs.take a.sz++lU loc (cs.drop a.sz) t'.sz d9:=by
      cases loc with
      | none=>simp[lU]
      | some off=>
       have:=(M.vK off rfl).1;simp only[lU,Cm,bQ];rw[List.take_add,dB,cA,cA,cA,cB]
     have yM:(cs.take a.sz).length=a.sz:=by simp;omega
     have Bx:∀ d full,tj d full w t' H' cc dt w2 H2 d9->full->lU (loc.map (a.sz+·)) cs t'.sz d9=cs:=λd full hd yN=>by
      obtain ⟨H5,c5,e1,e2⟩:=hd [] ⟨t',H',cc,dt⟩ (aZ _) rfl;simp only[bt,aQ,Pl.mk.injEq] at e1;have e3:d9=cc:=e1.2.2.1.trans (e2 (.inr yN))
      cases loc with
      | none=>rfl
      | some off=>
       have:=M.vK off rfl;rw[e3,this.2.1,dB];exact Cn (show a.sz+off+t'.sz<=cs.length by omega)
     have qS:(lU (loc.map (a.sz+·)) cs t'.sz d9).take a.sz=cs.take a.sz:=by rw[qD];exact iA yM
     have GP:(lU (loc.map (a.sz+·)) cs t'.sz d9).drop a.sz=lU loc (cs.drop a.sz) t'.sz d9:=by rw[qD];exact iB yM
     have MS:∀ b' i,1<=F1 b' i->∀ u,ce w b' i=some u->ce w2 b' i=some u:=λb' i hp u hu=>by
      refine hG b' i Bys (λo mR Co=>?_) u hu;have OE:=hs b' i;have hFb:=hF b' i
      cases loc with
      | none=>
       obtain ⟨b0,o0,q1,q2⟩:=M.out rfl;rw[q1] at mR;simp only[aQ,bL] at mR;obtain ⟨rfl,rfl⟩:=mR;have:=(q2 (i - o0) Bys).1;rw[show o0+(i - o0)=i by omega] at this;have:=M.sum b0 i;omega
      | some off=>
       obtain ⟨q1,q2,q3⟩:=M.vK off rfl
       cases ad with
       | none=>rw[q3] at mR;cases mR
       | some x=>
        rw[q3] at mR;simp only[iY,bQ,aQ,bL] at mR;obtain ⟨rfl,rfl⟩:=mR;have:=xp x.1 x.2 rfl (i - x.2) (by simp only[Ty.sz];omega);rw[show x.2+(i - x.2)=i by omega] at this;omega
     refine ⟨_,_,_,λb' i=>F3 b' i+F1 b' i,k1,λb' i=>by have:=k2 b' i;show F3 b' i+F1 b' i<=_;omega,λA3 sH ol=>?_,λd full hd=>?_⟩
     ·refine ⟨by rw[tZ,sG,sG];rfl,F1,F3,λb' i=>by show F1 b' i+F3 b' i<=F3 b' i+F1 b' i;omega,?_,?_⟩
      ·rw[qS,cO,vI,wt,cR];exact ax.mono (λb' i ha=>sH b' i (hA b' i ha)) uB hb a h1 (λ_ _=>aH _) MS
      ·rw[GP,cO,wu,vJ,cJ];refine k3 A3 sH λb' i hp hz=>ol b' i Bys ?_;have:=rg b' i;show F3 b' i+F1 b' i=0;omega
     ·intro q pl hq hp
      cases q with
      | nil=>
       simp only[bt,aQ] at hp;subst hp;refine ⟨_,_,rfl,λh=>?_⟩
       rcases h with ⟨_,hs⟩ | yN
       ·simp[yL] at hs
       ·exact Bx d full hd yN
      | cons s q=>
       cases s with
       | snd=>
        simp only[bt,h0,aF,aS] at hp;obtain ⟨H4,cs4,e1,e2⟩:=k4 d full hd q pl (by simpa [eu] using hq) hp;refine ⟨H4,cs4,?_,λuC=>e2 (by simpa [eu] using uC)⟩
        simp only[bt,tZ,sG,fU,aF,aS];rw[GP,cO,wu,vJ,cJ];exact e1
       | fst=>
        simp only[bt,h0,aF,aS] at hp;refine ⟨pl.H,pl.cs,?_,λ_=>rfl⟩
        simp only[bt,tZ,sG,fU,aF,aS];rw[qS,cO,vI,wt,cR];exact yo uB q a h1 MS hp
       | idx i=>simp[bt] at hp
       | rB i=>simp[bt] at hp
   | idx i=>simp[sF] at h
   | rB i=>simp[sF] at h
  | aa e=>
   cases s with
   | fst=>simp[sF] at h
   | snd=>simp[sF] at h
   | rB i=>simp[sF] at h
   | idx i=>
    simp only[sF] at h;split at h
    ·rename_i iU;obtain ⟨h1,h2,h3⟩:=GO h
     cases hx:(v:List e.den)[i]? with
     | none=>rw[hx] at h1;cases h1
     | some x=>
      rw[hx] at h1;simp only[aA] at h1;have hi:i < List.length v:=(aM.1 hx).1;simp only[ax,h3,aF,aS,iU,aJ] at hr;obtain ⟨a,cap,rfl,g2,g3,g4,g5⟩:=hr
      cases a with
      | none=>have:=g4 rfl;omega
      | some iP=>
       obtain ⟨q1,q2,q3,Fi,q4,q5⟩:=g5 iP rfl;obtain ⟨L,hl,hL,iT⟩:=q5 i x hx
       have a_:∀ k,k < List.length v->∀ j,j < e.sz->k*e.sz+j < cap*e.sz:=λk hk j hj=>by
        have a_:(k+1)*e.sz<=cap*e.sz:=aX _ Bys;rw[bW] at a_;omega
       have OF:∀ k,k < cap*e.sz->de iP.block 0 (cap*e.sz) iP.block k=1:=λk hk=>by simp[de,hk]
       obtain ⟨t',m',H',v',cc,dt,F',G,kk,loc,M⟩:=ih e h1 iT (λb k=>by have:=q4 b k;have:=hF b k;have:=dz Fi hi b k;omega)
        (ad:=some (iP.block,i*e.sz)) (λb o hb=>by simp only[aQ,bL] at hb;obtain ⟨rfl,rfl⟩:=hb;exact hL)
        (λb o hb j hj=>by
         simp only[aQ,bL] at hb;obtain ⟨rfl,rfl⟩:=hb;have:=q4 iP.block (i*e.sz+j);have:=hF iP.block (i*e.sz+j);have:=dz Fi hi iP.block (i*e.sz+j)
         have:=OF _ (a_ i hi j hj);omega)
       have ES:∀ b k,bk (List.length v) (g_ Fi i G) b k+Fi i b k=bk (List.length v) Fi b k+G b k:=u7 Fi hi G
       have DT:∀ b k,G b k<=bk (List.length v) (g_ Fi i G) b k:=λb k=>by
        have:=dz (g_ Fi i G) hi b k;simpa [g_] using this
       refine ⟨t',m',H',v',cc,dt,F',λb k=>de iP.block 0 (cap*e.sz) b k+bk (List.length v) (g_ Fi i G) b k,kk,none,M.run,λK0=>by simp only[o_];rw[EQ h,hx];exact M.Wq K0,?_,M.rep,λb k=>by have:=ES b k;have:=M.sum b k;have:=q4 b k;omega,M.has,(λoff ho=>by cases ho),(λ_=>rfl),?_,?_⟩
       ·simp only[bt,h3,aF,aS,hi,aJ,q1,bE,gc hL hl];exact M.place
       ·intro _
        cases loc with
        | none=>
         obtain ⟨b',o,e1,e2⟩:=M.out rfl;exact ⟨b',o,e1,λj hj=>⟨by have:=(e2 j hj).1;have:=DT b' (o+j);omega,(e2 j hj).2⟩⟩
        | some off=>
         obtain ⟨e1,e2,e3⟩:=M.vK off rfl;refine ⟨iP.block,i*e.sz+off,e3,λj hj=>?_⟩
         have Bt:=a_ i hi (off+j) Bys;rw[<-cB] at Bt;exact ⟨by have:=OF _ Bt;omega,q3.frozen Bt⟩
       ·intro m2 H2 v2 hk w2 A2 d9 MR hb hA uB hG ER yp rg
        obtain ⟨m3,H3,v3,F3,k1,k2,k3,k4⟩:=M.back m2 H2 v2 hk w2 A2 d9 MR hb hA uB (λb' i hp hn=>hG b' i (by have:=DT b' i;omega) hn) ER yp
         (λb' i=>by have:=rg b' i;have:=DT b' i;omega)
        have zG:=ax.length t' yp
        have apart:∀ b' k,(∀ o,dt=some (b',o)->o<=k/\k < o+t'.sz->1<=Fi i b' k\/(b'=iP.block/\i*e.sz<=k/\k < i*e.sz+e.sz)):=λb' k o mR Co=>by
         cases loc with
         | none=>
          obtain ⟨b0,o0,e1,e2⟩:=M.out rfl;rw[e1] at mR;simp only[aQ,bL] at mR;obtain ⟨rfl,rfl⟩:=mR;have:=(e2 (k - o0) Bys).1;rw[show o0+(k - o0)=k by omega] at this;have:=M.sum b0 k;left;omega
         | some off=>
          obtain ⟨e1,e2,e3⟩:=M.vK off rfl;rw[e3] at mR;simp only[iY,bQ,aQ,bL] at mR;obtain ⟨rfl,rfl⟩:=mR;exact .inr ⟨rfl,by omega,by omega⟩
        have MS:∀ j,j < List.length v->j≠i->∀ b' k,1<=Fi j b' k->∀ u,ce w b' k=some u->ce w2 b' k=some u:=λj hj po b' k hp u hu=>by
         have h1:=dz (g_ Fi i G) hj b' k;have e1:g_ Fi i G j=Fi j:=by simp[g_,po]
         rw[e1] at h1;refine hG b' k Bys (λo mR Co=>?_) u hu;have h2:=q4 b' k;have h3:=hF b' k;have h4:=wo Fi hj hi po b' k
         rcases apart b' k o mR Co with h | ⟨rfl,Wr,SL⟩
         ·omega
         ·have:=OF (i*e.sz+(k - i*e.sz)) (a_ i hi _ Bys);rw[show i*e.sz+(k - i*e.sz)=k by omega] at this;omega
        have cell:∀ j,j < List.length v->j≠i->∀ k,k < e.sz->∀ u,ce w iP.block (j*e.sz+k)=some u->ce w2 iP.block (j*e.sz+k)=some u:=λj hj po k hk u hu=>by
         have zH:=OF _ (a_ j hj k hk);refine hG _ _ Bys (λo mR Co=>?_) u hu;have h2:=q4 iP.block (j*e.sz+k);have h3:=hF iP.block (j*e.sz+k)
         rcases apart _ _ o mR Co with h | ⟨_,Wr,SL⟩
         ·have:=dz Fi hi iP.block (j*e.sz+k);omega
         ·have jx:j < i\/i < j:=by omega
          rcases jx with zP | zP
          ·have:(j+1)*e.sz<=i*e.sz:=aX _ zP;rw[bW] at this;omega
          ·have:(i+1)*e.sz<=j*e.sz:=aX _ zP;rw[bW] at this;omega
        have hL3:Has w2 iP.block (i*e.sz) (lU loc L t'.sz d9):=by
         have Ba:∀ j u,L[j]?=some u->(∀ off,loc=some off->¬ (off<=j/\j < off+t'.sz))->ce w2 iP.block (i*e.sz+j)=some u:=λj u hu hn=>by
          have hj:j < e.sz:=hl ▸ (aM.1 hu).1;have zH:=OF _ (a_ i hi j hj);refine hG _ _ Bys (λo mR Co=>?_) u (hL j u hu)
          cases loc with
          | none=>
           obtain ⟨b0,o0,e1,e2⟩:=M.out rfl;rw[e1] at mR;simp only[aQ,bL] at mR;obtain ⟨rfl,rfl⟩:=mR;have:=(e2 (i*e.sz+j - o0) Bys).1;rw[show o0+(i*e.sz+j - o0)=i*e.sz+j by omega] at this;have h2:=q4 iP.block (i*e.sz+j);have h3:=hF iP.block (i*e.sz+j);have:=DT iP.block (i*e.sz+j);have:=ES iP.block (i*e.sz+j);have:=M.sum iP.block (i*e.sz+j)
           have:=dz Fi hi iP.block (i*e.sz+j);omega
          | some off=>
           obtain ⟨e1,e2,e3⟩:=M.vK off rfl;rw[e3] at mR;simp only[iY,bQ,aQ,bL] at mR;obtain ⟨_,rfl⟩:=mR;exact hn off rfl Bys
         cases loc with
         | none=>exact λj u hu=>Ba j u hu (λoff ho=>by cases ho)
         | some off=>
          obtain ⟨e1,e2,e3⟩:=M.vK off rfl;exact SK Bys zG (ER _ _ e3) (λj u hu hn=>Ba j u hu (λach ho=>by injection ho with ho;subst ho;exact hn))
        have SM:(lU loc L t'.sz d9).length=e.sz:=by
         cases loc with
         | none=>exact hl
         | some off=>have:=(M.vK off rfl).1;simp only[lU];rw[wT Bys zG,hl]
        have Jo:∀ (j:Nat) (y:e.den),(List.set v i v3)[j]?=some y->(j=i/\y=v3)\/(j≠i/\(v:List e.den)[j]?=some y):=λj y hy=>by
         rw[eS] at hy;split at hy
         ·rename_i ul;subst ul;injection hy with hy;exact .inl ⟨rfl,hy.symm⟩
         ·rename_i ul;exact .inr ⟨λh=>ul h.symm,hy⟩
        have others:∀ A3:Cells,(∀ b i,A2 b i->A3 b i)->∀ (j:Nat) (y:e.den),j≠i->(v:List e.den)[j]?=some y->∃ L:List Value,L.length=e.sz/\Has w2 iP.block (j*e.sz) L/\Has w iP.block (j*e.sz) L/\ax P w A e m.e [] y L (Fi j)/\ax P w2 A3 e m.e [] y L (Fi j):=λA3 sH j y po hy=>by
         have hj:j < List.length v:=(aM.1 hy).1;obtain ⟨Lj,Kg,hLj,Ws⟩:=q5 j y hy;rw[h2 j po] at Ws;exact ⟨Lj,Kg,λk u hu=>cell j hj po k (Kg ▸ (aM.1 hu).1) u (hLj k u hu),hLj,Ws,ax.mono (λb' i ha=>sH b' i (hA b' i ha)) uB hb e Ws (λ_ _=>aH _) (MS j hj po)⟩
        have aci:∀ H4:List Path,hole H4=false->H4.filterMap (k8 i)=H3->(∀ j,j≠i->H4.filterMap (k8 j)=[])->∀ d full,tj d full w t' H' cc dt w2 H2 d9->tj (d+eu (.idx i::p)) full w (.aa e) H [.slice (some iP) (List.length v) cap] ad w2 H4 [.slice (some iP) (List.length v) cap]:=by
         intro H4 hH4 hHi hHj d full hd q pl hq hp
         cases q with
         | nil=>
          simp only[bt,aQ] at hp;subst hp;exact ⟨_,_,rfl,λ_=>rfl⟩
         | cons s q=>
          cases s with
          | fst=>simp[bt] at hp
          | snd=>simp[bt] at hp
          | rB j=>simp[bt] at hp
          | idx j=>
           simp only[bt,h3,aF,aS] at hp;split at hp
           ·rename_i hj;by_cases po:j=i
            ·subst po;rw[q1,bE,gc hL hl] at hp;obtain ⟨H5,cs5,e1,e2⟩:=k4 d full hd q pl (by simp only[eu] at hq;omega) hp;refine ⟨H5,cs5,?_,λuC=>e2 (uC.imp (λh=>⟨by have:=h.1;simp only[eu] at this;omega,h.2⟩) id)⟩
             simp only[bt,hH4,aF,aS,hj,aJ,q1,bE,gc hL3 SM,hHi];exact e1
            ·obtain ⟨Lj,Kg,OG,hLj,Ws,_⟩:=others A2 (λ_ _ h=>h) j _ po (aB hj);rw[q1,bE,gc hLj Kg,h2 j po] at hp;refine ⟨pl.H,pl.cs,?_,λ_=>rfl⟩
             simp only[bt,hH4,aF,aS,hj,aJ,q1,bE,gc OG Kg,hHj j po];exact yo uB q e Ws (MS j hj po) hp
           ·cases hp
        simp only[lU];by_cases Dl:m3=m.e
        ·rw[aR Dl] at k1;subst Dl;refine ⟨_,_,_,λb' k=>de iP.block 0 (cap*e.sz) b' k+bk (List.length v) (g_ Fi i F3) b' k,k1,λb' k=>?_,λA3 sH ol=>?_,aci _ (sG _ _) (Gx _ _) (λj hj=>Cl hj _)⟩
         ·have:=u7 Fi hi F3 b' k;have:=ES b' k;have:=k2 b' k
          show de iP.block 0 (cap*e.sz) b' k+bk (List.length v) (g_ Fi i F3) b' k<=_;omega
         ·simp only[ax,sG,aF,aS,Md.own,aJ];refine ⟨some iP,cap,by simp,by simpa using g2,g3,(λhn=>by cases hn),λIx Jp=>?_⟩
          injection Jp with Jp;subst Jp;refine ⟨q1,q2,hb _ _ q3,g_ Fi i F3,λb' k=>by simp,λj y hy=>?_⟩
          rcases Jo j y hy with ⟨rfl,rfl⟩ | ⟨po,Iy⟩
          ·refine ⟨_,SM,hL3,?_⟩
           rw[Gx];simp only[Md.e,g_,aJ];refine k3 A3 sH λb' k hp hz=>ol b' k ?_ ?_
           ·have:=DT b' k;omega
           ·have h5:=rg b' k;have h6:=u7 Fi hi F3 b' k;have h7:=ES b' k;have:=DT b' k
            have h8:=q4 b' k;have h9:=M.sum b' k
            have:=k2 b' k;show de iP.block 0 (cap*e.sz) b' k+bk (List.length v) (g_ Fi j F3) b' k=0;omega
          ·obtain ⟨Lj,Kg,OG,_,_,YQ⟩:=others A3 sH j y po Iy;refine ⟨Lj,Kg,OG,?_⟩
           rw[Cl po];simp only[g_,aV po];exact YQ
        ·rw[aV Dl] at k1;split at k1
         ·rename_i GQ;have GQ:H3=[]:=bD.1 GQ;refine ⟨_,_,_,λb' k=>de iP.block 0 (cap*e.sz) b' k,k1,λb' k=>by show de iP.block 0 (cap*e.sz) b' k<=_;omega,λA3 sH ol=>?_,aci _ rfl (by rw[GQ];rfl) (λj hj=>rfl)⟩
          simp only[ax,hole,bT,aF,aS,Md.own,aJ];refine ⟨some iP,cap,by simp,by simpa using g2,g3,(λhn=>by cases hn),λIx Jp=>?_⟩
          injection Jp with Jp;subst Jp;refine ⟨q1,q2,hb _ _ q3,λ_ _ _=>0,λb' k=>by rw[ns];simp,λj y hy=>?_⟩
          have fz:∀ b' k,1<=MR b' k+(de iP.block 0 (cap*e.sz) b' k+bk (List.length v) (g_ Fi i G) b' k)->de iP.block 0 (cap*e.sz) b' k=0->A3 b' k:=ol
          rcases Jo j y hy with ⟨rfl,rfl⟩ | ⟨po,Iy⟩
          ·refine ⟨_,SM,hL3,?_⟩
           have hr3:=k3 A3 sH λb' k hp hz=>fz b' k (by have:=DT b' k;omega) (by
            have h5:=rg b' k;have:=DT b' k;omega)
           rw[GQ] at hr3;refine Ro.rep e _ (iF e) (ax.yK (λ_ _ h=>h) e hr3 λb' k hp=>fz b' k ?_ ?_)
           ·have:=k2 b' k;have:=DT b' k;omega
           ·have h5:=rg b' k;have:=DT b' k;have:=k2 b' k;omega
          ·obtain ⟨Lj,Kg,OG,_,_,YQ⟩:=others A3 sH j y po Iy;have hj:j < List.length v:=(aM.1 Iy).1;refine ⟨Lj,Kg,OG,Ro.rep e _ (iF e) (ax.yK (λ_ _ h=>h) e YQ λb' k hp=>?_)⟩
           have h1:=dz (g_ Fi i G) hj b' k;have e1:g_ Fi i G j=Fi j:=by simp[g_,po]
           rw[e1] at h1;have h5:=rg b' k;exact fz b' k Bys Bys
         ·cases k1
    ·cases h
  | arr n e=>
   cases s with
   | fst=>simp[sF] at h
   | snd=>simp[sF] at h
   | idx i=>simp[sF] at h
   | rB i=>
    obtain ⟨rfl,hf,hl,hlen,hr⟩:=hr;simp only[sF,cM,aJ] at h
    cases hx:(v:List e.den)[i]? with
    | none=>rw[hx] at h;cases h
    | some x=>
     rw[hx] at h;simp only[aA] at h;have hi:i < n:=hl ▸ (aM.1 hx).1
     have iZ:∀ j,j < n->j*e.sz+e.sz<=cs.length:=λj hj=>by
      have:(j+1)*e.sz<=n*e.sz:=aX _ hj;rw[bW] at this;omega
     have mF:∀ j,j < n->((cs.drop (j*e.sz)).take e.sz).length=e.sz:=λj hj=>by have:=iZ j hj;simp;omega
     obtain ⟨t',m',H',v',cc,dt,F',G,kk,loc,M⟩:=ih e h (Ro.flat e (λ_ _=>0) hf (hr i x hx)) (λ_ _=>aZ _) (ad:=iY ad (i*e.sz)) (λb' o hb j u hu=>by
      cases ad with
      | none=>cases hb
      | some y=>
       simp only[iY,bQ,aQ,bL] at hb;obtain ⟨rfl,rfl⟩:=hb;rw[bN] at hu;split at hu
       ·rw[bK] at hu;have:=j0 y.1 y.2 rfl _ u hu
        rwa [cB]
       ·cases hu) (λ_ _ _ _ _=>rfl)
     have SN:∀ b k,G b k=0:=λb k=>by have:=M.sum b k;omega
     have Iz:∀ b k,F' b k=0:=λb k=>by have:=M.sum b k;omega
     have Kh:∀ h:loc=none,t'.sz=0:=λh=>by
      obtain ⟨b',o,e1,e2⟩:=M.out h;rcases bJ t'.sz with h0 | h0
      ·exact h0
      ·have:=(e2 0 h0).1;rw[SN] at this;omega
     refine ⟨t',m',H',v',cc,dt,F',F,kk,loc.map (i*e.sz+·),M.run,λK0=>by simp only[o_,cM,aJ,hx,aA];exact M.Wq K0,by simp only[bt,cM,aJ,hi];exact M.place,M.rep,λb k=>by rw[Iz];omega,M.has,?_,(λh=>by rw[M.Ug (by simpa [eu] using h)];rfl),?_,?_⟩
     ·intro ach ho;obtain ⟨off,ho2,rfl⟩:=Option.map_eq_some_iff.1 ho;obtain ⟨q1,q2,q3⟩:=M.vK off ho2;have:=iZ i hi;refine ⟨by simp only[Ty.sz];omega,?_,by rw[q3];cases ad <;> simp[iY,cB]⟩
      rw[q2,eN,eO,dB];congr 1;omega
     ·intro ho;obtain ⟨b',o,q1,q2⟩:=M.out (by simpa using ho);have:=Kh (by simpa using ho);exact ⟨b',o,q1,λj hj=>by omega⟩
     ·intro m2 H2 v2 hk w2 A2 d9 MR hb hA uB hG ER yp rg;obtain ⟨m3,H3,v3,F3,k1,k2,k3,k4⟩:=M.back m2 H2 v2 hk w2 A2 d9 MR hb hA uB (λb' i hp hn=>by rw[SN] at hp;omega) ER yp (λb' i=>by have:=rg b' i;rw[SN];omega);have zG:=ax.length t' yp;split at k1
      ·rename_i GQ;have GQ:H3=[]:=bD.1 GQ
       have qD:lU (loc.map (i*e.sz+·)) cs t'.sz d9=Cm cs (i*e.sz) e.sz (lU loc ((cs.drop (i*e.sz)).take e.sz) t'.sz d9):=by
        cases loc with
        | none=>simp only[lU,iC];exact (Cn (iZ i hi)).symm
        | some off=>
         have:=(M.vK off rfl).1;exact (aa9 this (iZ i hi) zG).symm
       have yM:(lU loc ((cs.drop (i*e.sz)).take e.sz) t'.sz d9).length=e.sz:=by
        cases loc with
        | none=>exact mF i hi
        | some off=>have:=(M.vK off rfl).1;simp only[lU];rw[wT (by rw[mF i hi];omega) zG,mF i hi]
       have Uh:∀ j,j < n->((lU (loc.map (i*e.sz+·)) cs t'.sz d9).drop (j*e.sz)).take e.sz=if j=i then lU loc ((cs.drop (i*e.sz)).take e.sz) t'.sz d9 else (cs.drop (j*e.sz)).take e.sz:=λj hj=>by
        rw[qD];apply eE;intro k;rw[bN];split
        ·rename_i hk;rw[bK,Ef (iZ i hi) yM];by_cases po:j=i
         ·subst po;rw[aR Bys,aR rfl];congr 1;omega
         ·rw[aV po,bN,aR hk,bK,aV];have jx:j < i\/i < j:=by omega
          rcases jx with zP | zP
          ·have:(j+1)*e.sz<=i*e.sz:=aX _ zP;rw[bW] at this;omega
          ·have:(i+1)*e.sz<=j*e.sz:=aX _ zP;rw[bW] at this;omega
        ·rename_i hk;by_cases po:j=i
         ·rw[aR po,gA Bys]
         ·rw[aV po,gA (by rw[mF j hj];omega)]
       have Bx:∀ d full,tj d full w t' H' cc dt w2 H2 d9->full->lU (loc.map (i*e.sz+·)) cs t'.sz d9=cs:=λd full hd yN=>by
        obtain ⟨H5,c5,e1,e2⟩:=hd [] ⟨t',H',cc,dt⟩ (aZ _) rfl;simp only[bt,aQ,Pl.mk.injEq] at e1;have e3:d9=cc:=e1.2.2.1.trans (e2 (.inr yN))
        cases loc with
        | none=>rfl
        | some off=>
         have:=M.vK off rfl;have:=iZ i hi;rw[e3,(M.vK off rfl).2.1,eN,eO,show min t'.sz (e.sz - off)=t'.sz by omega,dB];exact Cn (show i*e.sz+off+t'.sz<=cs.length by omega)
       have ads:(lU (loc.map (i*e.sz+·)) cs t'.sz d9).length=n*e.sz:=by rw[qD,wT (iZ i hi) yM,hlen]
       refine ⟨_,_,_,λb' k=>F3 b' k+F b' k,k1,λb' k=>by have:=k2 b' k;have:=SN b' k;show F3 b' k+F b' k<=_;omega,λA3 sH ol=>?_,λd full hd=>?_⟩
       ·refine ⟨rfl,hf,by simpa using hl,ads,λj y hy=>?_⟩
        have hj:j < n:=by have:=(aM.1 hy).1;rw[cE] at this;omega
        rw[Uh j hj];rw[eS] at hy;split at hy
        ·rename_i ul;subst ul
         have hy:some v3=some y:=by
          split at hy
          ·exact hy
          ·cases hy
         injection hy with hy;rw[aR rfl,<- hy];exact ax.flat e hf (k3 A3 sH λb' k hp hz=>ol b' k (by have:=SN b' k;omega) (by have:=rg b' k;have:=SN b' k;show F3 b' k+F b' k=0;omega))
        ·rename_i ul;rw[aV (λh=>ul h.symm)];exact Ro.mono uB (λb' k ha=>sH b' k (hA b' k ha)) e (hr j y hy)
       ·intro q pl hq hp
        cases q with
        | nil=>
         simp only[bt,aQ] at hp;subst hp;refine ⟨_,_,rfl,λh=>?_⟩
         rcases h with ⟨_,hs⟩ | yN
         ·simp[yL] at hs
         ·exact Bx d full hd yN
        | cons s q=>
         cases s with
         | fst=>simp[bt] at hp
         | snd=>simp[bt] at hp
         | idx j=>simp[bt] at hp
         | rB j=>
          simp only[bt,cM,aJ] at hp;split at hp
          ·rename_i hj;by_cases po:j=i
           ·subst po;obtain ⟨H5,cs5,e1,e2⟩:=k4 d full hd q pl (by simp only[eu] at hq;omega) hp;refine ⟨H5,cs5,?_,λuC=>e2 (uC.imp (λh=>⟨by have:=h.1;simp only[eu] at this;omega,h.2⟩) id)⟩
            simp only[bt,cM,aJ,hj];rw[Uh j hj,aR rfl];rw[GQ] at e1;exact e1
           ·refine ⟨pl.H,pl.cs,?_,λ_=>rfl⟩
            simp only[bt,cM,aJ,hj];rw[Uh j hj,aV po];exact yo uB q e (Ro.flat e (m:=.leaf) (λ_ _=>0) hf (hr j _ (aB (by rw[hl];exact hj)))) (λb k hp=>by simp at hp) hp
          ·cases hp
      ·cases k1
  | _=>cases s <;> simp[sF] at h
end
end OT
set_option linter.unusedVariables false
set_option linter.unusedSimpArgs false
namespace OT
open Go
def tmp (a:Act) (i:Nat):Value:=a.tmps.getD i undef
section
variable {P:Program} {w:World} {A:Cells}
theorem Ro.one:∀ (t:Ty) {v:t.den} {cs:List Value},Ro P w A t v cs->∀ x ∈ cs,x.oneCell'=true:=by
 intro t
 induction t with
 | pair a b nE nw=>
  intro v cs h x hx;rw[<-dA a.sz cs] at hx;rcases bR.1 hx with hx | hx
  ·exact nE h.1 x hx
  ·exact nw h.2 x hx
 | arr n e ih=>
  intro v cs h x hx;obtain ⟨hf,hl,hlen,hr⟩:=h;obtain ⟨k,hk,rfl⟩:=cK.1 hx;rw[hlen] at hk
  have nt:0 < e.sz:=by
   grind
  have hi:k / e.sz < n:=(fA nt).2 hk;refine ih (hr (k / e.sz) _ (aB (by grind))) _ ?_;rw[fB];refine ⟨k % e.sz,?_⟩
  grind [Nat.mod_lt,Nat.div_add_mod]
 | aa e ih=>rintro v cs ⟨a,cap,rfl,_⟩ x hx;simp at hx;subst hx;rfl
 | ptr e ih=>rintro v cs ⟨a,rfl,_⟩ x hx;simp at hx;subst hx;rfl
 | fn=>rintro v cs ⟨a,rfl,_⟩ x hx;simp at hx;subst hx;rfl
 | map k v=>rintro v cs ⟨_,_,r,vH,rfl,_⟩ x hx;simp at hx;subst hx;rfl
 | unit=>grind [Ro]
 | _=>intro v cs h x hx;simp only[Ro] at h;subst h;simp at hx;subst hx;rfl
theorem ax.one:∀ (t:Ty) {m:Md} {H:List Path} {v:t.den} {cs:List Value} {F:FP},ax P w A t m H v cs F->∀ x ∈ cs,x.oneCell'=true:=by
 intro t
 induction t with
 | pair a b nE nw=>
  intro m H v cs F h x hx;obtain ⟨_,F1,F2,_,h1,h2⟩:=h;grind [List.take_append_drop]
 | aa e ih=>
  intro m H v cs F h x hx;simp only[ax] at h;split at h
  ·grind
  ·split at h
   ·obtain ⟨a,cap,rfl,_⟩:=h;simp at hx;subst hx;rfl
   grind [Ro.one]
 | ptr e ih=>
  intro m H v cs F h x hx;simp only[ax] at h;split at h
  ·grind
  ·split at h
   ·obtain ⟨a,rfl,_⟩:=h;simp at hx;subst hx;rfl
   grind [Ro.one]
 | arr n e ih=>intro m H v cs F h;exact Ro.one _ h.2
 | map k v=>
  intro m H v cs F h x hx;simp only[ax] at h;split at h
  ·grind
  ·split at h
   ·obtain ⟨_,_,r,vH,rfl,_⟩:=h;simp at hx;subst hx;rfl
   grind [Ro.one]
 | _=>intro m H v cs F h;exact Ro.one _ h
end
theorem lW {t:Ty} {cs:List Value} (hl:cs.length=t.sz) (h1:∀ x ∈ cs,x.oneCell'=true):(cu t cs).cells.toList=cs:=by
 unfold cu;split
 ·simp[Value.cells]
 ·rename_i h;have:t.sz=1:=by cases t <;> simp_all [isAgg,Ty.sz]
  match cs,hl with
  | [x],_=>
   have:=h1 x (by simp);cases x <;> simp_all [Value.cells,Value.oneCell']
  | [],hl=>grind
  | _::_::_,hl=>grind
def Below (snap v:List Nat):Prop:=∀ (j x:Nat),snap[j]?=some x->∃ y,v[j]?=some y/\x<=y
theorem Jq:∀ (s v:List Nat),preB s v=true↔∀ (j x:Nat),s[j]?=some x->v[j]?=some x
 | [],v=>by simp[preB]
 | a::s,[]=>by
  simp only[preB,aF,false_iff];intro h;have:=h 0 a rfl;cases this
 | a::s,b::v=>by
  simp only[preB,aD,eP,Jq s v];constructor
  ·grind
  ·intro h;refine ⟨by have:=h 0 a rfl;simpa using this.symm,λj x hj=>h (j+1) x hj⟩
theorem H_ {s v v':List Nat} (hs:Below s v) (hv:Below v v') (h:preB s v'=true):preB s v=true/\∀ (j:Nat),j < s.length->v[j]?=v'[j]?:=by
 have key:∀ (j x:Nat),s[j]?=some x->v[j]?=some x/\v'[j]?=some x:=λj x hj=>by
  obtain ⟨y,hy,uR⟩:=hs j x hj;obtain ⟨z,hz,hyz⟩:=hv j y hy;grind [Jq]
 grind [Jq]
theorem Below.trans {s v v':List Nat} (h1:Below s v) (h2:Below v v'):Below s v':=λj x hj=>by
 obtain ⟨y,hy,uR⟩:=h1 j x hj;obtain ⟨z,hz,hyz⟩:=h2 j y hy;grind
theorem Below.refl (s:List Nat):Below s s:=λj x hj=>⟨x,hj,aH _⟩
def et (w:World) (tv:Value):Slot->Option Pl
 | .own t _ H _=>some ⟨t,H,tv.cells.toList,none⟩
 | .box t _ H _=>match tv with
  | .pointer (some a)=>some ⟨t,H,rd w a.block a.off t.sz,some (a.block,a.off)⟩
  | _=>none
 | _=>none
def place (σ:St) (a:Act) (w:World) (r:Nat) (p:Path):Option Pl:=
 (et w (tmp a r) (σ.get r)).bind λR=>bt w p R.t R.H R.cs R.ad
def sI (σ:St) (a:Act) (w:World) (tv:Value) (r:Nat) (p:Path) (snap:List Nat):Prop:=
 Below snap (σ.lC r)/\(σ.ok r snap=true->∃ pl,place σ a w r p=some pl/\tv=cu pl.t pl.cs/\((yL pl.t=true/\snap.length=min 5 (2+eu p))\/snap.length=5))
def Eg (σ:St) (a:Act) (w:World) (tv:Value) (r:Nat) (p:Path) (snap:List Nat):Prop:=
 Below snap (σ.lC r)/\(σ.ok r snap=true->∃ pl b o,place σ a w r p=some pl/\pl.ad=some (b,o)/\tv=.pointer (some ⟨b,o,none⟩)/\snap.length=min 5 (1+eu p))
def GS (σ:St) (a:Act) (w:World) (tv:Value) (r:Nat) (p:Path) (snap:List Nat) (lo hi:Nat):Prop:=
 Below snap (σ.lC r)/\(σ.ok r snap=true->∃ pl e x n cap x' cap',place σ a w r p=some pl/\pl.t=.aa e/\pl.cs=[.slice x n cap]/\lo<=hi/\hi<=n/\tv=.slice x' (hi - lo) cap'/\cap'+lo=cap/\(lo=0->x'=x) /\
  (x=none->x'=none)/\(∀ ad,x=some ad->∃ dt,x'=some dt/\dt.spot=ad.spot/\dt.block=ad.block/\(lo < hi->dt.off=ad.off+lo*e.sz))/\(snap.length=min 5 (2+eu p)\/snap.length=5))
section
variable (P:Program) (A:Cells)
def acj (w:World) (x:J8) (tv:Value) (F:FP):Prop:=x.t=.unit\/∃ cs,tv=cu x.t cs/\ax P w A x.t x.m [] x.v cs F
def dq (σ:St) (a:Act) (w:World) (tv:Value):Slot->FP->Prop
 | .dead,_=>True
 | .yF,_=>tv=.slice none 0 0
 | .val t v,_=>∃ cs,tv=cu t cs/\Ro P w A t v cs
 | .cp t v,_=>Ro P w A (.ptr t) v [tv]
 | .own t m H v,F=>∃ cs,tv=cu t cs/\ax P w A t m H v cs F
 | .box t m H v,F=>∃ b o L F1,tv=.pointer (some ⟨b,o,none⟩)/\L.length=t.sz/\Has w b o L/\(∀ j,j < t.sz->w.frozen? ⟨b,o+j,none⟩=false) /\
   (∀ x i,de b o t.sz x i+F1 x i<=F x i)/\ax P w A t m H v L F1
 | .ref r p snap,_=>sI σ a w tv r p snap
 | .ptr r p snap,_=>Eg σ a w tv r p snap
 | .sub r p snap lo hi,_=>GS σ a w tv r p snap lo hi
 | .s8 xs,F=>∃ (vs:Array Value) (Fi:Nat->FP),tv=.tuple vs/\(∀ b i,bk xs.length Fi b i<=F b i)/\∀ j x,xs[j]?=some x->∃ v,vs[j]?=some v/\acj P A w x v (Fi j)
end
structure Ext (w w':World) (F:FP):Prop where
 size:w.heap.size<=w'.heap.size
 cell:∀ b i,b < w.heap.size->F b i=0->∀ u,ce w b i=some u->ce w' b i=some u
 wg:∀ b n,iR w b n->iR w' b n
 Bc:∀ b i,b < w.heap.size->w'.frozen? ⟨b,i,none⟩=w.frozen? ⟨b,i,none⟩
 os:w'.os=w.os
 tape:w'.tape=w.tape
 output:w'.output=w.output
 obj:∀ b,b < w.heap.size->(∀ i,F b i=0)->w'.heap[b]?=w.heap[b]?
 drawn:w.drawn<=w'.drawn
def Wt (P:Program):Bool:=(P.globalNamed "internal/strconv.uint64pow10").isSome||(P.globalNamed "internal/bytealg.MaxLen").isSome
def xO (P:Program) (w:World) (F0:FP):Prop:=Wt P=true->(∃ w0:World,(w0.ShapedOpen P/\((P.globalNamed "internal/strconv.uint64pow10").isSome=true->Go.Lib.TabIs P w0 "internal/strconv.uint64pow10" .u64 Go.Lib.pow10Tab))/\∀ b,b < P.globals.size->w.heap[b]?=w0.heap[b]?) /\
 P.globals.size<=w.heap.size/\∀ b i,b < P.globals.size->F0 b i=0
theorem adt {P:Program} {w:World} {F0:FP} (h:Wt P=false):xO P w F0:=λe=>by grind
theorem xO.ext {P:Program} {w w':World} {F0 G:FP} (h:xO P w F0) (he:Ext w w' F0) (hG:∀ b i,1<=G b i->1<=F0 b i\/w.heap.size<=b):xO P w' G:=λe=>by
 obtain ⟨⟨w0,g,hw⟩,hs,hf⟩:=h e;refine ⟨⟨w0,g,λb hb=>?_⟩,bG hs he.size,λb i hb=>?_⟩
 ·rw[he.obj b Bys (λi=>hf b i hb)];exact hw b hb
 grind
structure Ctx where
 w0:World
 A0:Cells
 F0:FP
 args:Array Value
structure Rel (P:Program) (C:Ctx) (A:Cells) (X:FP) (σ:St) (a:Act) (w:World) (F:Nat->FP):Prop where
 size:a.tmps.size=σ.n
 defers:a.defers=[]
 jg:∀ i,i < σ.n->dq P A σ a w (tmp a i) (σ.get i) (F i)
 gh:∀ d r p snap,(d,r,p,snap) ∈ σ.gh->sI σ a w (tmp a d) r p snap
 qe:∀ b i,X b i+bk σ.n F b i<=1
 rh:∀ b i,1<=X b i+bk σ.n F b i->¬ A b i
 k9:∀ b i,1<=X b i+bk σ.n F b i\/A b i->b < w.heap.size
 mD:∀ i,(σ.lC i).length=5
 ext:Ext C.w0 w C.F0
 own:∀ b i,1<=X b i+bk σ.n F b i->1<=C.F0 b i\/C.w0.heap.size<=b
 a0:∀ b i,C.A0 b i->A b i
 a1:∀ b i,A b i->C.A0 b i\/1<=C.F0 b i\/C.w0.heap.size<=b
 pz:∀ j k,(j,k,false) ∈ σ.aT->tmp a j=C.args.getD k undef
 whole:∀ r t m H v,σ.get r=.box t m H v->(∀ k,(r,k,false) ∉ σ.aT)->∃ b,tmp a r=.pointer (some ⟨b,0,none⟩)/\iR w b (t.sz,false)
 oo:∀ j k,(j,k,true) ∈ σ.aT->∀ R,et w (tmp a j) (σ.get j)=some R->cu R.t R.cs=C.args.getD k undef
 tab:xO P C.w0 C.F0
theorem Rel.ET {P:Program} {C:Ctx} {A:Cells} {X:FP} {σ:St} {a:Act} {w:World} {F:Nat->FP} (h:Rel P C A X σ a w F) {G:FP} (hG:∀ b i,1<=G b i->1<=X b i+bk σ.n F b i):xO P w G:=
 h.tab.ext h.ext λb i hp=>h.own b i (hG b i hp)
def zQ (σ:St) (a:Act) (w:World) (σ':St) (a':Act) (w':World):Prop:=
 ∀ r p snap,Below snap (σ.lC r)->Below snap (σ'.lC r)/\(σ'.ok r snap=true->σ.ok r snap=true /\
  (snap.length=min 5 (1+eu p)\/snap.length=min 5 (2+eu p)\/snap.length=5->∀ pl,place σ a w r p=some pl->∃ H' cc,place σ' a' w' r p=some ⟨pl.t,H',cc,pl.ad⟩ /\
   ((yL pl.t=true/\snap.length=min 5 (2+eu p))\/snap.length=5->cc=pl.cs)))
section
variable {P:Program} {A A':Cells} {σ σ':St} {a a':Act} {w w':World} {tv:Value} {F:FP}
theorem sI.nD (hp:zQ σ a w σ' a' w') {r:Nat} {p:Path} {snap:List Nat} (h:sI σ a w tv r p snap):sI σ' a' w' tv r p snap:=by
 obtain ⟨h1,h2⟩:=h;obtain ⟨h3,h4⟩:=hp r p snap h1;refine ⟨h3,λbf=>?_⟩
 grind
theorem Eg.nD (hp:zQ σ a w σ' a' w') {r:Nat} {p:Path} {snap:List Nat} (h:Eg σ a w tv r p snap):Eg σ' a' w' tv r p snap:=by
 obtain ⟨h1,h2⟩:=h;obtain ⟨h3,h4⟩:=hp r p snap h1;refine ⟨h3,λbf=>?_⟩
 grind
theorem GS.nD (hp:zQ σ a w σ' a' w') {r:Nat} {p:Path} {snap:List Nat} {lo hi:Nat} (h:GS σ a w tv r p snap lo hi):GS σ' a' w' tv r p snap lo hi:=by
 obtain ⟨h1,h2⟩:=h;obtain ⟨h3,h4⟩:=hp r p snap h1;refine ⟨h3,λbf=>?_⟩
 grind [yL]
theorem dq.nD (hp:zQ σ a w σ' a' w') (hA:∀ b i,A b i->A' b i) (hc:∀ b i,A b i->∀ u,ce w b i=some u->ce w' b i=some u) (hb:∀ b n,iR w b n->iR w' b n)
  (hF:∀ b i,1<=F b i->(∀ u,ce w b i=some u->ce w' b i=some u)/\w'.frozen? ⟨b,i,none⟩=w.frozen? ⟨b,i,none⟩) {s:Slot} (h:dq P A σ a w tv s F):dq P A' σ' a' w' tv s F:=by
 cases s with
 | dead=>trivial
 | yF=>exact h
 | val t v=>obtain ⟨cs,h1,h2⟩:=h;exact ⟨cs,h1,Ro.mono hc hA t h2⟩
 | cp t v=>exact Ro.mono hc hA (.ptr t) h
 | own t m H v=>obtain ⟨cs,h1,h2⟩:=h;exact ⟨cs,h1,ax.mono hA hc hb t h2 (λ_ _=>aH _) (λb i hp=>(hF b i hp).1)⟩
 | box t m H v=>
  obtain ⟨b,o,L,F1,h1,h2,h3,h4,h5,h6⟩:=h
  have hr:∀ j,j < t.sz->1<=F b (o+j):=λj hj=>by
   grind [de]
  exact ⟨b,o,L,F1,h1,h2,λj u hu=>(hF _ _ (hr j (h2 ▸ (aM.1 hu).1))).1 u (h3 j u hu),λj hj=>by grind,h5,
   ax.mono hA hc hb t h6 (λ_ _=>aH _) (λb i hp=>(hF b i (by grind)).1)⟩
 | ref r p snap=>exact sI.nD hp h
 | ptr r p snap=>exact Eg.nD hp h
 | sub r p snap lo hi=>exact GS.nD hp h
 | s8 xs=>
  obtain ⟨vs,Fi,h1,h2,h3⟩:=h;refine ⟨vs,Fi,h1,h2,λj x hx=>?_⟩
  obtain ⟨v,h4,h5⟩:=h3 j x hx;refine ⟨v,h4,h5.imp id λ⟨cs,h6,h7⟩=>⟨cs,h6,ax.mono hA hc hb x.t h7 (λ_ _=>aH _) (λb i hp=>(hF b i ?_).1)⟩⟩
  grind [dz]
end
end OT
set_option linter.unusedVariables false
set_option linter.unusedSimpArgs false
namespace OT
open Go
theorem By {α:Type} (k:Nat) (x:α) (l:List (Nat×α)) (i:Nat):oF ((k,x)::l) i=if k=i then some x else oF l i:=by
 simp_all [oF]
theorem zR (σ:St) (d:Nat) (s:Slot) (i:Nat):(σ.put d s).get i=if d=i/\i < σ.n then s else σ.get i:=by
 grind [St.get,St.put,By,Nat.blt_eq]
theorem Ia (σ:St) (d:Nat) (s:Slot) (i:Nat):(σ.mr d s).get i=if d=i/\i < σ.n then s else σ.get i:=by
 grind [St.get,St.mr,By,Nat.blt_eq]
theorem B5 (σ:St) (d:Nat) (s:Slot) (i:Nat):(σ.put d s).lC i=if d=i then tX (σ.lC d) else σ.lC i:=by
 grind [St.lC,St.put,By]
theorem rY (σ:St) (d:Nat) (f:List Nat->List Nat) (i:Nat):(σ.nv d f).lC i=if d=i then f (σ.lC d) else σ.lC i:=by
 grind [St.lC,St.nv,By]
theorem Bz {l:List (Nat×Nat×Bool)} {d:Nat} {e:Nat×Nat×Bool} (h:e ∈ Cc l d):e ∈ l/\e.1≠d:=by
 induction l with
 | nil=>cases h
 | cons x l ih=>
  obtain ⟨k,b⟩:=x;simp only[Cc] at h;split at h
  ·grind
  ·rename_i hk;rcases aY.1 h with rfl | h
   all_goals simp_all
theorem Ki {l:List (Nat×Nat×Bool)} {d:Nat} {e:Nat×Nat×Bool} (h:e ∈ l) (hd:e.1≠d):e ∈ Cc l d:=by
 induction l with
 | nil=>cases h
 | cons x l ih=>
  obtain ⟨k,b⟩:=x;simp only[Cc];rcases aY.1 h with rfl | h
  ·simp_all
  grind
theorem Ui {l:List (Nat×Nat×Bool)} {d j k:Nat} (h:(j,k,false) ∈ l):(j,k,false) ∈ Cd l d:=by
 induction l <;> grind [Cd]
theorem Kj {l:List (Nat×Nat×Bool)} {d:Nat} {e:Nat×Nat×Bool} (h:e ∈ Cd l d):e ∈ l/\¬ (e.1=d/\e.2.2=true):=by
 induction l with
 | nil=>cases h
 | cons x l ih=>
  obtain ⟨k,n,b⟩:=x;simp only[Cd] at h;split at h
  ·grind
  ·rename_i hk;rcases aY.1 h with rfl | h
   all_goals simp_all
theorem OH {l:List (Nat×Nat×Path×List Nat)} {d:Nat} {e:Nat×Nat×Path×List Nat} (h:e ∈ Oh l d):e ∈ l/\e.1≠d:=by
 induction l with
 | nil=>cases h
 | cons x l ih=>
  obtain ⟨k,b⟩:=x;simp only[Oh] at h;split at h
  ·grind
  ·rename_i hk;rcases aY.1 h with rfl | h
   all_goals simp_all
theorem uD (v:List Nat):Below v (tX v):=λj x hj=>⟨x+1,by simp[tX,hj],by omega⟩
theorem GT {v:List Nat} (h:v.length=5):∃ b x y z w,v=[b,x,y,z,w]:=by
 match v,h with
 | [b,x,y,z,w],_=>grind
theorem Wu {b x y z w b' x' y' z' w':Nat} (h0:b<=b') (h1:x<=x') (h2:y<=y') (h3:z<=z') (h4:w<=w'):Below [b,x,y,z,w] [b',x',y',z',w']:=by
 intro j n hj;grind
theorem wv (d:Nat) {v:List Nat} (h:v.length=5):Below v (vG d v):=by
 obtain ⟨b,x,y,z,w,rfl⟩:=GT h
 match d with
 | 0 | 1 | 2 | n+3=>exact Wu Bys Bys Bys Bys Bys
theorem An {v:List Nat} (h:v.length=5):Below v (yG v):=by
 obtain ⟨b,x,y,z,w,rfl⟩:=GT h;exact Wu Bys Bys Bys Bys Bys
theorem GU {v:List Nat}:(tX v).length=v.length:=by simp[tX]
theorem EU (d:Nat) {v:List Nat} (h:v.length=5):(vG d v).length=5:=by
 obtain ⟨b,x,y,z,w,rfl⟩:=GT h
 match d with
 | 0 | 1 | 2 | n+3=>rfl
theorem GV {v:List Nat} (h:v.length=5):(yG v).length=5:=by
 obtain ⟨b,x,y,z,w,rfl⟩:=GT h;rfl
theorem Kk {s v v':List Nat} (hs:Below s v) (hv:Below v v') (h:preB s v'=true) {j:Nat} (hj:v[j]?≠v'[j]?):s.length<=j:=by
 rcases cG j s.length with h' | h'
 ·exact absurd ((H_ hs hv h).2 j h') hj
 ·exact h'
theorem IA {s v:List Nat} (hl:v.length=5) (hs:Below s v) (h:preB s (tX v)=true):s.length=0:=by
 obtain ⟨b,x,y,z,w,rfl⟩:=GT hl;have:=Kk hs (uD _) h (j:=0) (by simp[tX]);omega
theorem GW {s v:List Nat} (d:Nat) (hl:v.length=5) (hs:Below s v) (h:preB s (vG d v)=true):s.length<=min 4 (1+d):=by
 have h4:s.length<=4:=by
  refine Kk hs (wv d hl) h ?_;obtain ⟨b,x,y,z,w,rfl⟩:=GT hl
  match d with
  | 0 | 1 | 2 | n+3=>simp[vG]
 have hd:s.length<=1+d:=by
  rcases cG d 3 with hd | hd
  ·refine Kk hs (wv d hl) h ?_;obtain ⟨b,x,y,z,w,rfl⟩:=GT hl
   match d,hd with
   | 0,_ | 1,_ | 2,_=>simp[vG]
  ·omega
 omega
theorem Jr {s v:List Nat} (hl:v.length=5) (hs:Below s v) (h:preB s (yG v)=true):s.length<=4:=by
 refine Kk hs (An hl) h ?_;grind [GT,yG]
section
variable {P:Program} {C:Ctx} {A A2:Cells} {X:FP} {σ:St} {a:Act} {w w2:World} {F:Nat->FP}
theorem pp (a:Act) (d:Nat) (v:Value) (i:Nat):tmp (a.put (some d) v) i=if d=i/\i < a.tmps.size then v else tmp a i:=by
 simp only[tmp,Act.put,Array.getD_eq_getD_getElem?,Array.getElem?_setIfInBounds];grind
theorem yO {tv:Value} {s:Slot} {G:FP} {R:Pl} (h:dq P A σ a w tv s G) (hR:et w tv s=some R) :
  ∃ (m:Md) (v:R.t.den) (F1:FP),ax P w A R.t m R.H v R.cs F1/\(∀ b i,F1 b i<=G b i) /\
   (∀ b o,R.ad=some (b,o)->Has w b o R.cs/\(∀ x i,de b o R.t.sz x i+F1 x i<=G x i)/\∀ j,j < R.t.sz->w.frozen? ⟨b,o+j,none⟩=false) /\
   ((∃ v',s=.own R.t m R.H v'/\HEq v v'/\R.ad=none)\/(∃ v',s=.box R.t m R.H v'/\HEq v v'/\R.ad.isSome=true)):=by
 cases s with
 | own t m H v=>
  simp only[et,aQ] at hR;subst hR;obtain ⟨cs,h1,h2⟩:=h;refine ⟨m,v,G,?_,λ_ _=>aH _,(λb o h=>by cases h),.inl ⟨v,rfl,HEq.rfl,rfl⟩⟩
  grind [lW,ax.length,ax.one]
 | box t m H v=>
  obtain ⟨b,o,L,F1,h1,h2,h3,h4,h5,h6⟩:=h;grind [et,gc]
 | _=>simp[et] at hR
theorem yP {tv:Value} {s:Slot} {G:FP} {R:Pl} (h:dq P A σ a w tv s G) (hc:∀ b i,1<=G b i->∀ u,ce w b i=some u->ce w2 b i=some u)
  (hR:et w tv s=some R):et w2 tv s=some R:=by
 cases s with
 | own t m H v=>exact hR
 | box t m H v=>
  obtain ⟨b,o,L,F1,h1,h2,h3,h4,h5,h6⟩:=h;subst h1;simp only[et,aQ] at hR ⊢
  have:Has w2 b o L:=λj u hu=>hc _ _ (by
   grind [de]) u (h3 j u hu)
  grind [gc]
 | _=>simp[et] at hR
theorem xy {σ':St} {a':Act} {r:Nat} {p:Path} {G:FP} {pl:Pl} (h:dq P A σ a w (tmp a r) (σ.get r) G) (hg:σ'.get r=σ.get r) (ht:tmp a' r=tmp a r)
  (hA:∀ b i,A b i->∀ u,ce w b i=some u->ce w2 b i=some u) (hc:∀ b i,1<=G b i->∀ u,ce w b i=some u->ce w2 b i=some u)
  (hp:place σ a w r p=some pl):place σ' a' w2 r p=some pl:=by
 unfold place at hp ⊢;rw[hg,ht];cases hR:et w (tmp a r) (σ.get r) <;> grind [yP,yO,yo]
theorem mK {σ:St} {i:Nat} (h:¬ i < σ.n):σ.get i=.dead:=by simp[St.get,h]
theorem u9 {r:Nat} {p:Path} {pl:Pl} (h:place σ a w r p=some pl):r < σ.n:=by
 grind [place,mK,et]
theorem Rel.put (h:Rel P C A X σ a w F) {d:Nat} (hd:d < σ.n) {s:Slot} {v:Value} {Fd X':FP} (hs:dq P A σ a w v s Fd) (ht:∀ b i,X' b i+Fd b i<=X b i+F d b i)
  (hwh:∀ t m H v',s=.box t m H v'->∃ b,v=.pointer (some ⟨b,0,none⟩)/\iR w b (t.sz,false)) :
  Rel P C A X' (σ.put d s) (a.put (some d) v) w (g_ F d Fd):=by
 have nt:=h.size
 have oG:zQ σ a w (σ.put d s) (a.put (some d) v) w:=by
  intro r p snap hb;rw[B5,St.ok,B5];by_cases hr:d=r
  ·subst hr;simp only[aJ];refine ⟨hb.trans (uD _),λbf=>?_⟩
   have h0:=IA (h.mD d) hb bf;exact ⟨(H_ hb (uD _) bf).1,λhl=>by omega⟩
  ·simp only[aV hr];refine ⟨hb,λbf=>⟨bf,λhl pl ji=>⟨pl.H,pl.cs,?_,λ_=>rfl⟩⟩⟩
   exact xy (h.jg r (u9 ji)) (by grind [zR]) (by grind [pp]) (λ_ _ _ _ h=>h) (λ_ _ _ _ h=>h) ji
 have yQ:∀ b i,X' b i+bk σ.n (g_ F d Fd) b i<=X b i+bk σ.n F b i:=λb i=>by
  grind [u7]
 refine ⟨by simp[Act.put,nt,St.put],by simpa [Act.put] using h.defers,λi hi=>?_,?_,λb i=>bG (yQ b i) (h.qe b i),λb i hp=>h.rh b i (bG hp (yQ b i)),
  λb i hp=>h.k9 b i (hp.imp (λhp=>bG hp (yQ b i)) id),λi=>?_,h.ext,λb i hp=>h.own b i (bG hp (yQ b i)),h.a0,h.a1,?_,?_,?_,h.tab⟩
 ·have hi:i < σ.n:=hi;rw[zR,pp,nt];by_cases hdi:d=i
  ·subst hdi;rw[aR ⟨rfl,hi⟩,aR ⟨rfl,hi⟩];simp only[g_,aJ];exact dq.nD oG (λ_ _ h=>h) (λ_ _ _ _ h=>h) (λ_ _ h=>h) (λ_ _ _=>⟨λ_ h=>h,rfl⟩) hs
  ·rw[aV (λh=>hdi h.1),aV (λh=>hdi h.1)];simp only[g_,aV (λh:i=d=>hdi h.symm)];exact dq.nD oG (λ_ _ h=>h) (λ_ _ _ _ h=>h) (λ_ _ h=>h) (λ_ _ _=>⟨λ_ h=>h,rfl⟩) (h.jg i hi)
 ·intro d' r p snap hm;obtain ⟨hm,jx⟩:=OH hm;rw[pp,aV (λh=>jx h.1.symm)];exact sI.nD oG (h.gh d' r p snap hm)
 ·rw[B5];split
  ·rw[GU];exact h.mD d
  ·exact h.mD i
 ·intro j k hm;obtain ⟨hm,jx⟩:=Bz hm;rw[pp,aV (λh=>jx h.1.symm)];exact h.pz j k hm
 ·intro r t m H v' hg hl;rw[zR] at hg;rw[pp,nt];by_cases GP:d=r/\r < σ.n
  ·grind
  ·rw[aV GP] at hg ⊢;refine h.whole r t m H v' hg λk hm=>hl k (Ki hm λe=>GP ⟨e.symm,?_⟩);grind
 ·intro j k hm R hR;obtain ⟨hm,jx⟩:=Bz hm;rw[pp,aV (λh=>jx h.1.symm),zR,aV (λh=>jx h.1.symm)] at hR;exact h.oo j k hm R hR
theorem Rel.less (h:Rel P C A X σ a w F) {X':FP} (ht:∀ b i,X' b i<=X b i):Rel P C A X' σ a w F:=
 { h with
  qe:=λb i=>by have:=h.qe b i;grind
  rh:=λb i hp=>h.rh b i (by grind)
  k9:=λb i hp=>h.k9 b i (hp.imp (λhp=>by grind) id)
  own:=λb i hp=>h.own b i (by grind) }
theorem Ext.refl (w:World) (F:FP):Ext w w F:=⟨aH _,λ_ _ _ _ _ h=>h,λ_ _ h=>h,λ_ _ _=>rfl,rfl,rfl,rfl,λ_ _ _=>rfl,aH _⟩
theorem Ext.mono {F F':FP} (h:Ext w w2 F) (hF:∀ b i,F' b i=0->F b i=0):Ext w w2 F':={ h with cell:=λb i hb hz=>h.cell b i hb (hF b i hz),obj:=λb hb hz=>h.obj b hb λi=>hF b i (hz i) }
theorem Ext.trans {w3:World} {F G:FP} (h:Ext w w2 F) (h2:Ext w2 w3 G) (hG:∀ b i,b < w.heap.size->F b i=0->G b i=0):Ext w w3 F:=
 ⟨bG h.size h2.size,λb i hb hz u hu=>h2.cell b i (bX hb h.size) (hG b i hb hz) u (h.cell b i hb hz u hu),λb n hn=>h2.wg b n (h.wg b n hn),
  λb i hb=>(h2.Bc b i (bX hb h.size)).trans (h.Bc b i hb),h2.os.trans h.os,h2.tape.trans h.tape,h2.output.trans h.output,
  λb hb hz=>(h2.obj b (bX hb h.size) λi=>hG b i hb (hz i)).trans (h.obj b hb hz),bG h.drawn h2.drawn⟩
theorem Rel.Cp (h:Rel P C A X σ a w F) {r:Nat} (hr:r < σ.n) {σ':St} (hn:σ'.n=σ.n) (yR:∀ i,i≠r->σ'.get i=σ.get i) (ack:∀ i,i≠r->σ'.lC i=σ.lC i)
  (hvr:Below (σ.lC r) (σ'.lC r)) (IB:(σ'.lC r).length=5) (EV:∀ e,e ∈ σ'.aT->e ∈ σ.aT) (acl:∀ j k,(j,k,false) ∈ σ.aT->(j,k,false) ∈ σ'.aT) (hgh:∀ e,e ∈ σ'.gh->e ∈ σ.gh)
  {X2 Wv:FP} {R:Pl} {H2:List Path} {d9:List Value} (hs:dq P A2 σ' a w2 (tmp a r) (σ'.get r) Wv) (hR:et w (tmp a r) (σ.get r)=some R)
  (hR2:et w2 (tmp a r) (σ'.get r)=some ⟨R.t,H2,d9,R.ad⟩)
  (dp:∀ (p:Path) (snap:List Nat),Below snap (σ.lC r)->σ'.ok r snap=true->(snap.length=min 5 (1+eu p)\/snap.length=min 5 (2+eu p)\/snap.length=5) ->
   ∃ D full,eu p<=D/\(snap.length=min 5 (2+eu p)->eu p < D\/full)/\(snap.length=5->full)/\tj D full w R.t R.H R.cs R.ad w2 H2 d9)
  (hA:∀ b i,A b i->A2 b i) (GX:∀ b i,A2 b i->A b i\/(1<=X b i+F r b i/\X2 b i+Wv b i=0))
  (hx:∀ b i,X2 b i+Wv b i<=X b i+F r b i) (hw:Ext w w2 λb i=>X b i+F r b i) (acm:∀ t m H v,σ'.get r=.box t m H v->∃ m0 H0 v0,σ.get r=.box t m0 H0 v0) (Cq:∀ k,(r,k,true) ∈ σ'.aT->d9=R.cs) :
  Rel P C A2 X2 σ' a w2 (g_ F r Wv):=by
 have hle:∀ b i,X b i+F r b i<=X b i+bk σ.n F b i:=λb i=>by grind [dz]
 have uB:∀ b i,A b i->∀ u,ce w b i=some u->ce w2 b i=some u:=λb i ha u hu=>by
  refine hw.cell b i (h.k9 b i (.inr ha)) ?_ u hu;rcases bJ (X b i+F r b i) with h0 | h0
  ·exact h0
  ·exact absurd ha (h.rh b i (bG h0 (hle b i)))
 have GY:∀ j,j < σ.n->j≠r->∀ b i,1<=F j b i->(∀ u,ce w b i=some u->ce w2 b i=some u)/\w2.frozen? ⟨b,i,none⟩=w.frozen? ⟨b,i,none⟩:=λj hj Ww b i hp=>by
  have h1:=wo F hj hr Ww b i;have h2:=h.qe b i;have hb:=h.k9 b i (.inl (by grind));exact ⟨λu hu=>hw.cell b i hb (by grind) u hu,hw.Bc b i hb⟩
 have oG:zQ σ a w σ' a w2:=by
  intro r' p snap hb;by_cases hrr:r'=r
  ·subst hrr;refine ⟨hb.trans hvr,λbf=>?_⟩
   refine ⟨(H_ hb hvr bf).1,λhl pl ji=>?_⟩
   obtain ⟨D,full,h1,h2,h3,h4⟩:=dp p snap hb bf hl;unfold place at ji ⊢;rw[hR] at ji;rw[hR2];obtain ⟨H',cc,h5,h6⟩:=h4 p pl h1 ji;grind
  ·rw[St.ok,ack r' hrr];refine ⟨hb,λbf=>⟨bf,λhl pl ji=>⟨pl.H,pl.cs,?_,λ_=>rfl⟩⟩⟩
   have a_:=u9 ji;exact xy (h.jg r' a_) (yR r' hrr) rfl uB (λb i hp=>(GY r' a_ hrr b i hp).1) ji
 have yQ:∀ b i,X2 b i+bk σ.n (g_ F r Wv) b i<=X b i+bk σ.n F b i:=λb i=>by
  grind [u7]
 refine ⟨by rw[hn];exact h.size,h.defers,λi hi=>?_,λd r' p snap hm=>sI.nD oG (h.gh d r' p snap (hgh _ hm)),λb i=>by rw[hn];exact bG (yQ b i) (h.qe b i),λb i hp ha=>?_,
  λb i hp=>?_,λi=>?_,h.ext.trans hw λb i hb hz=>?_,λb i hp=>by rw[hn] at hp;exact h.own b i (bG hp (yQ b i)),λb i ha=>hA b i (h.a0 b i ha),λb i ha=>?_,
  λj k hm=>h.pz j k (EV _ hm),λr' t m H v hg hl=>?_,λj k hm R' qf=>?_,h.tab⟩
 ·rw[hn] at hi;by_cases SO:i=r
  ·grind [g_]
  ·simp only[g_,aV SO];rw[yR i SO];exact dq.nD oG hA uB hw.wg (GY i hi SO) (h.jg i hi)
 ·rw[hn] at hp
  rcases GX b i ha with ha | ⟨h1,h2⟩
  ·exact h.rh b i (bG hp (yQ b i)) ha
  ·have h3:=h.qe b i;grind [u7]
 ·rw[hn] at hp;refine bX (h.k9 b i ?_) hw.size;grind
 ·by_cases SO:i=r
  ·grind
  ·rw[ack i SO];exact h.mD i
 ·rcases bJ (X b i+F r b i) with h0 | h0
  ·exact h0
  ·have:=h.own b i (bG h0 (hle b i));omega
 ·rcases GX b i ha with ha | ⟨h1,_⟩
  ·exact h.a1 b i ha
  ·exact .inr (h.own b i (bG h1 (hle b i)))
 ·have:∃ m0 H0 v0,σ.get r'=.box t m0 H0 v0:=by
   grind
  obtain ⟨m0,H0,v0,Wx⟩:=this;obtain ⟨b,h1,h2⟩:=h.whole r' t m0 H0 v0 Wx λk hm=>hl k (acl _ _ hm);exact ⟨b,h1,hw.wg _ _ h2⟩
 ·by_cases Ww:j=r
  ·subst Ww;rw[hR2] at qf;injection qf with qf;subst qf;show cu R.t d9=_;rw[Cq k hm];exact h.oo j k (EV _ hm) R hR
  ·rcases cG j σ.n with hj | hj
   ·rw[yR j Ww] at qf;have mF:=h.jg j hj
    cases Bu:et w (tmp a j) (σ.get j) with
    | none=>exfalso;cases hg:σ.get j <;> rw[hg] at Bu qf <;> simp only[et] at Bu qf <;> first | grind | grind | grind
    | some R0=>
     rw[yP mF (λb i hp=>(GY j hj Ww b i hp).1) Bu] at qf;injection qf with qf;subst qf;exact h.oo j k (EV _ hm) _ Bu
   ·rw[mK (by rw[hn];omega)] at qf;cases qf
end
end OT
set_option linter.unusedVariables false
set_option linter.unusedSimpArgs false
namespace OT
open Go
def lF (ad:Option (Nat×Nat)) (n:Nat):FP:=λb i=>match ad with
 | some (b',o)=>de b' o n b i
 | none=>0
section
variable {P:Program} {C:Ctx} {A:Cells} {X:FP} {σ:St} {a:Act} {w:World} {F:Nat->FP} {R:Type} {x:R}
theorem Kl {r:Nat} {K:(t:Ty)->Md->List Path->t.den->Option R} (h:yH σ r K=some x) :
  r < σ.n/\∃ t m H v,(σ.get r=.own t m H v\/σ.get r=.box t m H v)/\K t m H v=some x:=by
 grind [yH,mK]
structure acn (P:Program) (A:Cells) (σ:St) (a:Act) (w:World) (r:Nat) (G:FP) (t:Ty) (m:Md) (H:List Path) (v:t.den) (cs:List Value) (ad:Option (Nat×Nat)) (F1:FP):Prop where
 root:et w (tmp a r) (σ.get r)=some ⟨t,H,cs,ad⟩
 rep:ax P w A t m H v cs F1
 le:∀ b i,lF ad t.sz b i+F1 b i<=G b i
 has:∀ b o,ad=some (b,o)->Has w b o cs
 Bc:∀ b o,ad=some (b,o)->∀ j,j < t.sz->w.frozen? ⟨b,o+j,none⟩=false
 val:ad=none->tmp a r=cu t cs/\σ.get r=.own t m H v
 ptr:∀ b o,ad=some (b,o)->tmp a r=.pointer (some ⟨b,o,none⟩)/\σ.get r=.box t m H v
theorem dq.root {r:Nat} {G:FP} (h:dq P A σ a w (tmp a r) (σ.get r) G) {t:Ty} {m:Md} {H:List Path} {v:t.den} (hg:σ.get r=.own t m H v\/σ.get r=.box t m H v) :
  ∃ cs ad F1,acn P A σ a w r G t m H v cs ad F1:=by
 rcases hg with hg | hg
 ·rw[hg] at h;obtain ⟨cs,h1,h2⟩:=h;refine ⟨cs,none,G,by grind [et,lW,ax.length,ax.one],h2,λb i=>by simp[lF],(λb o h=>by cases h),(λb o h=>by cases h),λ_=>⟨h1,hg⟩,(λb o h=>by cases h)⟩
 ·rw[hg] at h;obtain ⟨b,o,L,F1,h1,h2,h3,h4,h5,h6⟩:=h;refine ⟨L,some (b,o),F1,by grind [et,gc],h6,λb i=>h5 b i,?_,?_,(λh=>by cases h),?_⟩
  all_goals grind
theorem l7 (h:Rel P C A X σ a w F) {r:Nat} {p:Path} {K:(t:Ty)->Md->List Path->t.den->Option R} (hk:qC σ r p K=some x) :
  r < σ.n/\∃ (t':Ty) (m':Md) (H':List Path) (v':t'.den) (cc:List Value) (dt:Option (Nat×Nat)) (F':FP),K t' m' H' v'=some x/\(∀ {S:Type} (K0:(t:Ty)->Md->List Path->t.den->Option S),qC σ r p K0=K0 t' m' H' v')/\place σ a w r p=some ⟨t',H',cc,dt⟩/\ax P w A t' m' H' v' cc F' /\
   (∀ b i,F' b i<=F r b i)/\(∀ b o,dt=some (b,o)->Has w b o cc):=by
 obtain ⟨hr,t,m,H,v,hg,hk⟩:=Kl hk;obtain ⟨cs,ad,F1,RO⟩:=(h.jg r hr).root hg;obtain ⟨t',m',H',v',cc,dt,F',h1,hn,h2,h3,h4,h5,_⟩:=acf p t hk RO.rep (ad:=ad) RO.has;refine ⟨hr,t',m',H',v',cc,dt,F',h1,λK0=>?_,?_,h3,λb i=>by have:=h4 b i;have:=RO.le b i;omega,h5⟩
 ·grind [qC,yH]
 unfold place;rw[RO.root];exact h2
theorem Ao (r:Nat) (t:Ty) (m:Md) (H:List Path) (v:t.den) (i:Nat) (h:i≠r):(σ.kM r t m H v).get i=σ.get i:=by
 grind [St.kM,Ia]
theorem yS {r:Nat} (hr:r < σ.n) {t t0:Ty} {m m0:Md} {H H0:List Path} {v0:t0.den} (v:t.den) (h:σ.get r=.own t0 m0 H0 v0):(σ.kM r t m H v).get r=.own t m H v:=by
 grind [St.kM,Ia]
theorem yT {r:Nat} (hr:r < σ.n) {t t0:Ty} {m m0:Md} {H H0:List Path} {v0:t0.den} (v:t.den) (h:σ.get r=.box t0 m0 H0 v0):(σ.kM r t m H v).get r=.box t m H v:=by
 grind [St.kM,Ia]
theorem ww (r:Nat) (t:Ty) (m:Md) (H:List Path) (v:t.den):(σ.kM r t m H v).n=σ.n:=by unfold St.kM;split <;> rfl
theorem sm (r:Nat) (t:Ty) (m:Md) (H:List Path) (v:t.den) (i:Nat):(σ.kM r t m H v).lC i=σ.lC i:=by unfold St.kM;split <;> rfl
theorem yU (r:Nat) (t:Ty) (m:Md) (H:List Path) (v:t.den):(σ.kM r t m H v).aT=σ.aT:=by unfold St.kM;split <;> rfl
theorem EW (r:Nat) (t:Ty) (m:Md) (H:List Path) (v:t.den):(σ.kM r t m H v).gh=σ.gh:=by unfold St.kM;split <;> rfl
def rZ (σ σ':St):Prop:=∀ (w:World) (tv:Value) (i:Nat) (R:Pl),et w tv (σ'.get i)=some R->∃ H,et w tv (σ.get i)=some ⟨R.t,H,R.cs,R.ad⟩
theorem rZ.refl (σ:St):rZ σ σ:=λw tv i R h=>⟨R.H,h⟩
theorem rZ.trans {σ σ' zS:St} (h:rZ σ σ') (h':rZ σ' zS):rZ σ zS:=by
 intro w tv i R0 hR;obtain ⟨H,h1⟩:=h' w tv i R0 hR;exact h w tv i ⟨R0.t,H,R0.cs,R0.ad⟩ h1
theorem Bd {r:Nat} (hr:r < σ.n) {t:Ty} {m m0:Md} {H H0:List Path} {v0:t.den} (v:t.den) (h:σ.get r=.own t m0 H0 v0\/σ.get r=.box t m0 H0 v0) {σ':St} (hg:∀ i,σ'.get i=(σ.kM r t m H v).get i):rZ σ σ':=by
 intro w tv i R hR;rw[hg] at hR;by_cases hi:i=r
 ·subst hi;rcases h with h | h
  ·grind [yS,et]
  ·rw[yT hr v h] at hR;rw[h];simp only[et] at hR ⊢;grind
 ·rw[Ao r t m H v i hi] at hR;exact ⟨R.H,hR⟩
structure YR (σ:St) (r:Nat) (s:Slot) (aco:Prop) (σ':St):Prop where
 n:σ'.n=σ.n
 get:∀ i,i≠r->σ'.get i=σ.get i
 root:σ'.get r=s
 lC:∀ i,i≠r->σ'.lC i=σ.lC i
 below:Below (σ.lC r) (σ'.lC r)
 mD:(σ'.lC r).length=5
 aT:∀ e,e ∈ σ'.aT->e ∈ σ.aT
 aay:∀ j k,(j,k,false) ∈ σ.aT->(j,k,false) ∈ σ'.aT
 gh:∀ e,e ∈ σ'.gh->e ∈ σ.gh
 head:∀ k,(r,k,true) ∈ σ'.aT->aco
theorem Rel.Be (h:Rel P C A X σ a w F) {r:Nat} {p:Path} {f:(t':Ty)->Md->List Path->t'.den->(Md->List Path->t'.den->Option R)->Option R}
  {Kf:(t:Ty)->Md->List Path->t.den->Option R} (hk:yH σ r (λt0 m0 H0 v0=>sF p t0 m0 H0 v0 f λm' H' v'=>Kf t0 m' H' v')=some x) :
  r < σ.n/\∃ (t':Ty) (m':Md) (H':List Path) (v':t'.den) (cc:List Value) (dt:Option (Nat×Nat)) (F':FP) (kk:Md->List Path->t'.den->Option R),
   f t' m' H' v' kk=some x/\(∀ {S:Type} (K0:(t:Ty)->Md->List Path->t.den->Option S),qC σ r p K0=K0 t' m' H' v')/\place σ a w r p=some ⟨t',H',cc,dt⟩/\ax P w A t' m' H' v' cc F' /\
   (∀ b i,lF dt t'.sz b i+F' b i<=F r b i)/\(∀ b o,dt=some (b,o)->Has w b o cc)/\(∀ b o,dt=some (b,o)->∀ j,j < t'.sz->w.frozen? ⟨b,o+j,none⟩=false) /\
   ∀ m2 H2 (v2:t'.den),kk m2 H2 v2=some x->∀ (w2:World) (A2:Cells) (d9:List Value) (F2 X2:FP),
    Ext w w2 (λb i=>X b i+(F' b i+lF dt t'.sz b i))->(∀ b i,A b i->A2 b i)->(∀ b i,A2 b i->A b i\/(1<=X b i+F' b i/\X2 b i+F2 b i=0)) ->
    (∀ b i,X2 b i+F2 b i<=X b i+F' b i)->(∀ b o,dt=some (b,o)->Has w2 b o d9)->(dt=none->d9=cc)->ax P w2 A2 t' m2 H2 v2 d9 F2 ->
    ∃ (t0:Ty) (m3:Md) (H3:List Path) (v3:t0.den) (Fr:FP) (A3:Cells),Kf t0 m3 H3 v3=some x/\(∃ (m0:Md) (H0:List Path) (v0:t0.den),σ.get r=.own t0 m0 H0 v0\/σ.get r=.box t0 m0 H0 v0)/\(∀ b i,A2 b i->A3 b i)/\(∀ b i,Fr b i<=F r b i+X b i) /\
     ∀ σ',YR σ r ((σ.kM r t0 m3 H3 v3).get r) (1<=eu p\/d9=cc) σ' ->
      (∀ (p':Path) (snap:List Nat),Below snap (σ.lC r)->σ'.ok r snap=true->(snap.length=min 5 (1+eu p')\/snap.length=min 5 (2+eu p')\/snap.length=5) ->
       ∃ D full,eu p'<=D+eu p/\(snap.length=min 5 (2+eu p')->eu p' < D+eu p\/full)/\(snap.length=5->full)/\tj D full w t' H' cc dt w2 H2 d9) ->
      Rel P C A3 X2 σ' a w2 (g_ F r Fr):=by
 obtain ⟨hr,t,m,H,v,hg,hk⟩:=Kl hk;obtain ⟨cs,ad,F1,RO⟩:=(h.jg r hr).root hg;have IC:∀ b i,X b i+F r b i<=1:=λb i=>by have:=h.qe b i;grind [dz]
 have xp:∀ b o,ad=some (b,o)->∀ j,j < t.sz->F1 b (o+j)=0:=λb o e j hj=>by
  have h1:=RO.le b (o+j);grind [lF,de]
 obtain ⟨t',m',H',v',cc,dt,F',G,kk,loc,M⟩:=acg p t hk RO.rep (λb i=>by have:=IC b i;have:=RO.le b i;omega) RO.has xp;have hlen:=ax.length t RO.rep
 have Cr:∀ b i,lF dt t'.sz b i+F' b i<=F r b i/\(1<=lF dt t'.sz b i->1<=G b i\/1<=lF ad t.sz b i)/\lF dt t'.sz b i<=1:=λb i=>by
  have h1:=M.sum b i;have h2:=RO.le b i;have h3:=IC b i
  cases j0:dt with
  | none=>grind [lF]
  | some bo=>
   obtain ⟨b0,o0⟩:=bo;simp only[lF,de];split
   ·rename_i iZ;obtain ⟨rfl,afJ,Uj⟩:=iZ
    cases loc with
    | none=>
     obtain ⟨b',o',e1,e2⟩:=M.out rfl;rw[j0] at e1;simp only[aQ,bL] at e1;obtain ⟨rfl,rfl⟩:=e1;have:=(e2 (i - o0) Bys).1;grind
    | some off=>
     obtain ⟨e1,e2,e3⟩:=M.vK off rfl;grind [iY,de,lF]
   ·omega
 refine ⟨hr,t',m',H',v',cc,dt,F',kk,M.run,λK0=>?_,by unfold place;rw[RO.root];exact M.place,M.rep,λb i=>(Cr b i).1,M.has,λb o e j hj=>?_,?_⟩
 ·unfold qC yH;rcases hg with hg | hg <;> rw[hg] <;> exact M.Wq K0
 ·cases loc with
  | none=>
   obtain ⟨b',o',e1,e2⟩:=M.out rfl;grind
  | some off=>
   obtain ⟨e1,e2,e3⟩:=M.vK off rfl
   cases Cs:ad with
   | none=>rw[e,Cs] at e3;cases e3
   | some y=>
    rw[e,Cs] at e3;simp only[iY,bQ,aQ,bL] at e3;obtain ⟨rfl,rfl⟩:=e3;have:=RO.Bc y.1 y.2 Cs (off+j) Bys;grind
 intro m2 H2 v2 Km w2 A2 d9 F2 X2 eo hA GX hX wa Kh Ib;have zG:=ax.length t' Ib
 have uB:∀ b i,A b i->∀ u,ce w b i=some u->ce w2 b i=some u:=λb i ha u hu=>by
  refine eo.cell b i (h.k9 b i (.inr ha)) ?_ u hu;have h1:=(Cr b i).1;have h2:=dz F hr b i;have h3:=h.rh b i;grind
 have hGc:∀ b i,1<=G b i\/1<=lF ad t.sz b i->(∀ o,dt=some (b,o)->¬ (o<=i/\i < o+t'.sz))->∀ u,ce w b i=some u->ce w2 b i=some u:=λb i hp hn u hu=>by
  have h1:=Cr b i;have h2:=IC b i;have h3:=M.sum b i;have h4:=RO.le b i
  refine eo.cell b i (h.k9 b i (.inl (by grind [dz]))) ?_ u hu;show X b i+(F' b i+lF dt t'.sz b i)=0
  have h5:lF dt t'.sz b i=0:=by
   cases j0:dt <;> grind [lF,de]
  omega
 have adu:∀ b i,F2 b i+G b i<=1:=λb i=>by
  have:=hX b i;have:=M.sum b i;have:=RO.le b i;grind
 obtain ⟨m3,H3,v3,F3,k1,k2,k3,k4⟩:=M.back m2 H2 v2 Km w2 A2 d9 F2 eo.wg hA uB (λb i hp hn=>hGc b i (.inl hp) hn) wa Ib adu
 have acp:(lU loc cs t'.sz d9).length=t.sz:=by
  cases loc with
  | none=>exact hlen
  | some off=>have:=(M.vK off rfl).1;grind [lU,wT]
 have Bx:d9=cc->lU loc cs t'.sz d9=cs:=λe=>by
  cases loc with
  | none=>rfl
  | some off=>
   obtain ⟨e1,e2,_⟩:=M.vK off rfl;rw[e,e2];exact Cn Bys
 have Uk:∀ b o,ad=some (b,o)->Has w2 b o (lU loc cs t'.sz d9):=λb o e=>by
  have cells:∀ j u,cs[j]?=some u->(∀ o',dt=some (b,o')->¬ (o'<=o+j/\o+j < o'+t'.sz))->ce w2 b (o+j)=some u:=λj u hu hn=>by
   have hj:j < t.sz:=hlen ▸ (aM.1 hu).1;exact hGc b (o+j) (.inr (by grind [lF,de])) hn u (RO.has b o e j u hu)
  cases OI:loc with
  | none=>
   intro j u hu;refine cells j u hu λo' he iZ=>?_;have hj:j < t.sz:=hlen ▸ (aM.1 hu).1;obtain ⟨b',o'',e1,e2⟩:=M.out OI;rw[he] at e1;simp only[aQ,bL] at e1;obtain ⟨rfl,rfl⟩:=e1;have h1:=(e2 (o+j - o') Bys).1;rw[show o'+(o+j - o')=o+j by omega] at h1;have h2:=RO.le b (o+j);have h3:=IC b (o+j);have h4:=M.sum b (o+j)
   grind
  | some off=>
   obtain ⟨e1,e2,e3⟩:=M.vK off OI;rw[e] at e3;simp only[iY,bQ] at e3
   exact SK Bys zG (wa b (o+off) e3) (λj u hu hn=>cells j u hu λo' he iZ=>by
    grind)
 refine ⟨t,m3,H3,v3,λb i=>lF ad t.sz b i+F3 b i,λb i=>A2 b i\/(1<=F2 b i+G b i/\F3 b i=0),k1,⟨m,H,v,hg⟩,λ_ _ h=>.inl h,λb i=>?_,λσ' on dp=>?_⟩
 ·have h1:=k2 b i;have h2:=hX b i;have h3:=M.sum b i;have h4:=RO.le b i
  grind
 have Ul:=k3 (λb i=>A2 b i\/(1<=F2 b i+G b i/\F3 b i=0)) (λ_ _ h=>.inl h) (λb i h1 h2=>.inr ⟨h1,h2⟩)
 have N0:dq P (λb i=>A2 b i\/(1<=F2 b i+G b i/\F3 b i=0)) σ' a w2 (tmp a r) (σ'.get r) (λb i=>lF ad t.sz b i+F3 b i)/\et w2 (tmp a r) (σ'.get r)=some ⟨t,H3,lU loc cs t'.sz d9,ad⟩:=by
  rw[on.root]
  cases Cs:ad with
  | none=>
   obtain ⟨e1,e2⟩:=RO.val Cs
   have e3:lU loc cs t'.sz d9=cs:=by
    cases OI:loc with
    | none=>rfl
    | some off=>
     have:=(M.vK off OI).2.2;rw[Cs] at this;rw[<-OI];exact Bx (Kh this)
   rw[yS hr v3 e2];rw[e3] at Ul ⊢;exact ⟨⟨cs,e1,ax.le Ul (λb i=>by grind)⟩,by grind [et,lW,ax.one]⟩
  | some bo=>
   obtain ⟨b,o⟩:=bo;obtain ⟨e1,e2⟩:=RO.ptr b o Cs;rw[yT hr v3 e2,e1];have hh:=Uk b o Cs;refine ⟨⟨b,o,_,F3,rfl,acp,hh,λj hj=>?_,λb' i=>?_,Ul⟩,by grind [et,gc]⟩
   ·have hb:b < w.heap.size:=h.k9 b (o+j) (.inl (by
     have h1:=RO.le b (o+j);grind [dz,lF,de]))
    rw[eo.Bc b (o+j) hb];exact RO.Bc b o Cs j hj
   ·exact aH _
 refine h.Cp hr on.n on.get on.lC on.below on.mD on.aT on.aay on.gh N0.1 RO.root N0.2 (λp' snap h1 h2 h3=>?_) (λb i ha=>.inl (hA b i ha)) (λb i ha=>?_) (λb i=>?_) (eo.mono λb i hz=>?_) (λt5 m5 H5 v5 hg5=>?_) (λk hm=>?_)
 ·grind
 ·have h1:=hX b i;have h2:=k2 b i;have h3:=M.sum b i;have h4:=RO.le b i;grind
 ·have h1:=hX b i;have h2:=k2 b i;have h3:=M.sum b i;have h4:=RO.le b i
  grind
 ·grind
 ·rw[on.root] at hg5;grind [yS,yT]
 ·rcases on.head k hm with hp | he
  ·rw[M.Ug hp];rfl
  grind
end
end OT
set_option linter.unusedVariables false
set_option linter.unusedSimpArgs false
namespace OT
open Go
theorem ax.aaz {P:Program} {w:World} {A:Cells}:∀ (t:Ty) {m:Md} {H:List Path} {v:t.den} {cs:List Value} {F:FP},ax P w A t m H v cs F->ax P w A t m (vT t) v cs (λ_ _=>0):=by
 intro t
 induction t with
 | pair a b nE nw=>
  intro m H v cs F h;obtain ⟨_,F1,F2,hs,h1,h2⟩:=h;refine ⟨by grind [vT,tZ,sG],λ_ _=>0,λ_ _=>0,λ_ _=>aH _,?_,?_⟩
  all_goals grind [vT,vI,wt,wu,vJ]
 | aa e ih=>
  intro m H v cs F h;have h1:=ax.length _ h;have h2:=ax.one _ h
  match cs,h1 with
  | [y],_=>grind [ax,vT,hole]
 | ptr e ih=>
  intro m H v cs F h;have h1:=ax.length _ h;have h2:=ax.one _ h
  match cs,h1 with
  | [y],_=>grind [ax,vT,hole]
 | arr n e ih=>intro m H v cs F h;rw[vT,h.2.1];obtain ⟨rfl,h⟩:=h;exact ⟨rfl,h⟩
 | map k v=>
  intro m H v cs F h;have h1:=ax.length _ h;have h2:=ax.one _ h
  match cs,h1 with
  | [y],_=>grind [ax,vT,hole]
 | _=>intro m H v cs F h;exact h
section
variable {P:Program} {C:Ctx} {A:Cells} {X:FP} {σ:St} {a:Act} {w:World} {F:Nat->FP} {R:Type} {x:R}
structure At (σ:St) (r:Nat) (p:Path) (t:Ty) (m:Md) (H:List Path) (v:t.den):Prop where
 eq:∀ {S:Type} (K0:(t:Ty)->Md->List Path->t.den->Option S),qC σ r p K0=K0 t m H v
theorem At.inj {r:Nat} {p:Path} {t t':Ty} {m m':Md} {H H':List Path} {v:t.den} {v':t'.den} (h:At σ r p t m H v) (h':At σ r p t' m' H' v'):t=t'/\m=m'/\H=H'/\HEq v v':=by
 have h1:=h.eq (λt m H v=>some (⟨t,m,H,v⟩:(t:Ty)×Md×List Path×t.den));rw[h'.eq] at h1;grind
theorem Kn (σ:St) (r d:Nat):(σ.head r d).n=σ.n:=by unfold St.head;split <;> rfl
theorem Ct (σ:St) (r d i:Nat):(σ.head r d).get i=σ.get i:=by unfold St.head;split <;> rfl
theorem Cu (σ:St) (r d i:Nat):(σ.head r d).lC i=σ.lC i:=by unfold St.head;split <;> rfl
theorem SP (σ:St) (r d:Nat):(σ.head r d).gh=σ.gh:=by unfold St.head;split <;> rfl
theorem OJ {r d:Nat} {f:List Nat->List Nat} (h1:Below (σ.lC r) (f (σ.lC r))) (h2:(f (σ.lC r)).length=5) {t:Ty} {m:Md} {H:List Path} {v:t.den} {q:Prop} (hq:1<=d->q) :
  YR σ r ((σ.kM r t m H v).get r) q (((σ.kM r t m H v).nv r f).head r d) where
 n:=by rw[Kn];exact ww r t m H v
 get i hi:=by rw[Ct];exact Ao r t m H v i hi
 root:=by rw[Ct];rfl
 lC i hi:=by grind [Cu,rY,sm]
 below:=by grind [Cu,rY,sm]
 mD:=by grind [Cu,rY,sm]
 aT e he:=by
  unfold St.head at he;grind [Kj,St.nv,yU]
 aay j k hm:=by
  unfold St.head;grind [Ui,St.nv,yU]
 gh e he:=by grind [SP,St.nv,EW]
 head k hm:=by
  unfold St.head at hm;split at hm
  ·exact absurd ⟨rfl,rfl⟩ (Kj hm).2
  grind
theorem OK (h:Rel P C A X σ a w F) {r:Nat} {p:Path} {K:St->Option R} (hk:Bw σ r p K=some x) {t':Ty} {m':Md} {H':List Path} {v':t'.den} (hn:At σ r p t' m' H' v') :
  ∃ (A':Cells) (σ':St) (F':Nat->FP) (cs:List Value) (ad:Option (Nat×Nat)) (Fv:FP),K σ'=some x/\(∀ b i,A b i->A' b i)/\Rel P C A' (λb i=>X b i+Fv b i) σ' a w F'/\σ'.n=σ.n/\rZ σ σ' /\
   place σ a w r p=some ⟨t',H',cs,ad⟩/\ax P w A t' m' H' v' cs Fv/\∀ b i,Fv b i<=F r b i:=by
 obtain ⟨hr,t1,m1,H1,v1,cs,ad,Fv,kk,h1,h2,h3,h4,h5,h6,h7,h8⟩:=h.Be hk;obtain ⟨e1,e2,e3,e4⟩:=hn.inj ⟨h2⟩;subst e1;subst e2;subst e3;have e4:=gD e4;subst e4;obtain ⟨t0,m3,H3,v3,Fr,A3,k1,⟨m0,H0,v0,k0⟩,k2,k3,k4⟩:=h8 _ _ _ h1 w A cs (λ_ _=>0) (λb i=>X b i+Fv b i) (Ext.refl _ _) (λ_ _ h=>h) (λ_ _ h=>.inl h) (λb i=>aH _) h6 (λ_=>rfl) (ax.aaz _ h4);refine ⟨A3,_,_,cs,ad,Fv,k1,k2,k4 _ (OJ (wv _ (h.mD r)) (EU _ (h.mD r)) .inl) (λp' snap hb bf hl=>?_),?_,Bd hr v3 k0 (λi=>by rw[Ct];rfl),h3,h4,λb i=>by grind⟩
 ·refine ⟨0,False,?_,?_,?_,tj.zero (A:=A) ad (ax.aaz _ h4)⟩
  all_goals
   unfold St.ok at bf;rw[Cu,rY,aR rfl,sm] at bf;have:=GW (eu p) (h.mD r) hb bf
  all_goals omega
 ·rw[Kn];exact ww _ _ _ _ _
theorem LX (h:Rel P C A X σ a w F) {r:Nat} {p:Path} {K:St->Option R} (hk:Bw σ r p K=some x) {t':Ty} {m':Md} {v':t'.den} (hn:At σ r p t' m' [] v') :
  ∃ (A':Cells) (σ':St) (F':Nat->FP) (cs:List Value) (ad:Option (Nat×Nat)) (Fv:FP),K σ'=some x/\(∀ b i,A b i->A' b i)/\Rel P C A' (λb i=>X b i+Fv b i) σ' a w F'/\σ'.n=σ.n/\rZ σ σ' /\
   place σ a w r p=some ⟨t',[],cs,ad⟩/\ax P w A t' m' [] v' cs Fv:=
 have ⟨A',σ',F',cs,ad,Fv,h1,h2,h3,h4,h5,h6,h7,_⟩:=OK h hk hn
 ⟨A',σ',F',cs,ad,Fv,h1,h2,h3,h4,h5,h6,h7⟩
theorem MT {r:Nat} (hv:(σ.lC r).length=5) {t:Ty} {m:Md} {H:List Path} {v:t.den} {q:Prop} (hq:q):YR σ r ((σ.kM r t m H v).get r) q (σ.kM r t m H v):=
 ⟨ww _ _ _ _ _,λi hi=>Ao _ _ _ _ _ i hi,rfl,λi _=>sm _ _ _ _ _ i,by rw[sm];exact Below.refl _,by grind [sm],
  λe he=>by grind [yU],λj k hm=>by grind [yU],λe he=>by grind [EW],λ_ _=>hq⟩
theorem Rq (h:Rel P C A X σ a w F) {r:Nat} {p:Path} {m2:Md} {K:St->Option R} (hk:yk σ r p m2 K=some x) :
  ∃ (A':Cells) (σ':St) (F':Nat->FP),K σ'=some x/\(∀ b i,A b i->A' b i)/\Rel P C A' X σ' a w F'/\σ'.n=σ.n/\rZ σ σ':=by
 obtain ⟨hr,t1,m1,H1,v1,cs,ad,Fv,kk,h1,h2,h3,h4,h5,h6,h7,h8⟩:=h.Be hk;have IC:∀ b i,X b i+F r b i<=1:=λb i=>by have:=h.qe b i;grind [dz]
 split at h1
 ·rename_i hc;simp only[aD,bD] at hc;obtain ⟨rfl,hc⟩:=hc;obtain ⟨F1,hF1,iT⟩:=ax.fits _ hc h4 (λb i=>by grind);have aaA:=iT (λb i=>A b i\/(1<=Fv b i/\F1 b i=0)) (λ_ _ h=>.inl h) (λb i h1 h2=>.inr ⟨h1,h2⟩)
  obtain ⟨t0,m3,H3,v3,Fr,A3,k1,⟨m0,H0,v0,k0⟩,k2,k3,k4⟩:=h8 _ _ _ h1 w (λb i=>A b i\/(1<=Fv b i/\F1 b i=0)) cs F1 X (Ext.refl _ _) (λ_ _ h=>.inl h)
   (λb i ha=>ha.imp id λ⟨h1,h2⟩=>⟨by omega,by grind⟩) (λb i=>by grind) h6 (λ_=>rfl) aaA
  exact ⟨A3,_,_,k1,λb i ha=>k2 b i (.inl ha),k4 _ (MT (h.mD r) (.inr rfl)) (λp' snap hb bf hl=>⟨eu p'+1,True,by omega,λ_=>.inr trivial,λ_=>trivial,
   tj.same ad h4 (λ_ _ _ _ h=>h) (λ_ _ _ _ h=>h) _ True⟩),ww _ _ _ _ _,Bd hr v3 k0 (λi=>rfl)⟩
 ·cases h1
theorem AJ (h:Rel P C A X σ a w F) {r:Nat} {p:Path} {K:St->Option R} (hk:zN σ r p K=some x) :
  ∃ (A':Cells) (σ':St) (F':Nat->FP) (t':Ty) (m':Md) (v':t'.den) (cs:List Value) (ad:Option (Nat×Nat)),K σ'=some x/\(∀ b i,A b i->A' b i)/\Rel P C A' X σ' a w F'/\σ'.n=σ.n/\rZ σ σ' /\
   At σ r p t' m' [] v'/\place σ a w r p=some ⟨t',[],cs,ad⟩/\Ro P w A' t' v' cs:=by
 obtain ⟨hr,t1,m1,H1,v1,cs,ad,Fv,kk,h1,h2,h3,h4,h5,h6,h7,h8⟩:=h.Be hk;have IC:∀ b i,X b i+F r b i<=1:=λb i=>by have:=h.qe b i;grind [dz]
 split at h1
 ·rename_i hc;simp only[aD,bD] at hc;obtain ⟨rfl,hc⟩:=hc;have yV:Ro P w (λb i=>A b i\/1<=Fv b i) t1 v1 cs:=ax.yK (λ_ _ h=>.inl h) t1 h4 (λb i hp=>.inr hp)
  obtain ⟨t0,m3,H3,v3,Fr,A3,k1,⟨m0,H0,v0,k0⟩,k2,k3,k4⟩:=h8 _ _ _ h1 w (λb i=>A b i\/1<=Fv b i) cs (λ_ _=>0) X (Ext.refl _ _) (λ_ _ h=>.inl h)
   (λb i ha=>ha.imp id λh1=>⟨by omega,by grind⟩) (λb i=>by omega) h6 (λ_=>rfl) (Ro.rep _ _ (iF _) yV)
  exact ⟨A3,_,_,t1,m1,v1,cs,ad,k1,λb i ha=>k2 b i (.inl ha),k4 _ (MT (h.mD r) (.inr rfl)) (λp' snap hb bf hl=>⟨eu p'+1,True,by omega,λ_=>.inr trivial,λ_=>trivial,
   tj.same ad h4 (λ_ _ _ _ h=>h) (λ_ _ _ _ h=>h) _ True⟩),ww _ _ _ _ _,Bd hr v3 k0 (λi=>rfl),⟨h2⟩,h3,Ro.mono (λ_ _ _ _ h=>h) k2 _ yV⟩
 ·cases h1
theorem dn {t t':Ty} {v:t.den} {K:t'.den->Option R} (h:jR t t' v K=some x):∃ e:t=t',K (e ▸ v)=some x:=by
 grind [jR]
theorem Eh (h:Rel P C A X σ a w F) {r:Nat} {p:Path} {t:Ty} {m:Md} {v:t.den} {K:St->Option R} (hk:xo σ r p t m v K=some x) :
  r < σ.n/\∃ (m':Md) (H':List Path) (v':t.den) (cs:List Value) (ad:Option (Nat×Nat)) (F':FP),At σ r p t m' H' v'/\place σ a w r p=some ⟨t,H',cs,ad⟩/\ax P w A t m' H' v' cs F' /\
   (∀ b i,lF ad t.sz b i+F' b i<=F r b i)/\(∀ b o,ad=some (b,o)->Has w b o cs/\∀ j,j < t.sz->w.frozen? ⟨b,o+j,none⟩=false) /\
   ∀ (w2:World) (A2:Cells) (d9:List Value) (Fv X2:FP),Ext w w2 (λb i=>X b i+(F' b i+lF ad t.sz b i))->(∀ b i,A b i->A2 b i)->(∀ b i,A2 b i->A b i\/(1<=X b i+F' b i/\X2 b i+Fv b i=0)) ->
    (∀ b i,X2 b i+Fv b i<=X b i+F' b i)->(∀ b o,ad=some (b,o)->Has w2 b o d9)->(ad=none->d9=cs)->ax P w2 A2 t m [] v d9 Fv ->
    ∃ (A3:Cells) (σ':St) (Fr:FP),K σ'=some x/\(∀ b i,A2 b i->A3 b i)/\Rel P C A3 X2 σ' a w2 (g_ F r Fr)/\σ'.n=σ.n /\
     ∀ g:List Nat->List Nat,Below (σ.lC r) (g (σ.lC r))->(g (σ.lC r)).length=5->d9=cs ->
      (∀ (p':Path) (snap:List Nat),Below snap (σ.lC r)->preB snap (g (σ.lC r))=true->(snap.length=min 5 (1+eu p')\/snap.length=min 5 (2+eu p')\/snap.length=5) ->
       ∃ D full,eu p'<=D+eu p/\(snap.length=min 5 (2+eu p')->eu p' < D+eu p\/full)/\(snap.length=5->full)/\tj D full w t H' cs ad w2 [] d9) ->
      Rel P C A3 X2 { σ' with vr:=(σ.nv r g).vr,aT:=σ.aT } a w2 (g_ F r Fr):=by
 obtain ⟨hr,t1,m1,H1,v1,cs,ad,Fv,kk,h1,h2,h3,h4,h5,h6,h7,h8⟩:=h.Be hk;obtain ⟨e,h1⟩:=dn h1;subst e;refine ⟨hr,m1,H1,v1,cs,ad,Fv,⟨h2⟩,h3,h4,h5,λb o e=>⟨h6 b o e,h7 b o e⟩,λw2 A2 d9 Fv2 X2 g1 g2 g3 g4 g5 g6 g7=>?_⟩
 obtain ⟨t0,m3,H3,v3,Fr,A3,k1,⟨m0,H0,v0,k0⟩,k2,k3,k4⟩:=h8 m [] v h1 w2 A2 d9 Fv2 X2 g1 g2 g3 g4 g5 g6 g7;refine ⟨A3,_,Fr,k1,k2,k4 _ (OJ ?_ ?_ .inl) (λp' snap hb bf hl=>?_),?_,λg hg1 hg2 qD dp=>?_⟩
 ·split
  ·exact An (h.mD r)
  ·exact wv _ (h.mD r)
 ·split
  ·exact GV (h.mD r)
  ·exact EU _ (h.mD r)
 ·unfold St.ok at bf;rw[Cu,rY,aR rfl,sm] at bf;by_cases hf:t.flat=true
  ·rw[aR hf] at bf;have:=Jr (h.mD r) hb bf;exact ⟨eu p'+1,False,by omega,λ_=>.inl Bys,λ_=>by omega,tj.flat (A:=A) ad g7 hf _⟩
  ·rw[aV hf] at bf;have:=GW (eu p) (h.mD r) hb bf;exact ⟨0,False,by omega,λ_=>.inl Bys,λ_=>by omega,tj.zero (A:=A) ad g7⟩
 ·rw[Kn];exact ww _ _ _ _ _
 ·refine k4 _ ⟨by rw[Kn];exact ww _ _ _ _ _,λi hi=>?_,?_,λi hi=>?_,?_,?_,λe he=>he,λj k hm=>hm,λe he=>?_,λ_ _=>.inr qD⟩ (λp' snap hb bf hl=>dp p' snap hb ?_ hl)
  ·show (((σ.kM r t0 m3 H3 v3).nv r _).head r _).get i=_;rw[Ct];exact Ao r t0 m3 H3 v3 i hi
  ·show (((σ.kM r t0 m3 H3 v3).nv r _).head r _).get r=_;rw[Ct];rfl
  ·show (σ.nv r g).lC i=σ.lC i;grind [rY]
  ·show Below _ ((σ.nv r g).lC r);grind [rY]
  ·show ((σ.nv r g).lC r).length=5;grind [rY]
  ·grind [SP,St.nv,EW]
  ·have bf:preB snap ((σ.nv r g).lC r)=true:=bf;grind [rY]
end
end OT
set_option linter.unusedVariables false
set_option linter.unusedSimpArgs false
namespace OT
open Go
section
variable {P:Program} {C:Ctx} {A:Cells} {X:FP} {σ:St} {a:Act} {w:World} {F:Nat->FP} {R:Type} {x:R}
theorem Rel.grow (h:Rel P C A X σ a w F) {w1:World} (hw:Ext w w1 (λ_ _=>0)) {A1:Cells} {X1:FP} (hA:∀ b i,A b i->A1 b i)
  (ID:∀ b i,A1 b i->A b i\/(w.heap.size<=b/\b < w1.heap.size/\X1 b i=0)) (hX:∀ b i,X1 b i<=X b i\/(w.heap.size<=b/\b < w1.heap.size/\X1 b i<=1)):Rel P C A1 X1 σ a w1 F:=by
 have uB:∀ b i,A b i->∀ u,ce w b i=some u->ce w1 b i=some u:=λb i ha u hu=>hw.cell b i (h.k9 b i (.inr ha)) rfl u hu
 have hb0:∀ b i,w.heap.size<=b->bk σ.n F b i=0:=λb i hb=>by
  rcases bJ (bk σ.n F b i) with h0 | h0
  ·exact h0
  ·have:=h.k9 b i (.inl Bys);omega
 have GY:∀ j,j < σ.n->∀ b i,1<=F j b i->(∀ u,ce w b i=some u->ce w1 b i=some u)/\w1.frozen? ⟨b,i,none⟩=w.frozen? ⟨b,i,none⟩:=λj hj b i hp=>by
  have hb:=h.k9 b i (.inl (by grind [dz]));exact ⟨λu hu=>hw.cell b i hb rfl u hu,hw.Bc b i hb⟩
 have oG:zQ σ a w σ a w1:=λr p snap hb=>⟨hb,λbf=>⟨bf,λhl pl ji=>⟨pl.H,pl.cs,by
  have a_:=u9 ji
  exact xy (h.jg r a_) rfl rfl uB (λb i hp=>(GY r a_ b i hp).1) ji,λ_=>rfl⟩⟩⟩
 refine ⟨h.size,h.defers,λi hi=>dq.nD oG hA uB hw.wg (GY i hi) (h.jg i hi),λd r p snap hm=>sI.nD oG (h.gh d r p snap hm),λb i=>?_,λb i hp ha=>?_,λb i hp=>?_,
  h.mD,h.ext.trans hw (λ_ _ _ _=>rfl),λb i hp=>?_,λb i ha=>hA b i (h.a0 b i ha),λb i ha=>?_,h.pz,λr t m H v hg hl=>?_,λj k hm R' qf=>?_,h.tab⟩
 ·have h1:=h.qe b i;grind
 ·rcases ID b i ha with ha | ⟨h1,h2,h3⟩
  ·have a_:=h.k9 b i (.inr ha)
   rcases hX b i with h2 | ⟨h2,_⟩
   ·exact h.rh b i Bys ha
   ·omega
  grind
 ·rcases hp with hp | ha
  ·rcases hX b i with h2 | ⟨h2,h3,_⟩
   ·exact bX (h.k9 b i (.inl Bys)) hw.size
   ·exact h3
  ·rcases ID b i ha with ha | ⟨h1,h2,h3⟩
   ·exact bX (h.k9 b i (.inr ha)) hw.size
   ·exact h2
 ·rcases hX b i with h2 | ⟨h2,_⟩
  ·exact h.own b i Bys
  ·exact .inr (bG h.ext.size h2)
 ·rcases ID b i ha with ha | ⟨h1,_⟩
  ·exact h.a1 b i ha
  ·exact .inr (.inr (bG h.ext.size h1))
 ·obtain ⟨b,h1,h2⟩:=h.whole r t m H v hg hl;exact ⟨b,h1,hw.wg _ _ h2⟩
 ·rcases cG j σ.n with hj | hj
  ·have mF:=h.jg j hj
   cases Bu:et w (tmp a j) (σ.get j) with
   | none=>exfalso;cases hg:σ.get j <;> rw[hg] at Bu qf <;> simp only[et] at Bu qf <;> first | grind | grind | grind
   | some R0=>
    rw[yP mF (λb i hp=>(GY j hj b i hp).1) Bu] at qf;injection qf with qf;subst qf;exact h.oo j k hm _ Bu
  ·rw[mK (fO.2 hj)] at qf;cases qf
def ei (P:Program):Operand->Bool
 | .func f=>(P.funcs[f]?).any (·.nfree == 0)
 | _=>true
theorem gn (h:Rel P C A X σ a w F) {o:Operand} (ho:ei P o=true):dq P A σ a w (a.eval o) (ep σ o) (λ_ _=>0)\/∃ xs,ep σ o=.s8 xs:=by
 cases o with
 | tmp i=>
  show dq P A σ a w (tmp a i) _ _\/_;rcases cG i σ.n with hi | hi
  ·have hs:=h.jg i hi;simp only[ep]
   cases hg:σ.get i with
   | own t m H v=>
    rw[hg] at hs;obtain ⟨cs,h1,h2⟩:=hs;left
    have ji:place σ a w i []=some ⟨t,H,cs,none⟩:=by
     grind [place,et,lW,ax.length,ax.one,bt]
    have h5:=h.mD i;refine ⟨?_,λ_=>⟨_,ji,h1,?_⟩⟩
    ·unfold wR;split
     ·intro j y hj;grind
     ·intro j y hj;grind
     ·exact Below.refl _
    ·unfold wR;grind [yL]
   | box t m H v=>
    rw[hg] at hs;obtain ⟨b,o,L,F1,h1,h2,h3,h4,h5,h6⟩:=hs;left;have h5':=h.mD i;refine ⟨?_,λ_=>⟨⟨t,H,L,some (b,o)⟩,b,o,?_,rfl,h1,by grind [ym]⟩⟩
    ·unfold ym;intro j y hj;grind
    grind [place,et,gc,bt]
   | s8 xs=>grind
   | dead=>exact .inl trivial
   | yF=>rw[hg] at hs;exact .inl hs
   | val t v=>rw[hg] at hs;exact .inl hs
   | cp t v=>rw[hg] at hs;exact .inl hs
   | ref r p snap=>rw[hg] at hs;exact .inl hs
   | ptr r p snap=>rw[hg] at hs;exact .inl hs
   | sub r p snap lo hi=>rw[hg] at hs;exact .inl hs
  ·simp only[ep,mK (fO.2 hi)];exact .inl trivial
 | const v=>
  left;show dq P A σ a w v (AH v) _;unfold AH;split
  ·split
   ·rename_i hn;exact ⟨[_],rfl,by grind [Ro,qR]⟩
   ·trivial
  ·exact ⟨[_],rfl,rfl⟩
  ·exact ⟨[_],rfl,rfl⟩
  ·exact ⟨[_],rfl,rfl⟩
  ·exact ⟨[_],rfl,rfl⟩
  ·exact ⟨[_],rfl,rfl⟩
  ·exact ⟨[_],rfl,by simp[Ro]⟩
  ·rfl
  ·trivial
 | func f=>
  left;simp only[ei,Option.any_eq_true,beq_iff_eq] at ho;obtain ⟨fn,h1,h2⟩:=ho;exact ⟨[_],rfl,#[],rfl,fn,h1,.inl ⟨h2,rfl⟩⟩
 | global g=>exact .inl trivial
def AO (A:Cells) (σ:St) (F:Nat->FP):Cells:=λb i=>A b i\/1<=bk σ.n F b i
theorem ee (t:Ty) (y:Value) (h:isAgg t=false):cu t [y]=y:=by simp[cu,h]
theorem Ro.piece {e:Ty} {v:List e.den} {xa:Option Addr} {n cap lo hi cap':Nat} {xz:Option Addr} (h:Ro P w A (.aa e) v [.slice xa n cap]) (h1:lo<=hi) (h2:hi<=n) (h3:cap'+lo=cap) (h4:xa=none->xz=none)
  (h5:∀ ad,xa=some ad->∃ dt,xz=some dt/\dt.spot=ad.spot/\dt.block=ad.block/\(lo < hi->dt.off=ad.off+lo*e.sz)) :
  Ro P w A (.aa e) ((v.take hi).drop lo) [.slice xz (hi - lo) cap']:=by
 obtain ⟨a0,aeD,g1,g2,g3,g4⟩:=h;simp only[dG,Value.slice.injEq,eG] at g1;obtain ⟨rfl,rfl,rfl⟩:=g1;have hlen:List.length ((v.take hi).drop lo)=hi - lo:=by simp;omega
 refine ⟨xz,cap',by rw[hlen],by grind,λhn=>?_,λdt Uf=>?_⟩
 ·rw[hlen];cases OL:xa <;> grind
 ·cases OL:xa <;> grind
def AR (A:Cells) (F:Nat->FP) (rs:List Nat):Cells:=λb i=>A b i\/∃ r ∈ rs,1<=F r b i
theorem MU (h:Rel P C A X σ a w F) {s:Slot} {tv:Value} {G:FP} (hs:dq P A σ a w tv s G) {t:Ty} {K:t.den->Option R} (hk:uo σ s t K=some x) :
  ∃ (v:t.den) (cs:List Value),K v=some x/\tv=cu t cs/\Ro P w (AR A F (nL s)) t v cs:=by
 have Wy:∀ b i,A b i->AR A F (nL s) b i:=λb i ha=>.inl ha;have Bx:∀ b i,A b i->∀ u,ce w b i=some u->ce w b i=some u:=λ_ _ _ _ h=>h
 cases s with
 | val t' v=>
  obtain ⟨e,hk⟩:=dn hk;subst e;obtain ⟨cs,h1,h2⟩:=hs;grind [Ro.mono]
 | cp t' v=>
  obtain ⟨e,hk⟩:=dn hk;subst e;exact ⟨v,[tv],hk,(ee _ _ rfl).symm,Ro.mono Bx Wy _ hs⟩
 | yF=>
  simp only[uo] at hk;split at hk
  ·rename_i t e;have hs:tv=.slice none 0 0:=hs;subst hs;exact ⟨[],_,hk,(ee _ _ rfl).symm,none,0,rfl,aH _,λ_=>rfl,λad j0=>by cases j0⟩
  ·cases hk
 | ref r p snap=>
  simp only[uo] at hk;split at hk
  ·rename_i bf;obtain ⟨hr,t',m',H',v',cc,dt,F',h1,h2,h3,h4,h5,h6⟩:=l7 h hk;obtain ⟨pl,g1,g2,g3⟩:=hs.2 bf;rw[h3] at g1;injection g1 with g1;subst g1;split at h1
   ·rename_i hH;have hH:=bD.1 hH;subst hH;obtain ⟨e,h1⟩:=dn h1;subst e;exact ⟨v',cc,h1,g2,ax.yK Wy _ h4 (λb i hp=>.inr ⟨r,bV.2 rfl,by grind⟩)⟩
   ·cases h1
  ·cases hk
 | sub r p snap lo hi=>
  simp only[uo] at hk;split at hk
  ·rename_i bf;obtain ⟨hr,t',m',H',v',cc,dt,F',h1,h2,h3,h4,h5,h6⟩:=l7 h hk;obtain ⟨pl,e,xa,n,cap,xz,cap',g1,g2,g3,g4,g5,g6,g7,SQ,g8,g9,g10⟩:=hs.2 bf;rw[h3] at g1;injection g1 with g1;subst g1;simp only at g2 g3;subst g2;subst g3;split at h1
   ·rename_i hH;have hH:=bD.1 hH;subst hH;obtain ⟨e',h1⟩:=dn h1;subst e';exact ⟨_,_,h1,by rw[ee _ _ rfl];exact g6,Ro.piece (ax.yK Wy _ h4 (λb i hp=>.inr ⟨r,bV.2 rfl,by grind⟩)) g4 g5 g7 g8 g9⟩
   ·cases h1
  ·cases hk
 | ptr r p snap=>
  simp only[uo] at hk;split at hk
  ·rename_i bf;obtain ⟨hr,t',m',H',v',cc,dt,F',h1,h2,h3,h4,h5,h6⟩:=l7 h hk;obtain ⟨pl,b,o,g1,g2,g3,g4⟩:=hs.2 bf;rw[h3] at g1;injection g1 with g1;subst g1;split at h1
   ·rename_i hH;have hH:=bD.1 hH;subst hH;obtain ⟨e',h1⟩:=dn h1;subst e';simp only at g2;subst g2
    refine ⟨v',[tv],h1,(ee _ _ rfl).symm,⟨b,o,none⟩,by rw[g3],rfl,cc,ax.length _ h4,λj u hu=>⟨h6 b o rfl j u hu,?_⟩,
     ax.yK Wy _ h4 (λb i hp=>.inr ⟨r,bV.2 rfl,by grind⟩)⟩
    have hj:j < t'.sz:=ax.length _ h4 ▸ (aM.1 hu).1;unfold place at h3
    cases hR:et w (tmp a r) (σ.get r) with
    | none=>grind
    | some R0=>
     rw[hR] at h3;obtain ⟨m0,v0,F1,q1,q2,q3,_⟩:=yO (h.jg r hr) hR
     exact Wp Wy p R0.t q1 (λb i hp=>.inr ⟨r,bV.2 rfl,by grind⟩) (λb' o' e' j hj=>.inr ⟨r,bV.2 rfl,by
      grind [de]⟩) h3 b o rfl j hj
   ·cases h1
  ·cases hk
 | _=>simp[uo] at hk
theorem GZ (h:Rel P C A X σ a w F) {s:Slot} {t:Ty} {K:t.den->Option R} (hk:uo σ s t K=some x):∀ r ∈ nL s,r < σ.n:=by
 intro r hr;cases s <;> simp only[nL,bV,List.not_mem_nil] at hr
 all_goals
  subst hr;simp only[uo] at hk;split at hk
  ·exact (l7 h hk).1
  ·cases hk
theorem SR (h:Rel P C A X σ a w F) {s:Slot} {tv:Value} {G:FP} (hs:dq P A σ a w tv s G) {t:Ty} {K:t.den->Option R} (hk:uo σ s t K=some x) :
  ∃ (v:t.den) (cs:List Value),K v=some x/\tv=cu t cs/\Ro P w (AO A σ F) t v cs:=by
 obtain ⟨v,cs,h1,h2,h3⟩:=MU h hs hk;refine ⟨v,cs,h1,h2,Ro.mono (λ_ _ _ _ h=>h) (λb i ha=>?_) t h3⟩
 rcases ha with ha | ⟨r,hr,hp⟩
 ·exact .inl ha
 ·have:=dz F (GZ h hk r hr) b i;exact .inr Bys
end
end OT
set_option linter.unusedVariables false
set_option linter.unusedSimpArgs false
namespace OT
open Go
section
variable {P:Program} {C:Ctx} {A:Cells} {X:FP} {σ:St} {a:Act} {w:World} {F:Nat->FP} {R:Type} {x:R}
theorem Ko {l:List (Nat×Nat×Bool)} {r:Nat} (h:EI l r=false) (k:Nat):(r,k,false) ∉ l:=by
 induction l with
 | nil=>grind
 | cons y l ih=>
  obtain ⟨k',n,b⟩:=y;simp_all [EI]
theorem sJ (a:Act) (i:Nat):a.put (some i) (tmp a i)=a:=by
 have:a.tmps.setIfInBounds i (tmp a i)=a.tmps:=by
  apply Array.ext
  all_goals simp_all [gP,tmp]
 simp[Act.put,this]
theorem vL (h:Rel P C A X σ a w F) {s:Slot} {tv:Value} {G:FP} (hs:dq P A σ a w tv s G) {mv:Bool} {t:Ty} {K:Md->t.den->St->Option R} (hk:nC σ s mv t K=some x) :
  ∃ (A':Cells) (σ':St) (F':Nat->FP) (m:Md) (v:t.den) (cs:List Value) (Fv:FP),K m v σ'=some x/\(∀ b i,A b i->A' b i)/\Rel P C A' (λb i=>X b i+Fv b i) σ' a w F'/\σ'.n=σ.n/\rZ σ σ' /\
   tv=cu t cs/\ax P w A' t m [] v cs Fv:=by
 have hz:Rel P C A (λb i=>X b i+0) σ a w F:=h
 cases s with
 | val t' v=>
  simp only[nC] at hk;obtain ⟨e,hk⟩:=dn hk;subst e;obtain ⟨cs,h1,h2⟩:=hs;exact ⟨A,σ,F,_,v,cs,λ_ _=>0,hk,λ_ _ h=>h,hz,rfl,rZ.refl σ,h1,Ro.rep _ _ (iF _) h2⟩
 | cp t' v=>
  simp only[nC] at hk;obtain ⟨e,hk⟩:=dn hk;subst e;exact ⟨A,σ,F,_,v,[tv],λ_ _=>0,hk,λ_ _ h=>h,hz,rfl,rZ.refl σ,(ee _ _ rfl).symm,Ro.rep _ _ (iF _) hs⟩
 | yF=>
  simp only[nC] at hk;split at hk
  ·rename_i t e;have hs:tv=.slice none 0 0:=hs;subst hs;refine ⟨A,σ,F,_,_,[.slice none 0 0],λ_ _=>0,hk,λ_ _ h=>h,hz,rfl,rZ.refl σ,(ee _ _ rfl).symm,?_⟩
   grind [ax,hole,u0,Md.own]
  ·cases hk
 | ref r p snap=>
  simp only[nC] at hk;split at hk
  ·rename_i bf;obtain ⟨hr,t',m',H',v',cc,dt,F',h1,h2,h3,h4,h5,h6⟩:=l7 h hk;obtain ⟨pl,g1,g2,g3⟩:=hs.2 bf;rw[h3] at g1;injection g1 with g1;subst g1;split at h1
   ·rename_i hH;have hH:=bD.1 hH;subst hH;obtain ⟨e,h1⟩:=dn h1;subst e;split at h1
    ·rename_i hm;subst hm;exact ⟨A,σ,F,_,v',cc,λ_ _=>0,h1,λ_ _ h=>h,hz,rfl,rZ.refl σ,g2,Ro.rep _ _ (iF _) (ax.ro _ (iF _) h4)⟩
    ·split at h1
     ·obtain ⟨A',σ',F2,cs,ad,Fv,k1,k2,k3,k4,kr,k5,k6⟩:=LX h h1 ⟨h2⟩;rw[h3] at k5;injection k5 with k5;simp only[Pl.mk.injEq,dE] at k5;obtain ⟨rfl,rfl⟩:=k5;exact ⟨A',σ',F2,_,v',cc,Fv,k1,k2,k3,k4,kr,g2,ax.mono k2 (λ_ _ _ _ h=>h) (λ_ _ h=>h) _ k6 (λ_ _=>aH _) (λ_ _ _ _ h=>h)⟩
     ·obtain ⟨A',σ',F2,t2,m2,v2,cs,ad,k1,k2,k3,k4,kr,k5,k6,k7⟩:=AJ h h1;obtain ⟨e1,e2,e3,e4⟩:=At.inj ⟨h2⟩ k5;subst e1;have e4:=gD e4;subst e4;rw[h3] at k6;injection k6 with k6;simp only[Pl.mk.injEq,dE] at k6;obtain ⟨rfl,rfl⟩:=k6;exact ⟨A',σ',F2,_,v',cc,λ_ _=>0,k1,k2,k3,k4,kr,g2,Ro.rep _ _ (iF _) k7⟩
   ·cases h1
  ·cases hk
 | sub r p snap lo hi=>
  simp only[nC] at hk;split at hk
  ·rename_i bf;obtain ⟨hr,t',m',H',v',cc,dt,F',h1,h2,h3,h4,h5,h6⟩:=l7 h hk;obtain ⟨pl,e,xa,n,cap,xz,cap',g1,g2,g3,g4,g5,g6,g7,SQ,g8,g9,g10⟩:=hs.2 bf;rw[h3] at g1;injection g1 with g1;subst g1;simp only at g2 g3;subst g2;subst g3;split at h1
   ·rename_i hH;have hH:=bD.1 hH;subst hH;obtain ⟨e',h1⟩:=dn h1;subst e';simp only at h1;have Cv:tv=cu (.aa e) [.slice xz (hi - lo) cap']:=by rw[ee _ _ rfl];exact g6
    split at h1
    ·rename_i hm;subst hm;exact ⟨A,σ,F,_,_,_,λ_ _=>0,h1,λ_ _ h=>h,hz,rfl,rZ.refl σ,Cv,Ro.rep _ _ (iF _) (Ro.piece (ax.ro _ (iF _) h4) g4 g5 g7 g8 g9)⟩
    ·split at h1
     ·split at h1
      ·rename_i wh;subst wh;obtain ⟨A',σ',F2,cs,ad,Fv,k1,k2,k3,k4,kr,k5,k6⟩:=LX h h1 ⟨h2⟩;rw[h3] at k5;injection k5 with k5;simp only[Pl.mk.injEq,dE] at k5;obtain ⟨rfl,rfl⟩:=k5;have k6:=ax.mono k2 (λ_ _ _ _ h=>h) (λ_ _ h=>h) _ k6 (λ_ _=>aH _) (λ_ _ _ _ h=>h);refine ⟨A',σ',F2,_,_,_,Fv,k1,k2,k3,k4,kr,Cv,?_⟩
       have OL:=SQ rfl;subst OL;simp only[eJ] at g7;subst g7;simp only[ax,hole,bT,aF,aS] at k6 ⊢;split at k6
       ·rename_i iU;rw[aR iU];obtain ⟨a0,aeD,q1,q2,q3,q4,q5⟩:=k6;simp only[dG,Value.slice.injEq,eG] at q1;obtain ⟨rfl,rfl,rfl⟩:=q1;have hlen:List.length ((v'.take hi).drop 0)=hi:=by simp;omega
        refine ⟨xz,cap',by rw[hlen];rfl,by grind,q3,q4,λad j0=>?_⟩
        obtain ⟨r1,r2,r3,Fi,r4,r5⟩:=q5 ad j0;refine ⟨r1,r2,r3,Fi,λb i=>?_,λi y hy=>?_⟩
        ·rw[hlen];have:=r4 b i;have:=MP (List.length v') Fi 0 hi Bys b i
         grind
        simp_all [bN]
       ·rename_i iU;rw[aV iU];exact ⟨trivial,k6.2.1,Ro.piece (cap':=cap') k6.2.2 g4 g5 rfl g8 g9⟩
      ·cases h1
     ·obtain ⟨A',σ',F2,t2,m2,v2,cs,ad,k1,k2,k3,k4,kr,k5,k6,k7⟩:=AJ h h1;obtain ⟨e1,e2,e3,e4⟩:=At.inj ⟨h2⟩ k5;subst e1;have e4:=gD e4;subst e4;rw[h3] at k6;injection k6 with k6;simp only[Pl.mk.injEq,dE] at k6;obtain ⟨rfl,rfl⟩:=k6;exact ⟨A',σ',F2,_,_,_,λ_ _=>0,k1,k2,k3,k4,kr,Cv,Ro.rep _ _ (iF _) (Ro.piece k7 g4 g5 g7 g8 g9)⟩
   ·cases h1
  ·cases hk
 | ptr r p snap=>
  cases p with
  | cons s p=>simp[nC] at hk
  | nil=>
   simp only[nC] at hk;split at hk
   ·rename_i bf;split at hk
    ·rename_i t' m' H' v' hg;split at hk
     ·rename_i hc;simp only[aD,bD,cH] at hc;obtain ⟨rfl,hl⟩:=hc;obtain ⟨e,hk⟩:=dn hk;subst e
      have hr:r < σ.n:=by
       grind [mK]
      obtain ⟨pl,b,o,g1,g2,g3,g4⟩:=hs.2 bf;have mF:=h.jg r hr;rw[hg] at mF;obtain ⟨b0,o0,L,F1,q1,q2,q3,q4,q5,q6⟩:=mF;unfold place at g1;rw[hg,q1] at g1;simp only[et,aA,bt,aQ] at g1;subst g1;simp only[aQ,bL] at g2;obtain ⟨rfl,rfl⟩:=g2;obtain ⟨b1,w1,w2⟩:=h.whole r t' m' [] v' hg (Ko hl);rw[q1] at w1;simp only[Value.pointer.injEq,aQ,Addr.mk.injEq,eG] at w1;obtain ⟨rfl,rfl⟩:=w1;have zT:=h.put hr (s:=.dead) (v:=tmp a r) (Fd:=λ_ _=>0) (X':=λb i=>X b i+F r b i) trivial (λb i=>by omega) (λt m H v e=>by cases e);rw[sJ] at zT
      refine ⟨A,_,_,_,v',[tv],F r,hk,λ_ _ h=>h,zT,rfl,(λw tv i R hR=>⟨R.H,by
       rw[zR] at hR;split at hR
       ·cases hR
       ·exact hR⟩),(ee _ _ rfl).symm,?_⟩
      grind [ax,hole,Md.own,Md.e]
     ·cases hk
    ·cases hk
   ·cases hk
 | _=>simp[nC] at hk
theorem Ic {t:Ty} {m:Md} {v:t.den} {cs:List Value} {Fv:FP} (h:ax P w A t m [] v cs Fv) :
  dq P A σ a w (cu t cs) (laid t m v) Fv/\∀ t' m' H' v',laid t m v=.box t' m' H' v'->∃ b,cu t cs=.pointer (some ⟨b,0,none⟩)/\iR w b (t'.sz,false):=by
 unfold laid;split
 ·rename_i hm;subst hm;exact ⟨⟨cs,rfl,ax.ro _ (iF _) h⟩,λt' m' H' v' e=>by cases e⟩
 ·split
  ·rename_i e m' v' _;simp only[ax,hole,bT,aF,aS,Md.own,aJ,Md.e] at h;obtain ⟨b,rfl,h2,L,F1,h3,h4,h5,h6⟩:=h;rw[ee _ _ rfl];refine ⟨⟨b,0,L,F1,rfl,h3,h4,λj hj=>by rw[bE];exact h2.frozen hj,h5,h6⟩,λt' m' H' v' e=>?_⟩
   grind
  ·exact ⟨⟨cs,rfl,h⟩,λt' m' H' v' e=>by cases e⟩
theorem Rel.aa_ (h:Rel P C A X σ a w F) {d:Nat} (hd:σ.n<=d) (s:Slot) (v:Value) {X':FP} (ht:∀ b i,X' b i<=X b i):Rel P C A X' (σ.put d s) (a.put (some d) v) w F:=by
 have nt:=h.size;have ha:a.put (some d) v=a:=by simp[Act.put,Array.setIfInBounds,nt,fO.2 hd]
 rw[ha]
 have yR:∀ i,(σ.put d s).get i=σ.get i:=λi=>by
  grind [zR]
 have oG:zQ σ a w (σ.put d s) a w:=by
  intro r p snap hb;rw[B5,St.ok,B5];by_cases hr:d=r
  ·subst hr;simp only[aJ];refine ⟨hb.trans (uD _),λbf=>?_⟩
   have h0:=IA (h.mD d) hb bf;exact ⟨(H_ hb (uD _) bf).1,λhl=>by omega⟩
  ·simp only[aV hr];refine ⟨hb,λbf=>⟨bf,λhl pl ji=>⟨pl.H,pl.cs,?_,λ_=>rfl⟩⟩⟩
   simp_all [place]
 refine ⟨h.size,h.defers,λi hi=>?_,?_,λb i=>by have:=h.qe b i;have:=ht b i;show X' b i+bk σ.n F b i<=1;omega,λb i hp=>h.rh b i (by have:=ht b i;have hp:1<=X' b i+bk σ.n F b i:=hp;omega),
  λb i hp=>h.k9 b i (hp.imp (λhp=>by have:=ht b i;have hp:1<=X' b i+bk σ.n F b i:=hp;omega) id),λi=>?_,h.ext,λb i hp=>h.own b i (by have:=ht b i;have hp:1<=X' b i+bk σ.n F b i:=hp;omega),h.a0,h.a1,?_,?_,?_,h.tab⟩
 ·rw[yR];exact dq.nD oG (λ_ _ h=>h) (λ_ _ _ _ h=>h) (λ_ _ h=>h) (λ_ _ _=>⟨λ_ h=>h,rfl⟩) (h.jg i hi)
 ·intro d' r p snap hm;exact sI.nD oG (h.gh d' r p snap (OH hm).1)
 ·rw[B5];split
  ·rw[GU];exact h.mD d
  ·exact h.mD i
 ·intro j k hm;exact h.pz j k (Bz hm).1
 ·intro r t m H v' hg hl;rw[yR] at hg;refine h.whole r t m H v' hg λk hm=>hl k (Ki hm λe=>?_);grind [mK]
 ·intro j k hm R hR;rw[yR] at hR;exact h.oo j k (Bz hm).1 R hR
theorem Rel.cg (h:Rel P C A X σ a w F) (d:Option Tmp) {s:Slot} {v:Value} {Fd X':FP} (hs:dq P A σ a w v s Fd) (ht:∀ b i,X' b i+Fd b i<=X b i)
  (hwh:∀ t m H v',s=.box t m H v'->∃ b,v=.pointer (some ⟨b,0,none⟩)/\iR w b (t.sz,false)):∃ F',Rel P C A X' (σ.cg d s) (a.put d v) w F':=by
 cases d with
 | none=>exact ⟨F,h.less λb i=>by grind⟩
 | some d=>
  rcases cG d σ.n with hd | hd
  ·exact ⟨_,h.put hd hs (λb i=>by grind) hwh⟩
  ·exact ⟨_,h.aa_ hd s v λb i=>by grind⟩
def G0 (P:Program) (C:Ctx) (σ:St) (a:Act) (w:World):Prop:=∃ A F,Rel P C A (λ_ _=>0) σ a w F
end
end OT
set_option linter.unusedVariables false
set_option linter.unusedSimpArgs false
namespace OT
open Go
def zc:Ty->Option (List Value)
 | .int k=>some [.int k 0]
 | .bool=>some [.bool false]
 | .str=>some [.string ⟨#[]⟩]
 | .unit=>some []
 | .pair a b=>match zc a,zc b with
  | some x,some y=>some (x++y)
  | _,_=>none
 | .arr n e=>match zc e with
  | some x=>some (List.replicate n x).flatten
  | none=>none
 | .aa _=>some [.slice none 0 0]
 | _=>none
def veq:Value->Value->Bool
 | .int k n,.int k' n'=>decide (k=k')&&decide (n=n')
 | .bool a,.bool b=>a == b
 | .string s,.string t=>decide (s.data.toList=t.data.toList)
 | .slice none 0 0,.slice none 0 0=>true
 | _,_=>false
def LY:List Value->List Value->Bool
 | [],[]=>true
 | a::x,b::y=>veq a b&&LY x y
 | _,_=>false
theorem acq {a b:Value} (h:veq a b=true):a=b:=by
 unfold veq at h;split at h
 ·grind
 ·grind
 ·rename_i s t;simp only[bP] at h;congr 1;cases s;simp_all
 all_goals grind
theorem SS:∀ {x y:List Value},LY x y=true->x=y
 | [],[],_=>rfl
 | a::x,b::y,h=>by
  simp only[LY,aD] at h;rw[acq h.1,SS h.2]
 | [],_::_,h=>by simp[LY] at h
 | _::_,[],h=>by simp[LY] at h
def tD (P:Program) (t:Ty) (i:TypeId):Bool:=
 match P.info? i with
 | some inf=>Nat.beq inf.size t.sz&&Nat.ble inf.bytes 512&&(match inf.zero with
  | some z=>Nat.beq z.cells.size t.sz&&(match zc t with
   | some L=>LY z.cells.toList L
   | none=>true)
  | none=>false)
 | none=>false
def s9 (P:Program):Ty->Sum TypeId (List Field)->Bool
 | .int _,.inl _=>true
 | .bool,.inl _=>true
 | .str,.inl _=>true
 | .unit,.inl i=>!P.stoodInHeld i
 | .unit,.inr _=>true
 | .pair a b,.inl i=>!P.stoodInHeld i&&(match P.underlying i with
  | some (.struct fs)=>(match fs.toList with
   | f::r=>f.name != "_" && s9 P a (.inl f.type)&&s9 P b (.inr r)
   | []=>false)
  | _=>false)
 | .pair a b,.inr (f::r)=>f.name != "_" && s9 P a (.inl f.type)&&s9 P b (.inr r)
 | .arr _ e,.inl i=>(match P.underlying i with
  | some (.array _ el)=>s9 P e (.inl el)
  | _=>false)
 | _,_=>false
def dep:Ty->Nat
 | .arr _ e=>dep e+1
 | .pair a b=>max (dep a+1) (dep b)
 | _=>1
def acr (P:Program) (k:Ty) (i:TypeId):Bool:=isAgg k&&k.o9&&k.flat&&s9 P k (.inl i)&&Nat.ble (dep k) 9000
def zvB (P:Program) (v:Ty) (i:TypeId):Bool:=match P.info? i with
 | some inf=>(match inf.zero with
  | some (.agg _)=>isAgg v
  | some _=>!isAgg v
  | none=>false)
 | none=>false
def bn (P:Program):Ty->Sum TypeId (List Field×Nat)->Bool
 | .int k,.inl i=>tD P (.int k) i&&(match P.underlying i with | some (.int k')=>decide (k=k') | _=>false)
 | .bool,.inl i=>tD P .bool i&&(match P.underlying i with | some .bool=>true | _=>false)
 | .str,.inl i=>tD P .str i&&(match P.underlying i with | some .string=>true | _=>false)
 | .unit,.inl i=>tD P .unit i&&(match P.underlying i with | some (.struct fs)=>fs.toList.isEmpty | _=>false)
 | .unit,.inr (fs,_)=>fs.isEmpty
 | .pair a b,.inl i=>tD P (.pair a b) i&&(match P.underlying i with
  | some (.struct fs)=>(match fs.toList with
   | f::r=>Nat.beq f.offset 0&&Nat.ble 1 a.sz&&bn P a (.inl f.type)&&bn P b (.inr (r,a.sz))
   | []=>false)
  | _=>false)
 | .pair a b,.inr (f::r,off)=>Nat.beq f.offset off&&Nat.ble 1 a.sz&&bn P a (.inl f.type)&&bn P b (.inr (r,off+a.sz))
 | .arr n e,.inl i=>tD P (.arr n e) i&&e.flat&&(match P.underlying i with | some (.array n' el)=>Nat.beq n n'&&Nat.ble 1 e.sz&&bn P e (.inl el) | _=>false)
 | .aa e,.inl i=>tD P (.aa e) i&&(match P.underlying i with | some (.slice el)=>Nat.ble 1 e.sz&&bn P e (.inl el) | _=>false)
 | .ptr e,.inl i=>tD P (.ptr e) i&&(match P.underlying i with | some (.pointer el)=>bn P e (.inl el) | _=>false)
 | .fn,.inl i=>tD P .fn i&&(match P.underlying i with | some (.func ..)=>true | _=>false)
 | .map k v,.inl i=>tD P (.map k v) i&&(match P.underlying i with | some (.map ki vi)=>bn P k (.inl ki)&&bn P v (.inl vi)&&acr P k ki&&zvB P v vi | _=>false)
 | _,_=>false
section
variable {P:Program} {w:World} {A:Cells}
theorem xA {t:Ty} {i:TypeId} (h:tD P t i=true):∃ inf z,P.info? i=some inf/\inf.size=t.sz/\inf.bytes<=512/\inf.zero=some z/\z.cells.size=t.sz/\∀ L,zc t=some L->z.cells.toList=L:=by
 grind [tD,Nat.beq_eq,Nat.ble_eq,SS]
theorem lG {t:Ty} {i:TypeId} (h:tD P t i=true):∃ inf,P.info? i=some inf/\inf.size=t.sz/\inf.bytes<=512/\∀ L,zc t=some L->∃ z,inf.zero=some z/\z.cells.toList=L:=by
 grind [xA]
theorem lX {t:Ty} {i:TypeId} (h:bn P t (.inl i)=true):tD P t i=true:=by
 cases t <;> simp only[bn,aD] at h <;> first | exact h.1 | exact h.1.1 | cases h
theorem BA {t:Ty} {i:TypeId} (h:bn P t (.inl i)=true):∃ d,P.underlying i=some d/\(isAgg t=true->(∃ fs,d=.struct fs)\/∃ n e,d=.array n e)/\(isAgg t=false->(∀ fs,d≠.struct fs)/\∀ n e,d≠.array n e):=by
 cases hd:P.underlying i with
 | none=>cases t <;> simp[bn,hd] at h
 | some d=>
  refine ⟨d,rfl,?_,?_⟩
  ·intro ha;cases t <;> simp only[isAgg] at ha <;> first | cases ha | skip
   all_goals grind [bn]
  ·intro ha;cases t <;> simp only[isAgg] at ha <;> first | cases ha | skip
   all_goals grind [bn]
theorem yq {t:Ty} {i:TypeId} (h:bn P t (.inl i)=true):(Go.isAgg i).run P w=.ok (isAgg t) w:=by
 obtain ⟨d,h1,h2,h3⟩:=BA h;unfold Go.isAgg;simp only[Sem.run_bind,run_underlying h1,Result.andThen_ok]
 cases ht:isAgg t with
 | true=>
  rcases h2 ht with ⟨fs,rfl⟩ | ⟨n,e,rfl⟩ <;> rfl
 | false=>
  simp_all
theorem run_sizeOf {t:Ty} {i:TypeId} (h:bn P t (.inl i)=true):(Go.sizeOf i).run P w=.ok t.sz w:=by
 obtain ⟨inf,h1,h2,_⟩:=lG (lX h);simp[Go.sizeOf,typeInfo,h1,h2]
theorem OM {t:Ty} (h:isAgg t=false):t.sz=1:=by cases t <;> simp_all [isAgg,Ty.sz]
theorem qG (b o n:Nat):(⟨b,o,none⟩:Addr).add n=⟨b,o+n,none⟩:=by grind [Addr.add]
theorem Ap {t:Ty} {i:TypeId} (h:bn P t (.inl i)=true) {b o:Nat} {L:List Value} (hL:Has w b o L) (hl:L.length=t.sz) (qu:∀ u ∈ L,u.oneCell'=true):(loadVar i ⟨b,o,none⟩).run P w=.ok (cu t L) w:=by
 unfold loadVar;simp only[Sem.run_bind,yq h,Result.andThen_ok]
 cases ht:isAgg t with
 | true=>
  have:=run_loadCells_list (P:=P) w ⟨b,o,none⟩ L (λj v hj=>by rw[qG];exact sy (hL j v hj) (qu v (bI hj)));rw[hl] at this;simp only[aJ,Sem.run_bind,run_sizeOf h,Result.andThen_ok,this,Sem.run_pure,cu,ht]
 | false=>
  have hs:=OM ht
  match L,hl with
  | [y],_=>
   have:=sy (hL 0 y rfl) (qu y (by simp));grind [run_load,cu]
  | [],hl=>grind
  | _::_::_,hl=>grind
theorem Dm:∀ (t:Ty) {L:List Value} {i:Sum TypeId (List Field×Nat)},zc t=some L->bn P t i=true->ax P w A t (aj t) [] t.zero L (λ_ _=>0)/\Ro P w A t t.zero L/\L.length=t.sz:=by
 intro t
 induction t with
 | int k=>intro L i h _;injection h with h;subst h;cases k <;> exact ⟨rfl,rfl,rfl⟩
 | bool=>intro L i h _;injection h with h;subst h;exact ⟨rfl,rfl,rfl⟩
 | str=>intro L i h _;injection h with h;subst h;exact ⟨rfl,rfl,rfl⟩
 | unit=>intro L i h _;injection h with h;subst h;exact ⟨rfl,rfl,rfl⟩
 | pair a b nE nw=>
  intro L i h hl;simp only[zc] at h;split at h
  ·rename_i x y hx hy;injection h with h;subst h
   have:∃ ia ib,bn P a ia=true/\bn P b ib=true:=by
    cases i with
    | inl i=>
     grind [bn]
    | inr fo=>
     obtain ⟨fs,off⟩:=fo;cases fs <;> grind [bn]
   obtain ⟨ia,ib,h1,h2⟩:=this;obtain ⟨ra,oa,la⟩:=nE hx h1;obtain ⟨rb,ob,lb⟩:=nw hy h2;have e1:(x++y).take a.sz=x:=iA la;have e2:(x++y).drop a.sz=y:=iB la;refine ⟨⟨rfl,λ_ _=>0,λ_ _=>0,λ_ _=>aH _,by rw[e1];exact ra,by rw[e2];exact rb⟩,⟨by rw[e1];exact oa,by rw[e2];exact ob⟩,by grind [Ty.sz]⟩
  ·cases h
 | arr n e ih=>
  intro L i h hl;simp only[zc] at h;split at h
  ·rename_i z hz;injection h with h;subst h
   have:e.flat=true/\∃ ie,bn P e ie=true:=by
    grind [bn]
   obtain ⟨hf,ie,he⟩:=this;obtain ⟨re,oe,le⟩:=ih hz he
   have hlen:∀ n,((List.replicate n z).flatten).length=n*e.sz:=λn=>by
    simp_all
   have yV:Ro P w A (.arr n e) (Ty.arr n e).zero ((List.replicate n z).flatten):=by
    refine ⟨hf,by simp[Ty.zero],hlen n,λi x hx=>?_⟩
    have hi:i < n:=by grind [Ty.zero]
    have hx:x=e.zero:=by
     grind [Ty.zero]
    subst hx
    have:(((List.replicate n z).flatten).drop (i*e.sz)).take e.sz=z:=by
     have e1:n=i+(1+(n - i - 1)):=by omega
     rw[e1,<- fZ,<- fZ,List.flatten_append,List.flatten_append];grind
    grind
   exact ⟨⟨rfl,yV⟩,yV,hlen n⟩
  ·cases h
 | aa e ih=>
  intro L i h _;injection h with h;subst h;refine ⟨?_,⟨none,0,rfl,aH _,λ_=>rfl,λad j0=>by cases j0⟩,rfl⟩
  simp only[ax,hole,bT,aF,aS,aj,u0,Md.own,aJ];exact ⟨none,0,rfl,aH _,by simp[maxLen],λ_=>rfl,λad j0=>by cases j0⟩
 | ptr e ih=>grind [zc]
 | fn=>grind [zc]
 | map k v=>grind [zc]
theorem Bf {t:Ty} {i:TypeId} (h:bn P t (.inl i)=true) {L:List Value} (hz:zc t=some L):∃ z,(zeroValue i).run P w=.ok z w/\z.cells.toList=L:=by
 obtain ⟨inf,h1,h2,_,h3⟩:=lG (lX h);obtain ⟨z,h4,h5⟩:=h3 L hz;simp_all [zeroValue,typeInfo]
end
end OT
