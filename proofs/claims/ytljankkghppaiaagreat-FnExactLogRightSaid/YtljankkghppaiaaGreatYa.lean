/- The proof's parts, merged: The pure interpreter of the model s code over owned trees  definitions alone, nothing is claimed here.. No conditions but those that each states. -/
import GoSem.Core.Code
import GoSem.Core.View
import Derived.Laws.IdiomCopy
import Derived.Laws.Cells
import Derived.Laws.AppendOwn
import Derived.Calls
namespace OT
open Go
set_option linter.defProp false
def aA:=@List.getElem?_eq_getElem
def aB:=@Option.bind_some
def aC:=@decide_true
def aD:=@decide_false
def aE:=@cond_false
def aF:=@Bool.and_eq_true
def aG:=@Bool.false_eq_true
def aH:=@Int.toNat_natCast
def aI:=@if_true
def aJ:=@cond_true
def aK:=@Int.natCast_nonneg
def aL:=@if_false
def aM:=@List.getElem?_eq_some_iff
def aN:=@Nat.le_refl
def aO:=@Bool.not_true
def aP:=@List.length_cons
def aQ:=@List.getElem_mem
def aR:=@Option.some.injEq
def aS:=@List.length_append
def aU:=@if_pos
def aV:=@Bool.not_false
def aW:=@Nat.zero_le
def aX:=@Eq.trans
def aY:=@List.mem_cons
def aZ:=@List.mem_cons_of_mem
def bA:=@if_neg
def bB:=@List.length_nil
def bC:=@Int.lt_irrefl
def bD:=@Nat.mul_le_mul_right
def bE:=@Nat.zero_add
def bF:=@Nat.eq_zero_or_pos
def bG:=@List.mem_cons_self
def bH:=@List.eq_nil_of_length_eq_zero
def bI:=@List.length_drop
def bJ:=@Nat.le_trans
def bK:=@List.getElem?_take
def bL:=@List.append_assoc
def bM:=@List.getElem?_drop
def bN:=@List.isEmpty_iff
def bO:=@decide_eq_true_eq
def bP:=@List.nil_append
def bQ:=@List.length_take
def bR:=@Array.getElem?_eq_some_iff
def bS:=@Prod.mk.injEq
def bT:=@List.any_nil
def bU:=@List.mem_singleton
def bV:=@List.getElem?_append_right
def bW:=@List.getElem?_append_left
def bX:=@List.length_range
def bZ:=@Nat.lt_or_ge
def cA:=@decide_eq_false
def cB:=@List.mem_of_getElem?
def cC:=@List.all_eq_true
def cD:=@Option.map_some
def cE:=@Nat.add_assoc
def cG:=@decide_eq_true
def cH:=@List.append_nil
def cI:=@Nat.add_mul
def cJ:=@List.mem_append
def cK:=@decide_eq_decide
def cL:=@Nat.eq_of_beq_eq_true
def cM:=@Bool.not_eq_true'
def cN:=@Array.getElem?_eq_getElem
def cO:=@List.cons_append
def cP:=@Nat.lt_of_lt_of_le
def cQ:=@List.take_append_drop
def cR:=@List.map_cons
def cS:=@List.isEmpty_nil
def cT:=@List.filterMap_append
def cU:=@and_self
def cV:=@List.cons.injEq
def cW:=@List.getElem?_eq_none
def cX:=@Bool.or_eq_true
def cY:=@Nat.add_zero
def cZ:=@List.drop_eq_getElem_cons
def dA:=@List.drop_drop
def dB:=@congrArg
def dC:=@List.filterMap_cons
def dD:=@List.mem_iff_getElem
def dE:=@Array.getElem?_toList
def dF:=@List.mem_range
def dG:=@List.mem_of_mem_drop
def dH:=@List.take_append_of_le_length
def dI:=@List.drop_append_of_le_length
def dJ:=@Int.eq_ofNat_of_zero_le
def dK:=@Nat.not_lt
def dL:=@Array.getElem?_eq_none
def dM:=@List.size_toArray
def dN:=@List.drop_of_length_le
def dP:=@Nat.ble_eq
def dQ:=@Array.getElem?_modify
def dR:=@List.length_replicate
def dU:=@List.nodup_cons
def dV:=@List.take_length
def dW:=@Array.getElem?_append_left
def dX:=@Bool.false_or
def dY:=@true_and
def dZ:=@List.mem_of_mem_take
def eA:=@List.pairwise_iff_getElem
def eB:=@List.pairwise_cons
def eC:=@List.getElem_range
def eD:=@List.drop_zero
def eE:=@List.foldl_cons
def eF:=@List.all_cons
def eG:=@Bool.true_and
def eH:=@List.mem_flatMap
def eI:=@Nat.beq_eq
def eJ:=@and_true
def eK:=@List.getElem?_map
def eL:=@List.flatMap_cons
def eM:=@List.take_succ_eq_append_getElem
def eN:=@List.getElem?_cons_zero
def eO:=@List.drop_take
def eP:=@Option.isSome_none
def eQ:=@List.filterMap_nil
def eR:=@List.count_pos_iff
def eS:=@List.getD_eq_getElem?_getD
def eU:=@not_true_eq_false
def eV:=@not_false_eq_true
def eW:=@List.getElem?_take_of_lt
def eX:=@Array.ext'
def eY:=@decide_eq_false_iff_not
def eZ:=@List.pairwise_append
def fA:=@Nat.succ_mul
def fB:=@Bool.eq_iff_iff
def fD:=@Nat.min_eq_left
def fE:=@List.length_map
def fF:=@Array.eq_empty_of_size_eq_zero
def fG:=@List.take_take
def fH:=@List.getElem?_set
def fI:=@Array.size_append
def fJ:=@List.getElem?_cons_succ
def fK:=@List.take_left'
def fL:=@List.drop_left'
def fM:=@List.length_set
def fN:=@List.findIdx?_eq_some_iff_findIdx_eq
def fO:=@Bool.true_or
def fP:=@Nat.le_of_not_lt
def fQ:=@List.ext_getElem?
def fR:=@Nat.mul_comm
def fS:=@List.map_nil
def fT:=@List.mem_map
def fU:=@List.nodup_append
def fV:=@List.any_cons
def fW:=@Option.isSome_iff_exists
def fX:=@Bool.and_self
def fY:=@List.getElem?_replicate
def fZ:=@List.any_eq_true
def gA:=@List.pairwise_singleton
def gB:=@false_and
def gC:=@List.perm_middle
def gD:=@Nat.sub_mul
def gE:=@Int.le_refl
def gF:=@getElem!_pos
def gG:=@Nat.zero_mul
def gH:=@BitVec.toNat_ofInt
def gI:=@Nat.div_add_mod
def gJ:=@List.map_append
def gK:=@Bool.and_eq_false_iff
def gL:=@Nat.div_lt_iff_lt_mul
def gM:=@List.mem_iff_getElem?
def gN:=@List.getElem?_toArray
def gO:=@Bool.eq_false_iff
def gP:=@List.getElem_take
def gQ:=@List.pairwise_map
def gR:=@Nat.blt_eq
def gS:=@Int.fdiv_eq_ediv_of_nonneg
def gT:=@Nat.mul_le_mul
def gU:=@List.Perm.refl
def gV:=@List.drop_append
def gW:=@List.filter_cons
def gX:=@List.mem_or_eq_of_mem_set
def gY:=@List.findIdx?_eq_none_iff
def gZ:=@Option.map_none
def hJ:=@List.zip_cons_cons
def hU:=@Nat.add_sub_cancel
def hY:=@Classical.axiomOfChoice
def iA:=@eq_of_heq
def iB:=@Nat.add_sub_cancel_left
def iC:=@Bool.or_self
def iD:=@List.take_of_length_le
def iE:=@congrFun
def iG:=@List.nodup_nil
def iH:=@List.foldl_append
def iI:=@Bool.false_and
def iJ:=@List.map_map
def iK:=@List.replicate_append_replicate
def iL:=@Array.getElem?_setIfInBounds_ne
def iM:=@List.singleton_append
def iP:=@Nat.mod_lt
def iQ:=@Bool.or_eq_false_iff
def iR:=@Nat.mul_one
def iS:=@Nat.min_def
def iT:=@Array.getElem?_setIfInBounds
def iU:=@List.getElem?_range
def iV:=@Array.length_toList
def iW:=@Array.getElem?_push
def iX:=@List.flatMap_append
def iY:=@Array.getD_eq_getD_getElem?
def iZ:=@Array.getElem_setIfInBounds
def jA:=@Nat.beq_refl
def jB:=@Nat.add_comm
def jC:=@Nat.mul_lt_mul_of_pos_right
def jD:=@List.take_zero
def jE:=@List.mem_filterMap
def jF:=@Int.tmod_eq_emod_of_nonneg
def jG:=@List.nodup_iff_pairwise_ne
def jH:=@List.extract_eq_take_drop
def jI:=@List.any_eq_false
def jJ:=@List.getElem_drop
def jK:=@false_or
def jL:=@Nat.zero_lt_succ
def jM:=@Option.getD_some
def jN:=@beq_iff_eq
def jO:=@true_or
def jP:=@UInt8.toNat_inj
def jQ:=@Nat.min_le_left
def jR:=@List.find?_cons
def jS:=@UInt8.toNat_lt
def jT:=@Iff.rfl
inductive Ty where
 | int (k:IntKind)
 | bool
 | str
 | unit
 | pair (a b:Ty)
 | arr (n:Nat) (e:Ty)
 | U (e:Ty)
 | ptr (e:Ty)
 | fn
 | map (k v:Ty)
 deriving DecidableEq
@[reducible] def AS:IntKind->Type
 | .u8=>UInt8
 | _=>Int
@[reducible] def Ty.den:Ty->Type
 | .int k=>AS k
 | .bool=>Bool
 | .str=>List UInt8
 | .unit=>Unit
 | .pair a b=>a.den×b.den
 | .arr _ e=>List e.den
 | .U e=>List e.den
 | .ptr e=>e.den
 | .fn=>Nat×Int
 | .map k v=>List (k.den×v.den)
def Ty.sz:Ty->Nat
 | .unit=>0
 | .pair a b=>a.sz+b.sz
 | .arr n e=>n*e.sz
 | _=>1
def Ty.flat:Ty->Bool
 | .pair a b=>a.flat&&b.flat
 | .arr _ e=>e.flat
 | .U _ | .ptr _ | .map _ _=>false
 | _=>true
def pJ:(k:IntKind)->AS k->Int
 | .u8,n=>(n.toNat:Int)
 | .i8,n=>n
 | .i16,n=>n
 | .i32,n=>n
 | .i64,n=>n
 | .u16,n=>n
 | .u32,n=>n
 | .u64,n=>n
def Cv:(k:IntKind)->Int->AS k
 | .u8,n=>UInt8.ofInt n
 | .i8,n=>IntKind.wrap .i8 n
 | .i16,n=>IntKind.wrap .i16 n
 | .i32,n=>IntKind.wrap .i32 n
 | .i64,n=>IntKind.wrap .i64 n
 | .u16,n=>IntKind.wrap .u16 n
 | .u32,n=>IntKind.wrap .u32 n
 | .u64,n=>IntKind.wrap .u64 n
def UE:(k:IntKind)->Int->AS k
 | .u8,n=>UInt8.ofInt n
 | .i8,n=>n
 | .i16,n=>n
 | .i32,n=>n
 | .i64,n=>n
 | .u16,n=>n
 | .u32,n=>n
 | .u64,n=>n
def Ty.zero:(t:Ty)->t.den
 | .int k=>UE k 0
 | .bool=>false
 | .str=>[]
 | .unit=>()
 | .pair a b=>(a.zero,b.zero)
 | .arr n e=>List.replicate n e.zero
 | .U _=>[]
 | .ptr e=>e.zero
 | .fn=>(0,0)
 | .map _ _=>[]
def Ty.uR:Ty->Bool
 | .pair a b=>a.uR&&b.uR
 | .arr _ e=>e.uR
 | .ptr _ | .fn | .map _ _=>false
 | _=>true
def Ty.eq:(t:Ty)->t.den->t.den->Bool
 | .int .u8,a,b=>a == b
 | .int .i8,a,b=>decide (a=b)
 | .int .i16,a,b=>decide (a=b)
 | .int .i32,a,b=>decide (a=b)
 | .int .i64,a,b=>decide (a=b)
 | .int .u16,a,b=>decide (a=b)
 | .int .u32,a,b=>decide (a=b)
 | .int .u64,a,b=>decide (a=b)
 | .bool,a,b=>a == b
 | .str,a,b=>decide (a=b)
 | .pair x y,a,b=>x.eq a.1 b.1&&y.eq a.2 b.2
 | .arr _ e,a,b=>(a.zip b).all fun p=>e.eq p.1 p.2
 | _,_,_=>true
def Ty.of:Ty->Bool
 | .int _ | .bool | .str | .unit=>true
 | .pair a b=>a.of&&b.of
 | .arr _ e=>e.of
 | _=>false
def Ty.rV:Ty->Bool
 | .pair a b=>a.rV&&b.rV
 | .arr _ e | .U e | .ptr e=>e.rV
 | .map k v=>k.rV&&v.rV
 | .fn=>false
 | _=>true
inductive Md where
 | leaf
 | pair (a b:Md)
 | arr (e:Md)
 | U (own:Bool) (e:Md)
 | ptr (own:Bool) (e:Md)
 deriving DecidableEq
def sK (own:Bool):Ty->Md
 | .pair a b=>.pair (sK own a) (sK own b)
 | .arr _ e=>.arr (sK own e)
 | .U e=>.U own (sK own e)
 | .ptr e=>.ptr own (sK own e)
 | .map _ _=>.U own .leaf
 | _=>.leaf
abbrev az:=sK false
abbrev am:=sK true
def Md.l:Md->Md
 | .pair a _=>a
 | _=>.leaf
def Md.r:Md->Md
 | .pair _ b=>b
 | _=>.leaf
def Md.e:Md->Md
 | .arr e | .U _ e | .ptr _ e=>e
 | _=>.leaf
def Md.own:Md->Bool
 | .U o _ | .ptr o _=>o
 | _=>false
def Md.kH:Md->Bool
 | .leaf=>true
 | .pair a b=>a.kH&&b.kH
 | .arr e=>e.kH
 | .U o e=>!o&&e.kH
 | .ptr o e=>!o&&e.kH
def fits:Md->Md->Bool
 | .leaf,.leaf=>true
 | .pair a b,.pair c d=>fits a c&&fits b d
 | .arr a,.arr b=>fits a b
 | .U o a,.U o' b=>(o||!o')&&(o'||b.kH)&&fits a b
 | .ptr o a,.ptr o' b=>(o||!o')&&(o'||b.kH)&&fits a b
 | _,_=>false
inductive Step where
 | fst
 | snd
 | idx (i:Nat)
 | o4 (i:Nat)
abbrev Path:=List Step
def dh:Path->Nat
 | []=>0
 | .idx _::p=>dh p+1
 | _::p=>dh p
structure FS where
 t:Ty
 m:Md
 v:t.den
inductive Slot where
 | dead
 | v6
 | val (t:Ty) (v:t.den)
 | cp (t:Ty) (v:t.den)
 | own (t:Ty) (m:Md) (H:List Path) (v:t.den)
 | box (t:Ty) (m:Md) (H:List Path) (v:t.den)
 | ref (r:Nat) (p:Path) (snap:List Nat)
 | sub (r:Nat) (p:Path) (snap:List Nat) (lo hi:Nat)
 | ptr (r:Nat) (p:Path) (snap:List Nat)
 | rq (xs:List FS)
structure St where
 n:Nat
 sl:List (Nat×Slot)
 vr:List (Nat×List Nat)
 aT:List (Nat×Nat×Bool)
 gh:List (Nat×Nat×Path×List Nat):=[]
def m9 {α:Type}:List (Nat×α)->Nat->Option α
 | [],_=>none
 | (k,x)::l,i=>if Nat.beq k i then some x else m9 l i
def St.get (σ:St) (i:Nat):Slot:=if Nat.blt i σ.n then (match m9 σ.sl i with | some s=>s | none=>.dead) else .dead
def St.lw (σ:St) (i:Nat):List Nat:=match m9 σ.vr i with | some v=>v | none=>[0,0,0,0,0]
def rW:List Nat->List Nat:=fun v=>v.map (·+1)
def tj (d:Nat):List Nat->List Nat
 | [b,x,y,z,w]=>match d with
  | 0=>[b,x+1,y,z,w+1]
  | 1=>[b,x,y+1,z,w+1]
  | 2=>[b,x,y,z+1,w+1]
  | _=>[b+1,x,y,z,w+1]
 | v=>rW v
def v7:List Nat->List Nat
 | [b,x,y,z,w]=>[b,x,y,z,w+1]
 | v=>rW v
def St.lX (σ:St) (i:Nat) (f:List Nat->List Nat):St:={ σ with vr:=(i,f (σ.lw i))::σ.vr }
def yT:List (Nat×Nat×Bool)->Nat->List (Nat×Nat×Bool)
 | [],_=>[]
 | (k,b)::l,i=>if Nat.beq k i then yT l i else (k,b)::yT l i
def JM:List (Nat×Nat×Path×List Nat)->Nat->List (Nat×Nat×Path×List Nat)
 | [],_=>[]
 | (d,x)::l,i=>if Nat.beq d i then JM l i else (d,x)::JM l i
def yU:List (Nat×Nat×Bool)->Nat->List (Nat×Nat×Bool)
 | [],_=>[]
 | (k,n,b)::l,i=>if Nat.beq k i&&b then yU l i else (k,n,b)::yU l i
def AT:List (Nat×Nat×Bool)->Nat->Nat->Bool->Bool
 | [],_,_,_=>false
 | (k,n,b)::l,i,j,c=>(Nat.beq k i&&Nat.beq n j&&(b == c))||AT l i j c
def Bf:List (Nat×Nat×Bool)->Nat->Bool
 | [],_=>false
 | (k,_,b)::l,i=>(Nat.beq k i&&!b)||Bf l i
def FT:List (Nat×Nat×Bool)->Nat->Option Nat
 | [],_=>none
 | (k,n,b)::l,i=>if Nat.beq k i&&b then some n else FT l i
def St.put (σ:St) (i:Nat) (s:Slot):St:={ n:=σ.n,sl:=(i,s)::σ.sl,vr:=(i,rW (σ.lw i))::σ.vr,aT:=yT σ.aT i,gh:=JM σ.gh i }
def St.head (σ:St) (r d:Nat):St:=match d with
 | 0=>{ σ with aT:=yU σ.aT r }
 | _=>σ
def St.JN (σ:St) (i:Nat) (s:Slot):St:={ σ with sl:=(i,s)::σ.sl }
def St.bY (σ:St) (d:Option Tmp) (s:Slot):St:=match d with
 | some i=>σ.put i s
 | none=>σ
def preB:List Nat->List Nat->Bool
 | [],_=>true
 | a::x,b::y=>Nat.beq a b&&preB x y
 | _::_,[]=>false
section
variable {R:Type}
def j_ (t t':Ty) (v:t.den) (K:t'.den->Option R):Option R:=
 if h:t=t' then K (h ▸ v) else none
def u_:Path->Option Path
 | .fst::p=>some p
 | _=>none
def va:Path->Option Path
 | .snd::p=>some p
 | _=>none
def wW (H:List Path) (i:Nat) (K:List Path->Option R):Option R:=
 match H with
 | []=>K []
 | [.idx j::q]=>if i=j then K [q] else none
 | _=>none
def og:(p:Path)->(t:Ty)->Md->List Path->t.den->((t':Ty)->Md->List Path->t'.den->Option R)->Option R
 | [],t,m,H,v,K=>K t m H v
 | .fst::p,.pair a _,m,H,v,K=>if H.any (·.isEmpty) then none else og p a m.l (H.filterMap u_) v.1 K
 | .snd::p,.pair _ b,m,H,v,K=>if H.any (·.isEmpty) then none else og p b m.r (H.filterMap va) v.2 K
 | .idx i::p,.U e,m,H,v,K=>wW H i fun H'=>(v[i]?).bind fun x=>og p e m.e H' x K
 | .o4 i::p,.arr _ e,m,H,v,K=>if H.isEmpty then (v[i]?).bind fun x=>og p e m.e [] x K else none
 | _,_,_,_,_,_=>none
def qS:(p:Path)->(t:Ty)->Md->List Path->t.den ->
    ((t':Ty)->Md->List Path->t'.den->(Md->List Path->t'.den->Option R)->Option R)->(Md->List Path->t.den->Option R)->Option R
 | [],t,m,H,v,f,K=>f t m H v K
 | .fst::p,.pair a _,m,H,v,f,K=>
  if H.any (·.isEmpty) then none else
  qS p a m.l (H.filterMap u_) v.1 f fun m' H' x=>K (.pair m' m.r) (H'.map (.fst::·)++(H.filterMap va).map (.snd::·)) (x,v.2)
 | .snd::p,.pair _ b,m,H,v,f,K=>
  if H.any (·.isEmpty) then none else
  qS p b m.r (H.filterMap va) v.2 f fun m' H' x=>K (.pair m.l m') ((H.filterMap u_).map (.fst::·)++H'.map (.snd::·)) (v.1,x)
 | .idx i::p,.U e,m,H,v,f,K=>
  if m.own then
   wW H i fun H0=>(v[i]?).bind fun x=>
    qS p e m.e H0 x f fun m' H' y=>
     if m'=m.e then K (.U true m.e) (H'.map (.idx i::·)) (v.set i y)
     else if H'.isEmpty then K (.U true (az e)) [] (v.set i y) else none
  else none
 | .o4 i::p,.arr _ e,m,H,v,f,K=>
  if H.isEmpty then (v[i]?).bind fun x=>
   qS p e m.e [] x f fun _ H' y=>if H'.isEmpty then K m [] (v.set i y) else none
  else none
 | _,_,_,_,_,_,_=>none
def Au:Path->Ty->Option Ty
 | [],t=>some t
 | .fst::p,.pair a _=>Au p a
 | .snd::p,.pair _ b=>Au p b
 | .idx _::p,.U e=>Au p e
 | .o4 _::p,.arr _ e=>Au p e
 | _,_=>none
def v_ (σ:St) (r:Nat) (K:(t:Ty)->Md->List Path->t.den->Option R):Option R:=
 match σ.get r with
 | .own t m H v | .box t m H v=>K t m H v
 | _=>none
def St.km (σ:St) (r:Nat) (t:Ty) (m:Md) (H:List Path) (v:t.den):St:=
 match σ.get r with
 | .box ..=>σ.JN r (.box t m H v)
 | _=>σ.JN r (.own t m H v)
def St.ok (σ:St) (r:Nat) (snap:List Nat):Bool:=preB snap (σ.lw r)
def pK (σ:St) (r:Nat) (p:Path) (K:(t:Ty)->Md->List Path->t.den->Option R):Option R:=
 v_ σ r fun t m H v=>og p t m H v K
def uY (σ:St) (r:Nat) (p:Path) (t:Ty) (m:Md) (v:t.den) (K:St->Option R):Option R:=
 v_ σ r fun t0 m0 H0 v0=>
  qS p t0 m0 H0 v0 (fun t' _ _ _ k=>j_ t t' v fun x=>k m [] x) fun m' H' v'=>
   K (((σ.km r t0 m' H' v').lX r (if t.flat then v7 else tj (dh p))).head r (dh p))
def sn:Ty->List Path
 | .pair a b=>(sn a).map (.fst::·)++(sn b).map (.snd::·)
 | .U _ | .ptr _ | .map _ _=>[[]]
 | .arr _ e=>if e.flat then [] else [[]]
 | _=>[]
def yo (σ:St) (r:Nat) (p:Path) (K:St->Option R):Option R:=
 v_ σ r fun t0 m0 H0 v0=>
  qS p t0 m0 H0 v0 (fun t' m' _ x k=>k m' (sn t') x) fun m' H' v'=>
   K (((σ.km r t0 m' H' v').lX r (tj (dh p))).head r (dh p))
def yM (σ:St) (r:Nat) (p:Path) (K:St->Option R):Option R:=
 v_ σ r fun t0 m0 H0 v0=>
  qS p t0 m0 H0 v0 (fun t' m H x k=>if H.isEmpty&&fits m (az t') then k (az t') [] x else none) fun m' H' v'=>
   K (σ.km r t0 m' H' v')
def vH (σ:St) (r:Nat) (p:Path) (m1:Md) (K:St->Option R):Option R:=
 v_ σ r fun t0 m0 H0 v0=>
  qS p t0 m0 H0 v0 (fun _ m H x k=>if H.isEmpty&&fits m m1 then k m1 [] x else none) fun m' H' v'=>
   K (σ.km r t0 m' H' v')
def vI (σ:St) (r:Nat) (p:Path):List Nat:=(σ.lw r).take (1+dh p)
def uz (σ:St) (r:Nat) (p:Path) (t:Ty):List Nat:=match t with
 | .U _ | .map _ _=>(σ.lw r).take (2+dh p)
 | _=>σ.lw r
def xw:Value->Slot
 | .int .u8 n=>if ((UInt8.ofInt n).toNat:Int)=n then .val (.int .u8) (UInt8.ofInt n) else .dead
 | .int .i64 n=>.val (.int .i64) n
 | .int .u64 n=>.val (.int .u64) n
 | .int .u32 n=>.val (.int .u32) n
 | .int .i32 n=>.val (.int .i32) n
 | .bool b=>.val .bool b
 | .string s=>.val .str s.data.toList
 | .slice none 0 0=>.v6
 | _=>.dead
def dr (σ:St):Operand->Slot
 | .tmp i=>match σ.get i with
  | .own t _ _ _=>.ref i [] (uz σ i [] t)
  | .box _ _ _ _=>.ptr i [] (vI σ i [])
  | s=>s
 | .const v=>xw v
 | .func f=>.val .fn (f,0)
 | .global _=>.dead
def nD (σ:St) (s:Slot) (mv:Bool) (t:Ty) (K:Md->t.den->St->Option R):Option R:=
 match s with
 | .val t' v=>j_ t' t v fun v=>K (az t) v σ
 | .cp t' v=>j_ (.ptr t') t v fun v=>K (az t) v σ
 | .v6=>match t with
  | .U e=>K (am (.U e)) [] σ
  | _=>none
 | .ref r p snap=>
  if σ.ok r snap then
   pK σ r p fun t' m H v=>
    if H.isEmpty then j_ t' t v fun v=>
     if m=az t then K m v σ
     else if mv then yo σ r p fun σ=>K m v σ
     else yM σ r p fun σ=>K (az t) v σ
    else none
  else none
 | .sub r p snap lo hi=>
  if σ.ok r snap then
   pK σ r p fun t' m H v=>
    if H.isEmpty then j_ t' t v fun v=>match t,v with
     | .U e,v=>
      if m=az (.U e) then K m ((v.take hi).drop lo) σ
      else if mv then (if lo=0 then yo σ r p fun σ=>K m ((v.take hi).drop lo) σ else none)
      else yM σ r p fun σ=>K (az (.U e)) ((v.take hi).drop lo) σ
     | _,_=>none
    else none
  else none
 | .ptr r [] snap=>
  if σ.ok r snap then
   match σ.get r with
   | .box t' m H v=>if H.isEmpty&&!Bf σ.aT r then j_ (.ptr t') t v fun v=>K (.ptr true m) v (σ.put r .dead) else none
   | _=>none
  else none
 | _=>none
def rj (σ:St) (s:Slot) (t:Ty) (K:t.den->Option R):Option R:=
 match s with
 | .val t' v=>j_ t' t v K
 | .cp t' v=>j_ (.ptr t') t v K
 | .v6=>match t with
  | .U _=>K []
  | _=>none
 | .ref r p snap=>
  if σ.ok r snap then pK σ r p fun t' _ H v=>if H.isEmpty then j_ t' t v K else none
  else none
 | .sub r p snap lo hi=>
  if σ.ok r snap then
   pK σ r p fun t' _ H v=>if H.isEmpty then j_ t' t v fun v=>match t,v with
    | .U _,v=>K ((v.take hi).drop lo)
    | _,_=>none
   else none
  else none
 | .ptr r p snap=>
  if σ.ok r snap then pK σ r p fun t' _ H v=>if H.isEmpty then j_ (.ptr t') t v K else none
  else none
 | _=>none
def vz (s:Slot) (K:Int->Option R):Option R:=
 match s with
 | .val (.int k) n=>K (pJ k n)
 | _=>none
def FU (s:Slot) (K:Bool->Option R):Option R:=
 match s with
 | .val .bool b=>K b
 | _=>none
def laid (t:Ty) (m:Md) (v:t.den):Slot:=
 if m=az t then .val t v else
 match t,m,v with
 | .ptr e,.ptr true m',v=>.box e m' [] v
 | t,m,v=>.own t m [] v
end
end OT
namespace OT
open Go
noncomputable section
inductive PM where
 | ro
 | py (m:Md)
 | nO (m:Md)
 | sB (m:Md)
 | nc (m:Md)
 | fix (f:Nat)
 deriving DecidableEq
def c8:List Ty->Ty
 | []=>.unit
 | t::ts=>.pair t (c8 ts)
def lJ:List (PM×Ty)->List Ty
 | []=>[]
 | (.py _,t)::ps=>t::lJ ps
 | (.nO _,t)::ps=>t::lJ ps
 | _::ps=>lJ ps
structure sC where
 cap:Bool:=false
 ps:List (PM×Ty)
 rs:List (Ty×Md)
 F:(c8 (ps.map (·.2))).den->Option (c8 (rs.map (·.1)++lJ ps)).den
 Cw:(c8 (ps.map (·.2))).den->List Path->Bool:=fun _ H=>H.isEmpty
structure Env where
 TI:Nat->Option Ty
 G:Nat->Option sC
 fz:List (Nat×Nat×Nat):=[]
 lv:List (Nat×List Nat):=[]
 lx:List (Nat×List Nat):=[]
 lf:List (Nat×List (Nat×Md)):=[]
 od:List (Nat×List Nat):=[]
 ar:List (Nat×List Nat):=[]
 bx:List (Nat×List Nat):=[]
 pd:List (Nat×List Nat):=[]
 er:List (Nat×List (Nat×Nat)):=[]
def WG:List (Nat×Nat×Nat)->Nat->Nat->Nat->Bool
 | [],_,_,_=>false
 | (a,b,c)::l,i,j,k=>(Nat.beq a i&&Nat.beq b j&&Nat.beq c k)||WG l i j k
def bz:Nat:=274877906944
section
variable {R:Type}
def pV (E:Env) (t:Nat) (K:Ty->Option R):Option R:=
 match E.TI t with
 | some t=>K t
 | none=>none
def oh:Nat->Path
 | 0=>[.fst]
 | n+1=>.snd::oh n
def tO:Nat->Ty->Option Ty
 | 0,.pair a _=>some a
 | n+1,.pair _ b=>tO n b
 | _,_=>none
def On:Nat->(t:Ty)->t.den->((t':Ty)->t'.den->Option R)->Option R
 | 0,.pair a _,v,K=>K a v.1
 | n+1,.pair _ b,v,K=>On n b v.2 K
 | _,_,_,_=>none
def JO (σ:St) (r:Nat):Option Ty:=
 match σ.get r with
 | .own t _ _ _ | .box t _ _ _=>some t
 | _=>none
def E1 (σ:St) (r:Nat) (p:Path):Option Ty:=
 match JO σ r with
 | some t=>Au p t
 | none=>none
def FV (E:Env) (σ:St) (T:Nat) (a:Slot) (mv:Bool) (d:Option Tmp) (K:St->Option R):Option R:=
 pV E T fun T=>
 match a with
 | .cp t v=>if t=T then K (σ.bY d (.val t v)) else none
 | .ptr r p snap=>
  if σ.ok r snap then
   pK σ r p fun t m H v=>
    if t=T then
     if t.flat then (if H.isEmpty then K (σ.bY d (.val t v)) else none)
     else if m=az t then (if H.isEmpty then (match mv with
      | true=>K (σ.bY d (.ref r p (uz σ r p t)))
      | false=>K (σ.bY d (.val t v))) else none)
     else match mv with
      | false=>K (σ.bY d (.ref r p (uz σ r p t)))
      | true=>if H.isEmpty then yo σ r p fun σ=>K (σ.bY d (laid t m v)) else none
    else none
  else none
 | _=>none
def JP (E:Env) (σ:St) (T:Nat) (a x:Slot) (mv:Bool) (K:St->Option R):Option R:=
 pV E T fun T=>
 match a with
 | .ptr r p snap=>
  if σ.ok r snap then
   if E1 σ r p=some T then nD σ x mv T fun m v σ=>uY σ r p T m v K else none
  else none
 | _=>none
def Bg (E:Env) (σ:St) (S:Nat) (x:Slot) (j:Nat) (d:Option Tmp) (K:St->Option R):Option R:=
 pV E S fun S=>
 match x with
 | .cp t v=>if t=S then On j t v fun t' v'=>K (σ.bY d (.cp t' v')) else none
 | .ptr r p snap=>if σ.ok r snap then (if E1 σ r p=some S then (if (tO j S).isSome then K (σ.bY d (.ptr r (p++oh j) snap)) else none) else none) else none
 | _=>none
def HB (E:Env) (σ:St) (S:Nat) (x:Slot) (j:Nat) (d:Option Tmp) (K:St->Option R):Option R:=
 pV E S fun S=>
 match x with
 | .val t v=>if t=S then On j t v fun t' v'=>K (σ.bY d (.val t' v')) else none
 | .ref r p snap=>
  if σ.ok r snap then
   if E1 σ r p=some S then
    pK σ r (p++oh j) fun t m H v=>
     if t.flat||(m=az t) then (if H.isEmpty then K (σ.bY d (.val t v)) else none)
     else K (σ.bY d (.ref r (p++oh j) (uz σ r (p++oh j) t)))
   else none
  else none
 | _=>none
def Qu (n:Int) (len:Nat) (K:Nat->Option R):Option R:=
 if 0<=n/\n < (len:Int) then K n.toNat else none
def Bh (E:Env) (σ:St) (T:Nat) (x ix:Slot) (d:Option Tmp) (K:St->Option R):Option R:=
 pV E T fun T=>vz ix fun n=>
 match x with
 | .val (.U e) v=>if T=.U e then (if 0<=n then (v[n.toNat]?).bind fun y=>K (σ.bY d (.cp e y)) else none) else none
 | .cp (.arr m e) v=>if T=.arr m e then (if 0<=n then (v[n.toNat]?).bind fun y=>K (σ.bY d (.cp e y)) else none) else none
 | .ref r p snap=>
  if σ.ok r snap then
   pK σ r p fun t m H v=>
    if H.any (·.isEmpty) then none else
    if t=T then
     match t,v with
     | .U e,v=>
      if m.own then Qu n v.length fun i=>K (σ.bY d (.ptr r (p++[.idx i]) (vI σ r (p++[.idx i]))))
      else if 0<=n then (v[n.toNat]?).bind fun y=>K (σ.bY d (.cp e y)) else none
     | _,_=>none
    else none
  else none
 | .sub r p snap lo hi=>
  if σ.ok r snap then
   pK σ r p fun t _ H _=>if H.any (·.isEmpty) then none else if t=T then Qu n (hi - lo) fun i=>K (σ.bY d (.ptr r (p++[.idx (lo+i)]) (vI σ r (p++[.idx (lo+i)])))) else none
  else none
 | .ptr r p snap=>
  if σ.ok r snap then
   pK σ r p fun t _ _ v=>
    if t=T then
     match t,v with
     | .arr _ _,v=>Qu n v.length fun i=>K (σ.bY d (.ptr r (p++[.o4 i]) snap))
     | _,_=>none
    else none
  else none
 | _=>none
def JQ (E:Env) (σ:St) (T:Nat) (x ix:Slot) (d:Option Tmp) (K:St->Option R):Option R:=
 pV E T fun T=>vz ix fun n=>
 match x with
 | .val .str s=>if T=.str then (if 0<=n then (s[n.toNat]?).bind fun c=>K (σ.bY d (.val (.int .u8) c)) else none) else none
 | .val (.arr m e) v=>if T=.arr m e then (if 0<=n then (v[n.toNat]?).bind fun y=>K (σ.bY d (.val e y)) else none) else none
 | _=>none
def tF (len:Nat) (lo hi:Option Slot) (K:Nat->Nat->Option R):Option R:=
 match lo,hi with
 | none,none=>K 0 len
 | some l,none=>vz l fun l=>if 0<=l/\l<=(len:Int) then K l.toNat len else none
 | none,some h=>vz h fun h=>if 0<=h/\h<=(len:Int) then K 0 h.toNat else none
 | some l,some h=>vz l fun l=>vz h fun h=>if 0<=l/\l<=h/\h<=(len:Int) then K l.toNat h.toNat else none
def JR (E:Env) (σ:St) (T:Nat) (x:Slot) (lo hi:Option Slot) (d:Option Tmp) (K:St->Option R):Option R:=
 pV E T fun T=>
 match x with
 | .val .str s=>if T=.str then tF s.length lo hi fun l h=>K (σ.bY d (.val .str ((s.take h).drop l))) else none
 | .val (.U e) v=>if T=.U e then tF v.length lo hi fun l h=>K (σ.bY d (.val (.U e) ((v.take h).drop l))) else none
 | .ref r p snap=>
  if σ.ok r snap then
   pK σ r p fun t m H v=>
    if H.any (·.isEmpty) then none else
    if t=T then
     match t,v with
     | .U e,v=>
      if m.own then tF v.length lo hi fun l h=>K (σ.bY d (.sub r p snap l h))
      else tF v.length lo hi fun l h=>K (σ.bY d (.val (.U e) ((v.take h).drop l)))
     | _,_=>none
    else none
  else none
 | .sub r p snap l0 h0=>
  if σ.ok r snap then
   pK σ r p fun t _ H _=>if H.any (·.isEmpty) then none else if t=T then tF (h0 - l0) lo hi fun l h=>K (σ.bY d (.sub r p snap (l0+l) (l0+h))) else none
  else none
 | _=>none
def SS (E:Env) (σ:St) (t:Nat) (x:Slot) (K:Nat->Option R):Option R:=
 pV E t fun T=>
 match T with
 | .str=>match x with
  | .val .str s=>K s.length
  | _=>none
 | .U _=>match x with
  | .val (.U _) v=>K v.length
  | .v6=>K 0
  | .ref r p snap=>
   if σ.ok r snap then
    pK σ r p fun t _ H v=>if H.any (·.isEmpty) then none else match t,v with
     | .U _,v=>K v.length
     | _,_=>none
   else none
  | .sub r _ snap lo hi=>if σ.ok r snap then K (hi - lo) else none
  | _=>none
 | _=>none
def D9 (σ:St) (x:Slot) (e:Ty) (mv:Bool) (K:Md->List e.den->St->Option R):Option R:=
 match x with
 | .val .str s=>j_ (.U (.int .u8)) (.U e) s fun s=>K .leaf s σ
 | x=>nD σ x mv (.U e) fun m v σ=>K m.e v σ
def HC (E:Env) (σ:St) (T:Nat) (b:Slot) (x:Operand) (mv:Bool) (d:Option Tmp) (K:St->Option R):Option R:=
 pV E T fun T=>
 match T with
 | .U e=>
  nD σ b true (.U e) fun m v σ=>
   if m.own then
    D9 σ (dr σ x) e mv fun me y σ=>
     if v.length+y.length<=bz then
      K (σ.bY d (.own (.U e) (.U true (if me=m.e then me else az e)) [] (v++y)))
     else none
   else none
 | _=>none
def rX {α:Type} (v:List α) (lo n:Nat) (y:List α):List α:=v.take lo++y.take n++v.drop (lo+n)
def Oo (E:Env) (σ:St) (T:Nat) (b:Operand) (x:Slot) (d:Option Tmp) (K:St->Option R):Option R:=
 pV E T fun T=>
 match T with
 | .U e=>
  if e.flat then
   D9 σ x e true fun _ y σ=>
    match dr σ b with
    | .sub r p snap lo hi=>
     if σ.ok r snap then
      pK σ r p fun t m H v=>
       if m.own&&H.isEmpty then j_ t (.U e) v fun v=>
        uY σ r p (.U e) m (rX v lo (min y.length (hi - lo)) y) fun σ'=>
         K (({ σ' with vr:=(σ.lX r v7).vr,aT:=σ.aT }).bY d (.val (.int .i64) ((min y.length (hi - lo):Nat):Int)))
       else none
     else none
    | .ref r p snap=>
     if σ.ok r snap then
      pK σ r p fun t m H v=>
       if m.own&&H.isEmpty then j_ t (.U e) v fun v=>
        uY σ r p (.U e) m (rX v 0 (min y.length v.length) y) fun σ'=>
         K (({ σ' with vr:=(σ.lX r v7).vr,aT:=σ.aT }).bY d (.val (.int .i64) ((min y.length v.length:Nat):Int)))
       else none
     else none
    | _=>none
  else none
 | _=>none
def CR:Nat->(t:Ty)->Md->t.den->(t':Ty)->Md->t'.den->(Md->t.den->Option R)->Option R
 | 0,.pair a _,m,v,t',m',x,K=>j_ t' a x fun x=>K (.pair m' m.r) (x,v.2)
 | n+1,.pair _ b,m,v,t',m',x,K=>CR n b m.r v.2 t' m' x fun m'' y=>K (.pair m.l m'') (v.1,y)
 | _,_,_,_,_,_,_,_=>none
def CS (E:Env) (σ:St) (t:Ty) (fz:Nat->Bool):List (Nat×Operand)->Nat->Md->t.den->(Md->t.den->St->Option R)->Option R
 | [],_,m,v,K=>K m v σ
 | (j,x)::ps,n,m,v,K=>
  match tO j t with
  | some t'=>nD σ (dr σ x) (!fz n) t' fun m' y σ'=>CR j t m v t' m' y fun m v=>CS E σ' t fz ps (n+1) m v K
  | none=>none
def E2 (σ:St) (e:Ty) (fz:Nat->Bool):List (Nat×Operand)->Nat->Md->List e.den->(Md->List e.den->St->Option R)->Option R
 | [],_,m,v,K=>K m v σ
 | (j,x)::ps,n,m,v,K=>
  if Nat.beq j n then
   nD σ (dr σ x) (!fz n) e fun m' y σ'=>E2 σ' e fz ps (n+1) (if m'=m then m else az e) (v++[y]) K
  else none
def JS (σ:St) (e:Ty) (fz:Nat->Bool):List (Nat×Operand)->Nat->List e.den->(List e.den->St->Option R)->Option R
 | [],_,v,K=>K v σ
 | (j,x)::ps,n,v,K=>
  nD σ (dr σ x) (!fz n) e fun _ y σ'=>if j < v.length then JS σ' e fz ps (n+1) (v.set j y) K else none
def JT (op:BinOp) (k:IntKind) (a b:Int) (K:(t:Ty)->t.den->Option R):Option R:=
 match op with
 | .add=>K (.int k) (Cv k (a+b))
 | .sub=>K (.int k) (Cv k (a - b))
 | .mul=>K (.int k) (Cv k (a*b))
 | .quo=>if b=0 then none else K (.int k) (Cv k (a.tdiv b))
 | .rem=>if b=0 then none else K (.int k) (UE k (a.tmod b))
 | .and=>K (.int k) (Cv k ((BitVec.ofInt k.bits a &&& BitVec.ofInt k.bits b).toNat:Int))
 | .or=>K (.int k) (Cv k ((BitVec.ofInt k.bits a ||| BitVec.ofInt k.bits b).toNat:Int))
 | .xor=>K (.int k) (Cv k ((BitVec.ofInt k.bits a ^^^ BitVec.ofInt k.bits b).toNat:Int))
 | .shl=>if b < 0 then none else K (.int k) (Cv k (a*2 ^ (min b.toNat k.bits)))
 | .shr=>if b < 0 then none else K (.int k) (UE k (a.fdiv (2 ^ (min b.toNat k.bits))))
 | .eql=>K .bool (decide (a=b))
 | .neq=>K .bool (!decide (a=b))
 | .lss=>K .bool (decide (a < b))
 | .leq=>K .bool (decide (a<=b))
 | .gtr=>K .bool (decide (b < a))
 | .geq=>K .bool (decide (b<=a))
 | _=>none
def ST (op:BinOp) (a b:List UInt8) (K:(t:Ty)->t.den->Option R):Option R:=
 match op with
 | .add=>if a.length+b.length<=bz then K .str (a++b) else none
 | .eql=>K .bool (decide (a=b))
 | .neq=>K .bool (!decide (a=b))
 | _=>none
def both (a b:Option R):Option R:=open Classical in if a=b then a else none
def Bi {α:Type} (v:List α) (a b:Option R):Option R:=match v with
 | []=>both a b
 | _::_=>b
def WH {α:Type} (op:BinOp) (v:List α) (K:(t:Ty)->t.den->Option R):Option R:=match op with
 | .eql=>Bi v (K .bool true) (K .bool false)
 | .neq=>Bi v (K .bool false) (K .bool true)
 | _=>none
def JU (E:Env) (tid:Nat) (op:BinOp) (x y:Slot) (K:(t:Ty)->t.den->Option R):Option R:=
 match x,y with
 | .val (.int k) a,.val (.int k') b=>
  match op with
  | .shl | .shr=>JT op k (pJ k a) (pJ k' b) K
  | _=>if k=k' then JT op k (pJ k a) (pJ k' b) K else none
 | .val .str a,.val .str b=>ST op a b K
 | .val t a,.val t' b=>
  match op with
  | .eql=>if t.of then pV E tid fun T=>if T=t then j_ t' t b fun b=>K .bool (t.eq a b) else none else none
  | .neq=>if t.of then pV E tid fun T=>if T=t then j_ t' t b fun b=>K .bool (!t.eq a b) else none else none
  | _=>none
 | .val (.U e) v,.v6=>pV E tid fun T=>if T=.U e then WH op v K else none
 | _,_=>none
def Bj (E:Env) (σ:St) (S T:Nat) (x:Slot) (d:Option Tmp) (K:St->Option R):Option R:=
 pV E S fun S=>pV E T fun T=>
 match T with
 | .int k=>match x with
  | .val (.int k') n=>if S=.int k' then K (σ.bY d (.val (.int k) (Cv k (pJ k' n)))) else none
  | _=>none
 | .str=>match S with
  | .str=>match x with
   | .val .str s=>K (σ.bY d (.val .str s))
   | _=>none
  | .U (.int .u8)=>rj σ x (.U (.int .u8)) fun v=>K (σ.bY d (.val .str v))
  | _=>none
 | .U (.int .u8)=>match x with
  | .val .str s=>if S=.str then (if s.length<=bz then K (σ.bY d (.own (.U (.int .u8)) (am (.U (.int .u8))) [] s)) else none) else none
  | _=>none
 | _=>none
def JV (σ:St) (s:Slot) (t:Ty) (K:t.den->Option R):Option R:=
 match s with
 | .val t' v=>j_ t' t v K
 | .cp t' v=>j_ (.ptr t') t v K
 | .v6=>match t with
  | .U _=>K []
  | _=>none
 | .ref r p snap=>
  if σ.ok r snap then pK σ r p fun t' m H v=>if H.isEmpty&&(t'.flat||decide (m=az t')) then j_ t' t v K else none
  else none
 | .sub r p snap lo hi=>
  if σ.ok r snap then
   pK σ r p fun t' m H v=>if H.isEmpty&&decide (m=az t') then j_ t' t v fun v=>match t,v with
    | .U _,v=>K ((v.take hi).drop lo)
    | _,_=>none
   else none
  else none
 | _=>none
def yV (σ:St) (ow:Bool) (pm:PM) (t:Ty) (s:Slot) (K:t.den->Option (Nat×Path)->Option R):Option R:=
 match pm with
 | .ro=>match ow with
  | true=>rj σ s t fun v=>K v none
  | false=>JV σ s t fun v=>K v none
 | .fix f=>match s with
  | .val .fn v=>if Nat.beq v.1 f then j_ .fn t v fun v=>K v none else none
  | _=>none
 | .py m=>match s with
  | .ptr r p snap=>
   if σ.ok r snap then pK σ r p fun t' m' H v=>if H.isEmpty&&decide (m'=m) then j_ t' t v fun v=>K v (some (r,p)) else none
   else none
  | _=>none
 | .sB m=>match s with
  | .ptr r p snap=>
   if σ.ok r snap then pK σ r p fun t' m' H v=>if H.isEmpty&&decide (m'=m) then j_ t' t v fun v=>K v (some (r,p)) else none
   else none
  | _=>none
 | .nO m=>match s with
  | .ref r p snap=>
   if σ.ok r snap then pK σ r p fun t' m' H v=>if H.isEmpty&&decide (m'=m) then j_ t' t v fun v=>K v (some (r,p)) else none
   else none
  | _=>none
 | .nc m=>match s with
  | .ref r p snap=>
   if σ.ok r snap then pK σ r p fun t' m' _ v=>if m'=m then j_ t' t v fun v=>K v (some (r,p)) else none
   else none
  | _=>none
def ne:Slot->List Nat
 | .ref r _ _ | .sub r _ _ _ _ | .ptr r _ _=>[r]
 | _=>[]
def Ju (σ:St) (ow:Bool):(ps:List (PM×Ty))->List Slot->((c8 (ps.map (·.2))).den->List (Nat×Path)->Option R)->Option R
 | [],[],K=>K () []
 | (pm,t)::ps,s::ss,K=>yV σ ow pm t s fun v w=>Ju σ ow ps ss fun vs ws=>K (v,vs) (match w with | some x=>x::ws | none=>ws)
 | _,_,_=>none
def rA (σ:St):List (PM×Ty)->List Operand->(St->Option R)->Option R
 | (.py m,_)::ps,x::xs,K=>match dr σ x with
  | .ptr r p snap=>if σ.ok r snap then pK σ r p fun _ m' _ _=>if m'=m then rA σ ps xs K else vH σ r p m fun σ=>rA σ ps xs K else none
  | _=>none
 | (.sB m,_)::ps,x::xs,K=>match dr σ x with
  | .ptr r p snap=>if σ.ok r snap then pK σ r p fun _ m' _ _=>if m'=m then rA σ ps xs K else vH σ r p m fun σ=>rA σ ps xs K else none
  | _=>none
 | (.nO m,_)::ps,x::xs,K=>match dr σ x with
  | .ref r p snap=>if σ.ok r snap then pK σ r p fun _ m' _ _=>if m'=m then rA σ ps xs K else vH σ r p m fun σ=>rA σ ps xs K else none
  | _=>none
 | (.nc m,_)::ps,x::xs,K=>match dr σ x with
  | .ref r p snap=>if σ.ok r snap then pK σ r p fun _ m' _ _=>if m'=m then rA σ ps xs K else vH σ r p m fun σ=>rA σ ps xs K else none
  | _=>none
 | _::ps,_::xs,K=>rA σ ps xs K
 | _,_,K=>K σ
def WI (x:Operand) (r:Nat) (t:Ty) (v:t.den) (σ:St):St:=match x with
 | .tmp i=>match Nat.beq i r||!Nat.blt i σ.n with
  | true=>σ
  | false=>(σ.put i .dead).put i (.cp t v)
 | _=>σ
def yW (σ:St):List (PM×Ty)->List Operand->(St->Option R)->Option R
 | (.ro,t)::ps,x::xs,K=>
  if t.flat then yW σ ps xs K else
  match dr σ x with
  | .ref r p snap=>if σ.ok r snap then yM σ r p fun σ=>yW σ ps xs K else none
  | .sub r p snap _ _=>if σ.ok r snap then yM σ r p fun σ=>yW σ ps xs K else none
  | .ptr r p snap=>if σ.ok r snap then
    match p,σ.get r with
    | [],.box t m H v=>if H.isEmpty&&fits m (az t) then yW (WI x r t v ((σ.put r .dead).put r (.cp t v))) ps xs K else none
    | _,_=>none
   else none
  | _=>yW σ ps xs K
 | _::ps,_::xs,K=>yW σ ps xs K
 | _,_,K=>K σ
def apart:List Nat->List (Nat×Path)->Bool
 | _,[]=>true
 | all,(r,_)::ws=>Nat.ble (all.count r) 1&&apart all ws
def rB (σ:St):(ps:List (PM×Ty))->List (Nat×Path)->(c8 (lJ ps)).den->(St->Option R)->Option R
 | [],[],_,K=>K σ
 | (.ro,_)::ps,ws,v,K=>rB σ ps ws v K
 | (.fix _,_)::ps,ws,v,K=>rB σ ps ws v K
 | (.py m,t)::ps,(r,p)::ws,v,K=>uY σ r p t m v.1 fun σ=>rB σ ps ws v.2 K
 | (.sB m,t)::ps,(r,p)::ws,v,K=>match uY σ r p t m t.zero (fun _=>some ()) with
  | some _=>rB (σ.put r .dead) ps ws v K
  | none=>none
 | (.nc _,_)::ps,(r,p)::ws,v,K=>yo σ r p fun σ=>rB σ ps ws v K
 | (.nO m,t)::ps,(r,p)::ws,v,K=>uY σ r p t m v.1 fun σ'=>rB { σ' with vr:=(σ.lX r (tj (dh p+1))).vr,aT:=σ.aT } ps ws v.2 K
 | _,_,_,_=>none
def lK:(rs:List (Ty×Md))->{ts:List Ty}->(c8 (rs.map (·.1)++ts)).den->List FS×(c8 ts).den
 | [],_,v=>([],v)
 | (t,m)::rs,_,v=>(⟨t,m,v.1⟩::(lK rs v.2).1,(lK rs v.2).2)
def uA:List FS->Slot
 | []=>.dead
 | [x]=>laid x.t x.m x.v
 | xs=>.rq xs
def yX:List (Ty×Md)->Bool
 | []=>true
 | (t,m)::rs=>(t.flat||decide (m=am t))&&t.rV&&yX rs
def qi:List (PM×Ty)->Bool
 | []=>true
 | (.py m,t)::ps=>(t.flat||decide (m=am t))&&t.rV&&qi ps
 | (.nO m,t)::ps=>(t.flat||decide (m=am t))&&t.rV&&qi ps
 | (.sB m,t)::ps=>(t.flat||decide (m=am t))&&t.rV&&qi ps
 | (.nc m,t)::ps=>(t.flat||decide (m=am t))&&t.rV&&qi ps
 | _::ps=>qi ps
def Oq:List (PM×Ty)->Bool
 | []=>false
 | (.nc _,_)::_=>true
 | _::ps=>Oq ps
def SV (σ:St) (hv:Bool) (ho:List Path->Bool) (ws:List (Nat×Path)) (K:Option R):Option R:=
 match hv,ws with
 | true,(r,p)::_=>pK σ r p fun _ _ H _=>match ho H with
  | true=>K
  | false=>none
 | _,_=>K
def FW (g:sC) (ow:Bool) (σ:St) (xs:List Operand) (ex:List Slot) (d:Option Tmp) (K:St->Option R):Option R:=
 rA σ g.ps xs fun σ=>
  Ju σ ow g.ps (xs.map (dr σ)++ex) fun v ws=>
   if Nat.ble ws.length 1&&apart ((xs.map (dr σ)++ex).flatMap ne) ws then
    SV σ (Oq g.ps) (g.Cw v) ws ((g.F v).bind fun out=>
     rB σ g.ps ws (lK g.rs out).2 fun σ=>K (σ.bY d (uA (lK g.rs out).1)))
   else none
def Bk (g:sC) (σ:St) (xs:List Operand) (ex:List Slot) (d:Option Tmp) (K:St->Option R):Option R:=
 match yX g.rs&&qi g.ps with
 | true=>FW g true σ xs ex d K
 | false=>yW σ g.ps xs fun σ=>FW g false σ xs ex d K
def HD (E:Env) (σ:St) (T:Nat) (x:Operand) (mv:Bool) (d:Option Tmp) (K:St->Option R):Option R:=
 match dr σ x with
 | .dead=>K (σ.bY d .dead)
 | .v6=>pV E T fun T=>match T with
  | .U e=>K (σ.bY d (.own (.U e) (am (.U e)) [] []))
  | _=>none
 | .rq []=>K (σ.bY d (.rq []))
 | .rq _=>none
 | .ref r p snap=>
  if σ.ok r snap then
   match E1 σ r p with
   | some t=>nD σ (.ref r p snap) mv t fun m v σ=>K (σ.bY d (laid t m v))
   | none=>none
  else none
 | .sub r p snap lo hi=>
  if σ.ok r snap then
   match E1 σ r p with
   | some t=>nD σ (.sub r p snap lo hi) mv t fun m v σ=>K (σ.bY d (laid t m v))
   | none=>none
  else none
 | .ptr r p snap=>
  match p,σ.get r with
  | [],.box t m H v=>if σ.ok r snap&&mv&&!Bf σ.aT r then (match d with | some i=>K ((σ.put r .dead).put i (.box t m H v)) | none=>none) else K (σ.bY d (.ptr r [] snap))
  | p,_=>K (σ.bY d (.ptr r p snap))
 | s=>K (σ.bY d s)
def Ot (σ:St) (x:Operand) (d:Option Tmp) (K:St->Option R):Option R:=
 match dr σ x,x with
 | .rq xs,.tmp i=>K ((σ.put i .dead).bY d (.rq xs))
 | .rq _,_=>none
 | s,_=>K (σ.bY d s)
def JW (σ:St) (x:Operand) (d:Option Tmp) (σ':St):St:=
 match x,d with
 | .tmp i,some d=>match σ.get i with
  | .own _ _ _ _=>match FT σ.aT i with
   | some n=>{ σ' with aT:=(d,n,true)::σ'.aT }
   | none=>σ'
  | _=>σ'
 | _,_=>σ'
def JX:Slot->Option (Nat×Int)
 | .val .fn f=>some f
 | _=>none
def jm {α:Type} (k:Ty) (m:List (k.den×α)) (x:k.den):Option α:=(m.find? fun e=>k.eq x e.1).map (·.2)
def nP {α:Type} (k:Ty) (m:List (k.den×α)) (x:k.den) (y:α):List (k.den×α):=match m.findIdx? (fun e=>k.eq x e.1) with
 | some i=>m.set i (x,y)
 | none=>m++[(x,y)]
def yY {α:Type} (o:Option α) (z:α):α:=match o with
 | some x=>x
 | none=>z
def HE (E:Env) (σ:St) (T:Nat) (x ix:Slot) (ok:Bool) (d:Option Tmp) (K:St->Option R):Option R:=
 pV E T fun T=>
 match T with
 | .map k v=>
  if v.uR then
   match x with
   | .ref r p snap=>
    if σ.ok r snap then
     pK σ r p fun t _ H y=>
      if H.isEmpty then j_ t (.map k v) y fun y=>
       match ix with
       | .val t2 i=>j_ t2 k i fun i=>
        match ok with
        | true=>K (σ.bY d (.rq [⟨v,az v,yY (jm k y i) v.zero⟩,⟨.bool,.leaf,(jm k y i).isSome⟩]))
        | false=>K (σ.bY d (.val v (yY (jm k y i) v.zero)))
       | _=>none
      else none
    else none
   | _=>none
  else none
 | _=>none
def HF (E:Env) (σ:St) (T:Nat) (x ix y:Slot) (K:St->Option R):Option R:=
 pV E T fun T=>
 match T with
 | .map k v=>
  match x with
  | .ref r p snap=>
   if σ.ok r snap then
    pK σ r p fun t m H z=>
     if m.own&&H.isEmpty then j_ t (.map k v) z fun z=>
      match ix,y with
      | .val t2 i,.val t3 w=>j_ t2 k i fun i=>j_ t3 v w fun w=>
       uY σ r p (.map k v) m (nP k z i w) fun σ'=>K { σ' with vr:=(σ.lX r v7).vr,aT:=σ.aT }
      | _,_=>none
     else none
   else none
  | _=>none
 | _=>none
def Qv:Option Ty->Bool
 | some (.map _ _)=>true
 | _=>false
def HG (E:Env) (σ:St) (T:Nat) (x:Slot) (K:Nat->Option R):Option R:=
 pV E T fun T=>
 match T with
 | .map k v=>
  match x with
  | .ref r p snap=>
   if σ.ok r snap then
    pK σ r p fun t _ H y=>if H.isEmpty then j_ t (.map k v) y fun y=>K (List.length y) else none
   else none
  | _=>none
 | _=>none
def rm (E:Env) (gk i:Nat) (o:Oper) (σ:St) (K:St->Option R):Option R:=
 let fz:=WG E.fz gk i
 let d:=o.dst
 match o.op with
 | .move x=>Ot σ x d K
 | .assign x=>HD E σ o.type x (!fz 0) d K
 | .pick c a b=>FU (dr σ c) fun c=>match dr σ (bif c then a else b) with
  | .val .bool x=>K (σ.bY d (.val .bool x))
  | _=>none
 | .alloc t=>pV E t fun t=>if t.uR then K (σ.bY d (.box t (am t) [] t.zero)) else none
 | .box t x=>pV E t fun t=>nD σ (dr σ x) (!fz 0) t fun m v σ'=>K (JW σ x d (σ'.bY d (.box t m [] v)))
 | .build t ps=>pV E t fun t=>match t with
  | .arr n e=>if e.uR then JS σ e fz ps.toList 0 (Ty.arr n e).zero fun v σ=>K (σ.bY d (laid (.arr n e) (am (.arr n e)) v)) else none
  | .pair t1 t2=>if (Ty.pair t1 t2).uR then CS E σ (.pair t1 t2) fz ps.toList 0 (am (.pair t1 t2)) (Ty.pair t1 t2).zero fun m v σ=>K (σ.bY d (laid (.pair t1 t2) m v)) else none
  | _=>none
 | .buildSlice t n ps=>pV E t fun t=>match t with
  | .U e=>if Nat.beq n ps.size&&e.uR&&Nat.ble (n*e.sz) 16777216 then E2 σ e fz ps.toList 0 (am e) [] fun m v σ=>K (σ.bY d (.own (.U e) (.U true m) [] v)) else none
  | _=>none
 | .load t a=>FV E σ t (dr σ a) (fz 7) d K
 | .store t a x=>match d with
  | none=>JP E σ t (dr σ a) (dr σ x) (!fz 1) K
  | some _=>none
 | .nilCheck x=>match dr σ x with
  | .ptr r p snap=>if σ.ok r snap then K (σ.bY d (.ptr r p snap)) else none
  | .cp t v=>K (σ.bY d (.cp t v))
  | .val .fn f=>K (σ.bY d (.val .fn f))
  | _=>none
 | .binOp op t x y _=>JU E t op (dr σ x) (dr σ y) fun t v=>K (σ.bY d (.val t v))
 | .unOp op _ x=>match op,dr σ x with
  | .not,.val .bool b=>K (σ.bY d (.val .bool (!b)))
  | .neg,.val (.int k) n=>K (σ.bY d (.val (.int k) (Cv k (0 - pJ k n))))
  | _,_=>none
 | .convert s t x=>Bj E σ s t (dr σ x) d K
 | .fieldAddr t x j=>Bg E σ t (dr σ x) j d K
 | .field t x j=>HB E σ t (dr σ x) j d K
 | .indexAddr t x ix=>Bh E σ t (dr σ x) (dr σ ix) d K
 | .index t x ix=>JQ E σ t (dr σ x) (dr σ ix) d K
 | .slice t x lo hi none=>JR E σ t (dr σ x) (lo.map (dr σ)) (hi.map (dr σ)) d K
 | .makeSlice t n c=>pV E t fun t=>match t with
  | .U e=>vz (dr σ n) fun n=>vz (dr σ c) fun c=>
   if e.uR then (if 0<=n/\n<=c/\c<=(bz:Int) then K (σ.bY d (.own (.U e) (am (.U e)) [] (List.replicate n.toNat e.zero))) else none) else none
  | _=>none
 | .extract x j=>match x with
  | .tmp i=>match σ.get i with
   | .rq xs=>match xs[j]? with
    | some x=>if x.t=.unit then none else K ((σ.put i (.rq (xs.set j ⟨.unit,.leaf,()⟩))).bY d (laid x.t x.m x.v))
    | none=>none
   | _=>none
  | _=>none
 | .makeFunc (.func f) first cs=>
  if first.size=0 then
   match cs.toList with
   | []=>K (σ.bY d (.val .fn (f,0)))
   | [.tmp i]=>match σ.get i with
    | .box (.int .i64) _ _ n=>K (((σ.put i .dead).put i (.cp (.int .i64) n)).bY d (.val .fn (f,n)))
    | _=>none
   | _=>none
  else none
 | .makeMap t none=>pV E t fun t=>match t with
  | .map k v=>if k.flat&&v.flat then K (σ.bY d (.own (.map k v) (am (.map k v)) [] [])) else none
  | _=>none
 | .lookup t x ix ok=>HE E σ t (dr σ x) (dr σ ix) ok d K
 | .mapUpdate t x ix y=>match d with
  | none=>HF E σ t (dr σ x) (dr σ ix) (dr σ y) K
  | some _=>none
 | .call c=>match c.callee with
  | .builtin .len=>match c.args.toList,c.argTypes.toList with
   | [x],[t]=>match Qv (E.TI t) with
    | false=>SS E σ t (dr σ x) fun n=>K (σ.bY d (.val (.int .i64) (n:Int)))
    | true=>HG E σ t (dr σ x) fun n=>K (σ.bY d (.val (.int .i64) (n:Int)))
   | _,_=>none
  | .builtin .append=>match c.args.toList,c.argTypes.toList with
   | [b,x],t::_=>HC E σ t (dr σ b) x (!fz 1) d K
   | _,_=>none
  | .builtin .copy=>match c.args.toList,c.argTypes.toList with
   | [b,x],t::_=>Oo E σ t b (dr σ x) d K
   | _,_=>none
  | .value (.func f)=>match E.G f with
   | some g=>match g.cap with
    | false=>Bk g σ c.args.toList [] d K
    | true=>none
   | none=>none
  | .value (.tmp i)=>match JX (σ.get i) with
   | some (f,n)=>match E.G f with
    | some g=>match g.cap with
     | true=>Bk g σ c.args.toList [.cp (.int .i64) n] d K
     | false=>Bk g σ c.args.toList [] d K
    | none=>none
   | none=>none
  | _=>none
 | _=>none
def oo (l:List (Nat×List Nat)) (i:Nat):List Nat:=match m9 l i with | some x=>x | none=>[]
def CT (ops:List Oper) (σ:St) (g:Option (Nat×Bool)) (K:Bool->St->Option R):Option R:=
 match g with
 | none=>K true σ
 | some (j,want)=>match (ops[j]?).bind (·.dst) with
  | none=>none
  | some t=>match σ.get t with
   | .val .bool b=>match b with
    | true=>K (want == true) (σ.JN t (.val .bool true))
    | false=>K (want == false) (σ.JN t (.val .bool false))
   | .rq []=>K false σ
   | _=>none
def HH (E:Env) (gk:Nat) (ops:List Oper):List Oper->Nat->St->(St->Option R)->Option R
 | [],_,σ,K=>K σ
 | o::rest,i,σ,K=>CT ops σ o.guard fun b σ=>
  match b with
  | true=>rm E gk i o σ fun σ=>HH E gk ops rest (i+1) σ K
  | false=>HH E gk ops rest (i+1) (σ.bY o.dst (.rq [])) K
def JY (σ:St) (o:Oper):Bool:=match o.op with
 | .load _ x=>match dr σ x with
  | .cp _ _=>true
  | _=>false
 | .convert _ _ x=>match dr σ x with
  | .val (.int _) _=>true
  | .val .str _=>true
  | .val (.U (.int .u8)) _=>true
  | _=>false
 | _=>false
def JZ (E:Env) (gk i:Nat):Bool:=(oo E.ar gk).any (Nat.beq i)
def D_:Op->Bool
 | .store .. | .mapUpdate .. | .call ..=>true
 | _=>false
def qj:Path->Path->Bool
 | [],[]=>true
 | .fst::p,.fst::q=>qj p q
 | .snd::p,.snd::q=>qj p q
 | .idx i::p,.idx j::q=>Nat.beq i j&&qj p q
 | .o4 i::p,.o4 j::q=>Nat.beq i j&&qj p q
 | _,_=>false
def SW (σ:St) (o:Oper):Bool:=match o.op,o.dst with
 | .load _ (.tmp i),some d=>match σ.get i with
  | .ptr r p s=>match σ.get d with
   | .ref r' p' s'=>Nat.beq r r'&&(σ.ok r s&&σ.ok r s')&&qj p p'
   | _=>false
  | .box ..=>match σ.get d with
   | .ref r' p' s'=>Nat.beq i r'&&σ.ok i s'&&qj [] p'
   | _=>false
  | _=>false
 | _,_=>false
def FX (l:List (Nat×List (Nat×Nat))) (i:Nat):List (Nat×Nat):=match m9 l i with | some x=>x | none=>[]
def Ou (E:Env) (gk i:Nat):Bool:=(FX E.er gk).any fun e=>Nat.beq i e.1
def Ov (E:Env) (gk:Nat) (ops:List Oper) (is:List Nat) (σ:St):Bool:=(FX E.er gk).all fun e=>is.any (Nat.beq e.1)||!(is.any (Nat.beq e.2)||Nat.ble ops.length e.2)||(match ops[e.1]? with
 | some o=>SW σ o
 | none=>false)
def FY (E:Env) (gk:Nat) (ops:List Oper) (i:Nat) (o:Oper) (is:List Nat) (σ:St):Bool:=!(D_ o.op||Ou E gk i)||Ov E gk ops is σ
def Ns (σ:St):List Nat->(St->Option R)->Option R
 | [],K=>K σ
 | i::is,K=>match σ.get i with
  | .box t m H v=>if H.isEmpty&&fits m (az t) then Ns ((σ.put i .dead).put i (.cp t v)) is K else none
  | _=>none
def HI (σ:St) (d:Nat):Bool:=Nat.blt d σ.n&&(match σ.get d with
 | .dead=>true
 | _=>false)&&!Bf σ.aT d&&!σ.gh.any fun e=>Nat.beq e.1 d
def Ow (E:Env) (gk:Nat) (ops:List Oper) (is:List Nat) (σ:St):Bool:=(oo E.pd gk).all fun j=>!is.any (Nat.beq j)||(match (ops[j]?).bind (·.dst) with
 | some d=>HI σ d
 | none=>false)
def Qw (ops:List Oper) (σ:St):List Nat->(St->Option R)->Option R
 | [],K=>K σ
 | j::js,K=>match (ops[j]?).bind (·.dst) with
  | some d=>Qw ops (σ.put d .dead) js K
  | none=>none
def CU (E:Env) (gk:Nat) (ops:List Oper):List Nat->St->(St->Option R)->Option R
 | [],σ,K=>K σ
 | i::is,σ,K=>
  match Ow E gk ops (i::is) σ with
  | false=>none
  | true=>
  match ops[i]? with
  | none=>none
  | some o=>CT ops σ o.guard fun b σ=>
   match b with
   | true=>match JZ E gk i&&!JY σ o with
    | true=>none
    | false=>rm E gk i o σ fun σ=>match FY E gk ops i o is σ with
     | true=>CU E gk ops is σ K
     | false=>none
   | false=>CU E gk ops is (σ.bY o.dst (.rq [])) K
def rY:Code->Nat
 | .region id _ _=>id
 | .seq a _=>rY a
 | .block _ b=>rY b
 | .loop b=>rY b
 | .scope b=>rY b
 | _=>0
def CV (live:List Nat) (fr:List (Nat×Md)) (r:Nat):Bool:=live.any (Nat.beq r)&&(match m9 fr r with
 | none=>true
 | some _=>false)
def jr (live:List Nat) (fr:List (Nat×Md)) (σ:St) (i:Nat):Slot:=
 match σ.get i with
 | .ptr r p snap=>if σ.ok r snap&&CV live fr r then .ptr r p (snap.map fun _=>0) else .dead
 | .ref r p snap=>if σ.ok r snap&&CV live fr r then .ref r p (snap.map fun _=>0) else .dead
 | .sub r p snap lo hi=>if σ.ok r snap&&CV live fr r then .sub r p (snap.map fun _=>0) lo hi else .dead
 | s=>s
def xN (live:List Nat) (σ:St):St:={ n:=σ.n,sl:=live.map fun i=>(i,jr live [] σ i),vr:=[],aT:=σ.aT }
def yZ (fr:List (Nat×Md)) (i:Nat) (s:Slot):Slot:=
 match m9 fr i with
 | none=>s
 | some m1=>
  match s with
  | .own t m H v=>if H.isEmpty&&fits m m1 then (if m1=az t then .val t v else .own t m1 [] v) else .dead
  | .box t m H v=>if H.isEmpty&&fits m m1 then .box t m1 [] v else .dead
  | s=>s
def ey (live:List Nat) (fr:List (Nat×Md)) (σ:St):St:={ n:=σ.n,sl:=live.map fun i=>(i,yZ fr i (jr live fr σ i)),vr:=[],aT:=σ.aT }
def Ox (l:List (Nat×List (Nat×Md))) (i:Nat):List (Nat×Md):=match m9 l i with | some x=>x | none=>[]
inductive Ex where
 | normal
 | exit (id:Nat)
def ic (rec:St->Option R) (kp:St->St) (K:Ex->St->Option R):Ex->St->Option R
 | .normal,σ=>rec (kp σ)
 | .exit j,σ=>K (.exit j) σ
def ay (B:St->(Ex->St->Option R)->Option R) (K:Ex->St->Option R):Ex->St->Option R
 | .normal,σ=>B σ K
 | .exit j,σ=>K (.exit j) σ
def ag (id:Nat) (K:Ex->St->Option R):Ex->St->Option R
 | .normal,σ=>K .normal σ
 | .exit j,σ=>if Nat.beq j id then K .normal σ else K (.exit j) σ
def Bl (F:St->(Ex->St->Option R)->Option R) (kp:St->St) (K:Ex->St->Option R):Nat->St->Option R
 | 0,_=>none
 | k+1,σ=>F σ (ic (Bl F kp K k) kp K)
def tP (E:Env) (k:Nat) (fin:St->Option R):Code->St->(Ex->St->Option R)->Option R
 | .skip,σ,K=>K .normal σ
 | .region id ops d,σ,K=>match d with
  | false=>HH E id ops.toList ops.toList 0 σ fun σ=>Ns σ (oo E.bx id) fun σ=>K .normal σ
  | true=>Ns σ (oo E.bx id) fun σ=>Qw ops.toList σ (oo E.pd id) fun σ=>CU E id ops.toList (oo E.od id) σ fun σ=>K .normal σ
 | .seq a b,σ,K=>tP E k fin a σ (ay (tP E k fin b) K)
 | .cond c a b,σ,K=>FU (dr σ c) fun c=>match c with
  | true=>tP E k fin a σ K
  | false=>tP E k fin b σ K
 | .block id b,σ,K=>tP E k fin b σ (ag id K)
 | .loop b,σ,K=>Bl (tP E k fin b) (ey (oo E.lv (rY b)) (Ox E.lf (rY b))) K k (ey (oo E.lv (rY b)) (Ox E.lf (rY b)) σ)
 | .scope b,σ,K=>tP E k fin b σ K
 | .exit id,σ,K=>K (.exit id) (xN (oo E.lx id) σ)
 | .ret,σ,_=>fin σ
 | _,_,_=>none
end
def sub:List Nat->Code->Code
 | [],c=>c
 | i::p,.seq a b=>match i with
  | 0=>sub p a
  | _=>sub p b
 | i::p,.cond _ a b=>match i with
  | 0=>sub p a
  | _=>sub p b
 | _::p,.block _ b=>sub p b
 | _::p,.loop b=>sub p b
 | _::p,.scope b=>sub p b
 | _,c=>c
def aq {V R:Type} (B:(V->Option R)->V->Option R):Nat->V->Option R
 | 0,_=>none
 | k+1,v=>B (aq B k) v
theorem av {V R:Type} (F:St->(Ex->St->Option R)->Option R) (kp:St->St) (K:Ex->St->Option R) (σ:V->St) (B:(V->Option R)->V->Option R)
  (h:∀ (rec:St->Option R) (v:V),F (σ v) (ic rec kp K)=B (fun v'=>rec (σ v')) v):∀ (n:Nat) (v:V),Bl F kp K n (σ v)=aq B n v:=by
 intro n
 induction n with
 | zero=>intro v;rfl
 | succ n ih=>
  intro v;show F (σ v) (ic (Bl F kp K n) kp K)=B (aq B n) v;rw[h];have e:(fun v'=>Bl F kp K n (σ v'))=aq B n:=funext ih;rw[e]
end
end OT
namespace OT
open Go
noncomputable section
def il:(ps:List (PM×Ty))->(c8 (ps.map (·.2))).den->List Slot
 | [],_=>[]
 | (.ro,.ptr e)::ps,v=>.cp e v.1::il ps v.2
 | (.fix f,.fn)::ps,v=>.val .fn (f,v.1.2)::il ps v.2
 | (.fix _,_)::ps,v=>.dead::il ps v.2
 | (.ro,t)::ps,v=>.val t v.1::il ps v.2
 | (.py m,t)::ps,v=>.box t m [] v.1::il ps v.2
 | (.nO m,t)::ps,v=>.own t m [] v.1::il ps v.2
 | (.nc m,t)::ps,v=>.own t m [] v.1::il ps v.2
 | (.sB m,t)::ps,v=>.box t m [] v.1::il ps v.2
def y6:Nat->List Slot->List (Nat×Slot)
 | _,[]=>[]
 | i,s::ss=>(i,s)::y6 (i+1) ss
def tX:Nat->List (PM×Ty)->List (Nat×Nat×Bool)
 | _,[]=>[]
 | i,(.py _,_)::ps=>(i,i,false)::tX (i+1) ps
 | i,(.nO _,_)::ps=>(i,i,true)::tX (i+1) ps
 | i,(.sB _,_)::ps=>(i,i,false)::tX (i+1) ps
 | i,_::ps=>tX (i+1) ps
def AU (ps:List (PM×Ty)) (v:(c8 (ps.map (·.2))).den) (n:Nat):St:={ n:=n,sl:=y6 0 (il ps v),vr:=[],aT:=tX 0 ps }
section
variable {R:Type}
def wa (σ:St):Nat->(ps:List (PM×Ty))->List Nat->((c8 (lJ ps)).den->Option R)->Option R
 | _,[],_,K=>K ()
 | j,(.ro,_)::ps,es,K=>wa σ (j+1) ps es K
 | j,(.fix _,_)::ps,es,K=>wa σ (j+1) ps es K
 | j,(.sB _,_)::ps,es,K=>wa σ (j+1) ps es K
 | j,(.nc _,_)::ps,es,K=>wa σ (j+1) ps es K
 | j,(.py m,t)::ps,i::es,K=>match σ.get i with
  | .box t' m' H v=>if H.isEmpty&&(decide (m'=m)||fits m' m)&&AT σ.aT i j false then j_ t' t v fun v=>wa σ (j+1) ps es fun vs=>K (v,vs) else none
  | _=>none
 | j,(.nO m,t)::ps,i::es,K=>match σ.get i with
  | .own t' m' H v | .box t' m' H v=>if H.isEmpty&&(decide (m'=m)||fits m' m)&&AT σ.aT i j true then j_ t' t v fun v=>wa σ (j+1) ps es fun vs=>K (v,vs) else none
  | _=>none
 | _,_,_,_=>none
def FZ (σ:St):ResultVar->Slot
 | .tmp i=>dr σ (.tmp i)
 | .cell a _=>match σ.get a with
  | .box _ _ _ _=>.ref a [] (σ.lw a)
  | _=>.dead
def Oy (σ:St) (ts:List Ty) (mv:Nat->Bool) (fin:St->((c8 ts).den->Option R)->Option R) :
    (rs:List (Ty×Md))->List ResultVar->Nat->((c8 (rs.map (·.1)++ts)).den->Option R)->Option R
 | [],[],_,K=>fin σ K
 | (t,m)::rs,x::xs,j,K=>nD σ (FZ σ x) (mv j) t fun m' v σ'=>
  if m'=m\/fits m' m=true then Oy σ' ts mv fin rs xs (j+1) fun vs=>K (v,vs) else none
 | _,_,_,_=>none
end
def J0 (ps:List (PM×Ty)) (rs:List (Ty×Md)) (es:List Nat) (AV:List ResultVar) (mv:Nat->Bool) (σ:St):Option (c8 (rs.map (·.1)++lJ ps)).den:=
 Oy σ (lJ ps) mv (fun σ K=>wa σ 0 ps es K) rs AV 0 some
def UF (fr:List Nat) (j:Nat):Bool:=!(fr.any (Nat.beq j))
def WJ {R:Type} (fin:St->Option R):Ex->St->Option R
 | .normal,σ=>fin σ
 | .exit _,_=>none
def CW (fn:Func):Code:=match fn.body with
 | some c=>c
 | none=>.refuse ""
abbrev PQ:Type:=List (PM×Ty)
abbrev RQ:Type:=List (Ty×Md)
abbrev TL:Type:=List (Nat×Ty)
abbrev GL:Type:=List (Nat×sC)
abbrev KT (R:Type):Type:=Ex->St->Option R
abbrev RT (R:Type):Type:=St->Option R
def Jv (E:Env) (k:Nat) (fn:Func) (ps:List (PM×Ty)) (rs:List (Ty×Md)) (es fr:List Nat) (v:(c8 (ps.map (·.2))).den):Option (c8 (rs.map (·.1)++lJ ps)).den:=
 tP E k (J0 ps rs es fn.results.toList (UF fr)) (CW fn) (AU ps v fn.ntmps) (WJ (J0 ps rs es fn.results.toList (UF fr)))
def lift {R:Type} (f:Nat->Option R):Option R:=open Classical in if h:∃ out,∃ k,∀ k',k<=k'->f k'=some out then some h.choose else none
theorem ah {R:Type} {f:Nat->Option R} {out:R} {k:Nat} (h:∀ k',k<=k'->f k'=some out):lift f=some out:=by
 have hex:∃ out,∃ k,∀ k',k<=k'->f k'=some out:=⟨out,k,h⟩
 unfold lift;rw[dif_pos hex];obtain ⟨k2,h2⟩:=hex.choose_spec;have e1:=h (max k k2) (Nat.le_max_left _ _);have e2:=h2 (max k k2) (Nat.le_max_right _ _);rw[e1] at e2;exact e2.symm
theorem Qx {R:Type} {f:Nat->Option R} {out:R} (h:lift f=some out):∃ k,f k=some out:=by
 unfold lift at h;split at h
 ·rename_i hex;obtain ⟨k,hk⟩:=hex.choose_spec;injection h with h;exact ⟨k,by rw[<-h];exact hk k (aN _)⟩
 ·cases h
abbrev i64:Ty:=.int .i64
abbrev u8:Ty:=.int .u8
def af (n:Int):Int:=IntKind.wrap .i64 n
end
end OT
set_option linter.unusedVariables false
set_option linter.unusedSimpArgs false
namespace OT
open Go
abbrev FP:=Nat->Nat->Nat
abbrev Cells:=Nat->Nat->Prop
def isAgg:Ty->Bool
 | .unit | .pair _ _ | .arr _ _=>true
 | _=>false
def cg (t:Ty) (cs:List Value):Value:=if isAgg t then .agg cs.toArray else cs.headD undef
def Bm (qE:List (Value×Value)):Value:=.tuple (qE.map fun kv=>Value.tuple #[kv.1,kv.2]).toArray
def entriesOf (es:Array MapEntry):List (Value×Value):=es.toList.map fun e=>(e.key,e.val)
def Oz (u:Value):Option Value:=if u.oneCell' then some u else none
def ce (w:World) (b i:Nat):Option Value:=match w.heap[b]? with
 | some (.map es _)=>if i=0 then some (Bm (entriesOf es)) else none
 | _=>(w.cell? ⟨b,i,none⟩).bind Oz
theorem wX {w w2:World} {b:Nat} (h:w2.heap[b]?=w.heap[b]?) (i:Nat):ce w2 b i=ce w b i:=by simp only[ce,World.cell?,h]
theorem CX {u v:Value} (h:Oz u=some v):v=u/\u.oneCell'=true:=by
 unfold Oz at h;split at h
 ·rename_i hu;injection h with h;exact ⟨h.symm,hu⟩
 ·cases h
theorem qR {w:World} {b i:Nat} {u:Value} (h:ce w b i=some u) (hu:u.oneCell'=true):w.cell? ⟨b,i,none⟩=some u:=by
 unfold ce at h;split at h
 ·split at h
  ·injection h with h;subst h;cases hu
  ·cases h
 ·cases hc:w.cell? ⟨b,i,none⟩ with
  | none=>rw[hc] at h;cases h
  | some v=>
   rw[hc] at h;have:=CX h;rw[this.1]
theorem Ea {w:World} {b i:Nat} {u:Value} (h:w.cell? ⟨b,i,none⟩=some u) (hu:u.oneCell'=true):ce w b i=some u:=by
 have h':=h;unfold World.cell? at h;unfold ce;split at h
 ·rename_i heq;simp only at heq;simp only[heq,h',aB,Oz,hu,aI]
 ·cases h
theorem SX:∀ {a b:List (Value×Value)},Bm a=Bm b->a=b:=by
 have main:∀ (a b:List (Value×Value)),(a.map fun kv=>Value.tuple #[kv.1,kv.2])=(b.map fun kv=>Value.tuple #[kv.1,kv.2])->a=b:=by
  intro a
  induction a with
  | nil=>intro b h;cases b with
   | nil=>rfl
   | cons _ _=>cases h
  | cons x a ih=>
   intro b h
   cases b with
   | nil=>cases h
   | cons y b=>
    simp only[cR,cV] at h;obtain ⟨h1,h2⟩:=h;injection h1 with h1;have h3:=dB Array.toList h1;simp only[cV,eJ] at h3;rw[ih b h2,Prod.ext h3.1 h3.2]
 intro a b h;unfold Bm at h;injection h with h;exact main a b (by simpa using dB Array.toList h)
theorem Qy {w:World} {r:Nat} {qE:List (Value×Value)} (h:ce w r 0=some (Bm qE)):∃ es clock,w.heap[r]?=some (.map es clock)/\entriesOf es=qE:=by
 unfold ce at h;split at h
 ·rename_i es clock heq;simp only[aI] at h;injection h with h;exact ⟨es,clock,heq,SX h⟩
 ·cases hc:w.cell? ⟨r,0,none⟩ with
  | none=>rw[hc] at h;cases h
  | some v=>
   rw[hc] at h;have:=CX h;have h2:=this.2;rw[<-this.1] at h2;cases h2
theorem Qz {w:World} {r:Nat} {es:Array MapEntry} {clock:Nat} (h:w.heap[r]?=some (.map es clock)):ce w r 0=some (Bm (entriesOf es)):=by
 simp only[ce,h,aI]
def Has (w:World) (b o:Nat) (L:List Value):Prop:=∀ j u,L[j]?=some u->ce w b (o+j)=some u
def wY:Ty->Bool
 | .int .u8=>true
 | _=>false
def gc (w:World) (b:Nat) (n:Nat×Bool):Prop:=∃ c e fr,w.heap[b]?=some (.cells c e fr)/\c.size=n.1/\(∀ i,i < n.1->¬ (fr.1<=i/\i < fr.2))/\(n.2=false->¬ (fr.1<=n.1/\n.1 < fr.2))
def b_ (b o n:Nat):FP:=fun b' i=>if b'=b/\o<=i/\i < o+n then 1 else 0
def ba:Nat->(Nat->FP)->FP
 | 0,_=>fun _ _=>0
 | n+1,f=>fun b i=>ba n f b i+f n b i
def fd (f:Nat->FP) (j:Nat) (g:FP):Nat->FP:=fun i=>if i=j then g else f i
theorem qw {n:Nat} {f g:Nat->FP} (h:∀ j,j < n->f j=g j):ba n f=ba n g:=by
 induction n with
 | zero=>rfl
 | succ n ih=>
  funext b i;simp only[ba];rw[ih (fun j hj=>h j (by omega)),h n (by omega)]
theorem sL {n:Nat} (f:Nat->FP) {j:Nat} (hj:j < n) (g:FP) (b i:Nat):ba n (fd f j g) b i+f j b i=ba n f b i+g b i:=by
 induction n with
 | zero=>omega
 | succ n ih=>
  simp only[ba];by_cases h:j=n
  ·subst h;have:ba j (fd f j g)=ba j f:=qw fun k hk=>by simp[fd];omega
   rw[this];simp[fd];omega
  ·have:=ih (by omega);have e:fd f j g n=f n:=by simp[fd];omega
   rw[e];omega
theorem J1 {n:Nat} (f:Nat->FP) {j:Nat} (hj:n<=j) (g:FP):ba n (fd f j g)=ba n f:=
 qw fun k hk=>by simp[fd];omega
theorem c7 {n:Nat} (f:Nat->FP) {j:Nat} (hj:j < n) (b i:Nat):f j b i<=ba n f b i:=by
 induction n with
 | zero=>omega
 | succ n ih=>
  simp only[ba];by_cases h:j=n
  ·subst h;omega
  ·have:=ih (by omega);omega
theorem tY {n:Nat} (f:Nat->FP) {j k:Nat} (hj:j < n) (hk:k < n) (fw:j≠k) (b i:Nat):f j b i+f k b i<=ba n f b i:=by
 have h1:=sL f hj (fun _ _=>0) b i;have h2:=c7 (fd f j fun _ _=>0) hk b i;have e:fd f j (fun _ _=>0) k=f k:=by simp[fd];omega
 rw[e] at h2;simp at h1;omega
theorem nf (n:Nat) (b i:Nat):ba n (fun _ _ _=>0) b i=0:=by
 induction n with
 | zero=>rfl
 | succ n ih=>simp[ba,ih]
theorem sM (n m:Nat) (f:Nat->FP) (b i:Nat):ba (n+m) f b i=ba n f b i+ba m (fun j=>f (n+j)) b i:=by
 induction m with
 | zero=>simp[ba]
 | succ m ih=>rw[<-cE];simp only[ba];rw[ih];omega
theorem HJ {n:Nat} {f g:Nat->FP} (b i:Nat) (h:∀ j,j < n->f j b i<=g j b i):ba n f b i<=ba n g b i:=by
 induction n with
 | zero=>exact aN _
 | succ n ih=>
  simp only[ba];have:=ih fun j hj=>h j (by omega);have:=h n (by omega);omega
theorem Is (n:Nat) (f:Nat->FP) (k m:Nat) (h:k+m<=n) (b i:Nat):ba m (fun j=>f (k+j)) b i<=ba n f b i:=by
 have e:n=k+(m+(n - k - m)):=by omega
 rw[e,sM,sM];omega
theorem J2 {n:Nat} {f:Nat->FP} {b i:Nat} (h:1<=ba n f b i):∃ j,j < n/\1<=f j b i:=by
 induction n with
 | zero=>simp[ba] at h
 | succ n ih=>
  simp only[ba] at h;by_cases h1:1<=ba n f b i
  ·obtain ⟨j,hj,hh⟩:=ih h1;exact ⟨j,by omega,hh⟩
  ·exact ⟨n,by omega,by omega⟩
section
variable (P:Program) (w:World) (A:Cells)
def Ro:(t:Ty)->t.den->List Value->Prop
 | .int k,v,cs=>cs=[.int k (pJ k v)]
 | .bool,v,cs=>cs=[.bool v]
 | .str,v,cs=>cs=[.string ⟨List.toArray v⟩]
 | .unit,_,cs=>cs=[]
 | .pair a b,v,cs=>Ro a v.1 (cs.take a.sz)/\Ro b v.2 (cs.drop a.sz)
 | .arr n e,v,cs=>e.flat=true/\List.length v=n/\cs.length=n*e.sz/\∀ (i:Nat) (x:e.den),v[i]?=some x->Ro e x ((cs.drop (i*e.sz)).take e.sz)
 | .U e,v,cs=>∃ a cap,cs=[.slice a (List.length v) cap]/\List.length v<=cap/\(a=none->List.length v=0)/\∀ ad,a=some ad->(0 < cap->ad.spot=none) /\
   ∀ (i:Nat) (x:e.den),v[i]?=some x->∃ L:List Value,L.length=e.sz/\(∀ j u,L[j]?=some u->ce w ad.block (ad.off+i*e.sz+j)=some u/\A ad.block (ad.off+i*e.sz+j))/\Ro e x L
 | .ptr e,v,cs=>∃ ad,cs=[.pointer (some ad)]/\ad.spot=none /\
   ∃ L:List Value,L.length=e.sz/\(∀ j u,L[j]?=some u->ce w ad.block (ad.off+j)=some u/\A ad.block (ad.off+j))/\Ro e v L
 | .fn,v,cs=>∃ xO,cs=[.func (.func v.1) #[] xO]/\∃ fn,P.funcs[v.1]?=some fn /\
   ((fn.nfree=0/\xO=#[])\/(fn.nfree=1/\∃ ad:Addr,xO=#[.pointer (some ad)]/\ad.spot=none/\ce w ad.block ad.off=some (.int .i64 v.2)/\A ad.block ad.off))
 | .map k v,x,cs=>k.flat=true/\v.flat=true/\∃ (r:Nat) (qE:List (Value×Value)),cs=[.map (some r)]/\ce w r 0=some (Bm qE)/\A r 0/\qE.length=List.length x /\
   ∀ (i:Nat) (y:k.den×v.den),x[i]?=some y->∃ (kc vc:List Value),qE[i]?=some (cg k kc,cg v vc)/\Ro k y.1 kc/\Ro v y.2 vc
def hole (H:List Path):Bool:=H.any (·.isEmpty)
def kZ (i:Nat):Path->Option Path
 | .idx j::p=>if i=j then some p else none
 | _=>none
def an:(t:Ty)->Md->List Path->t.den->List Value->FP->Prop
 | .pair a b,m,H,v,cs,F=>hole H=false/\∃ F1 F2:FP,(∀ x i,F1 x i+F2 x i<=F x i) /\
   an a m.l (H.filterMap u_) v.1 (cs.take a.sz) F1/\an b m.r (H.filterMap va) v.2 (cs.drop a.sz) F2
 | .U e,m,H,v,cs,F=>
   if hole H then ∃ x:Value,cs=[x]/\x.oneCell'=true
   else if m.own then ∃ a cap,cs=[.slice a (List.length v) cap]/\List.length v<=cap/\cap<=maxLen/\(a=none->cap=0)/\∀ ad,a=some ad->ad.off=0/\ad.spot=none /\
    gc w ad.block (cap*e.sz,wY e)/\∃ Fi:Nat->FP,(∀ x i,b_ ad.block 0 (cap*e.sz) x i+ba (List.length v) Fi x i<=F x i) /\
    ∀ (i:Nat) (x:e.den),v[i]?=some x->∃ L:List Value,L.length=e.sz/\Has w ad.block (i*e.sz) L/\an e m.e (H.filterMap (kZ i)) x L (Fi i)
   else H=[]/\m.e.kH=true/\Ro P w A (.U e) v cs
 | .ptr e,m,H,v,cs,F=>
   if hole H then ∃ x:Value,cs=[x]/\x.oneCell'=true
   else if m.own then ∃ b,cs=[.pointer (some ⟨b,0,none⟩)]/\gc w b (e.sz,false)/\∃ (L:List Value) (F1:FP),L.length=e.sz/\Has w b 0 L /\
    (∀ x i,b_ b 0 e.sz x i+F1 x i<=F x i)/\an e m.e [] v L F1
   else H=[]/\m.e.kH=true/\Ro P w A (.ptr e) v cs
 | .int k,_,_,v,cs,_=>Ro P w A (.int k) v cs
 | .bool,_,_,v,cs,_=>Ro P w A .bool v cs
 | .str,_,_,v,cs,_=>Ro P w A .str v cs
 | .unit,_,_,v,cs,_=>Ro P w A .unit v cs
 | .arr n e,_,H,v,cs,_=>H=[]/\Ro P w A (.arr n e) v cs
 | .fn,_,_,v,cs,_=>Ro P w A .fn v cs
 | .map k v,m,H,x,cs,F=>
   if hole H then ∃ x:Value,cs=[x]/\x.oneCell'=true
   else if m.own then k.flat=true/\v.flat=true/\∃ (r:Nat) (qE:List (Value×Value)),cs=[.map (some r)]/\ce w r 0=some (Bm qE)/\1<=F r 0/\qE.length=List.length x /\
    ∀ (i:Nat) (y:k.den×v.den),x[i]?=some y->∃ (kc vc:List Value),qE[i]?=some (cg k kc,cg v vc)/\Ro P w A k y.1 kc/\Ro P w A v y.2 vc
   else H=[]/\m.e.kH=true/\Ro P w A (.map k v) x cs
end
theorem Ro.length {P:Program} {w:World} {A:Cells}:∀ (t:Ty) {v:t.den} {cs:List Value},Ro P w A t v cs->cs.length=t.sz:=by
 intro t
 induction t with
 | pair a b kN kE=>
  intro v cs h;have h1:=kN h.1;have h2:=kE h.2;simp only[bQ,bI] at h1 h2;simp only[Ty.sz];omega
 | arr n e ih=>intro v cs h;exact h.2.2.1
 | U e ih=>rintro v cs ⟨a,cap,rfl,_⟩;rfl
 | ptr e ih=>rintro v cs ⟨a,rfl,_⟩;rfl
 | fn=>rintro v cs ⟨a,rfl,_⟩;rfl
 | map k v=>rintro v cs ⟨_,_,r,qE,rfl,_⟩;rfl
 | unit=>intro v cs h;simp only[Ro] at h;subst h;rfl
 | _=>intro v cs h;simp only[Ro] at h;subst h;rfl
theorem an.length {P:Program} {w:World} {A:Cells}:∀ (t:Ty) {m:Md} {H:List Path} {v:t.den} {cs:List Value} {F:FP},an P w A t m H v cs F->cs.length=t.sz:=by
 intro t
 induction t with
 | pair a b kN kE=>
  intro m H v cs F h;obtain ⟨_,F1,F2,_,h1,h2⟩:=h;have h1:=kN h1;have h2:=kE h2;simp only[bQ,bI] at h1 h2;simp only[Ty.sz];omega
 | U e ih=>
  intro m H v cs F h;simp only[an] at h;split at h
  ·obtain ⟨x,rfl,_⟩:=h;rfl
  ·split at h
   ·obtain ⟨a,cap,rfl,_⟩:=h;rfl
   ·exact Ro.length _ h.2.2
 | ptr e ih=>
  intro m H v cs F h;simp only[an] at h;split at h
  ·obtain ⟨x,rfl,_⟩:=h;rfl
  ·split at h
   ·obtain ⟨a,rfl,_⟩:=h;rfl
   ·exact Ro.length _ h.2.2
 | arr n e ih=>intro m H v cs F h;exact Ro.length _ h.2
 | map k v=>
  intro m H v cs F h;simp only[an] at h;split at h
  ·obtain ⟨x,rfl,_⟩:=h;rfl
  ·split at h
   ·obtain ⟨_,_,r,qE,rfl,_⟩:=h;rfl
   ·exact Ro.length _ h.2.2
 | _=>intro m H v cs F h;exact Ro.length _ h
structure Agr (w w':World) (S:Nat->Nat->Prop):Prop where
 cell:∀ b i,S b i->∀ u,ce w b i=some u->ce w' b i=some u
 tQ:∀ b n,gc w b n->gc w' b n
theorem Ro.mono {P:Program} {w w':World} {A A':Cells} (hc:∀ b i,A b i->∀ u,ce w b i=some u->ce w' b i=some u) (hA:∀ b i,A b i->A' b i) :
  ∀ (t:Ty) {v:t.den} {cs:List Value},Ro P w A t v cs->Ro P w' A' t v cs:=by
 intro t
 induction t with
 | pair a b kN kE=>intro v cs h;exact ⟨kN h.1,kE h.2⟩
 | arr n e ih=>intro v cs h;exact ⟨h.1,h.2.1,h.2.2.1,fun i x hx=>ih (h.2.2.2 i x hx)⟩
 | U e ih=>
  rintro v cs ⟨a,cap,h1,h2,h3,h4⟩;refine ⟨a,cap,h1,h2,h3,fun ad fm=>⟨(h4 ad fm).1,fun i x hx=>?_⟩⟩
  obtain ⟨L,hl,hL,hr⟩:=(h4 ad fm).2 i x hx;exact ⟨L,hl,fun j u hu=>⟨hc _ _ (hL j u hu).2 u (hL j u hu).1,hA _ _ (hL j u hu).2⟩,ih hr⟩
 | ptr e ih=>
  rintro v cs ⟨ad,h1,h2,L,hl,hL,hr⟩;exact ⟨ad,h1,h2,L,hl,fun j u hu=>⟨hc _ _ (hL j u hu).2 u (hL j u hu).1,hA _ _ (hL j u hu).2⟩,ih hr⟩
 | fn=>
  rintro v cs ⟨xO,h1,fn,h2,h3⟩;refine ⟨xO,h1,fn,h2,?_⟩
  rcases h3 with h3 | ⟨h3,ad,h4,h5,h6,h7⟩
  ·exact .inl h3
  ·exact .inr ⟨h3,ad,h4,h5,hc _ _ h7 _ h6,hA _ _ h7⟩
 | map k v UG UH=>
  rintro x cs ⟨h1,h2,r,qE,h3,h4,h5,h6,h7⟩;refine ⟨h1,h2,r,qE,h3,hc _ _ h5 _ h4,hA _ _ h5,h6,fun i y hy=>?_⟩
  obtain ⟨kc,vc,g1,g2,g3⟩:=h7 i y hy;exact ⟨kc,vc,g1,UG g2,UH g3⟩
 | _=>intro v cs h;exact h
theorem an.mono {P:Program} {w w':World} {A A':Cells} (hA:∀ b i,A b i->A' b i) (hc:∀ b i,A b i->∀ u,ce w b i=some u->ce w' b i=some u) (hb:∀ b n,gc w b n->gc w' b n) :
  ∀ (t:Ty) {m:Md} {H:List Path} {v:t.den} {cs:List Value} {F F':FP},an P w A t m H v cs F->(∀ b i,F b i<=F' b i)->(∀ b i,1<=F b i->∀ u,ce w b i=some u->ce w' b i=some u)->an P w' A' t m H v cs F':=by
 intro t
 induction t with
 | pair a b kN kE=>
  intro m H v cs F F' h hF wb;obtain ⟨h0,F1,F2,hs,h1,h2⟩:=h
  exact ⟨h0,F1,F2,fun x i=>bJ (hs x i) (hF x i),kN h1 (fun _ _=>aN _) (fun b i hp=>wb b i (by have:=hs b i;omega)),
   kE h2 (fun _ _=>aN _) (fun b i hp=>wb b i (by have:=hs b i;omega))⟩
 | U e ih=>
  intro m H v cs F F' h hF wb;simp only[an] at h ⊢;split at h
  ·rename_i hh;rw[aU hh];exact h
  ·rename_i hh;rw[bA hh];split at h
   ·rename_i hm;rw[aU hm];obtain ⟨a,cap,h1,h2,h3,h4,h5⟩:=h;refine ⟨a,cap,h1,h2,h3,h4,fun ad fm=>?_⟩
    obtain ⟨g1,g2,g3,Fi,g4,g5⟩:=h5 ad fm;refine ⟨g1,g2,hb _ _ g3,Fi,fun x i=>bJ (g4 x i) (hF x i),fun i x hx=>?_⟩
    obtain ⟨L,hl,hL,hr⟩:=g5 i x hx;have hi:i < List.length v:=(aM.1 hx).1;refine ⟨L,hl,fun j u hu=>wb _ _ ?_ u (hL j u hu),ih hr (fun _ _=>aN _) (fun b k hp=>wb b k ?_)⟩
    ·have:=g4 ad.block (i*e.sz+j);have hj:j < e.sz:=hl ▸ (aM.1 hu).1
     have:i*e.sz+j < cap*e.sz:=by
      have h1:(i+1)*e.sz<=cap*e.sz:=bD _ (by omega);rw[cI] at h1;omega
     simp[b_,this] at *;omega
    ·have h1:=g4 b k;have h2:=c7 Fi hi b k;omega
   ·rename_i hm;rw[bA hm];exact ⟨h.1,h.2.1,Ro.mono hc hA _ h.2.2⟩
 | ptr e ih=>
  intro m H v cs F F' h hF wb;simp only[an] at h ⊢;split at h
  ·rename_i hh;rw[aU hh];exact h
  ·rename_i hh;rw[bA hh];split at h
   ·rename_i hm;rw[aU hm];obtain ⟨b,h1,h2,L,F1,h3,h4,h5,h6⟩:=h;refine ⟨b,h1,hb _ _ h2,L,F1,h3,fun j u hu=>wb _ _ ?_ u (h4 j u hu),fun x i=>bJ (h5 x i) (hF x i),ih h6 (fun _ _=>aN _) (fun b' k hp=>wb b' k ?_)⟩
    ·have:=h5 b (0+j);have hj:j < e.sz:=h3 ▸ (aM.1 hu).1;simp[b_,hj] at *;omega
    ·have:=h5 b' k;omega
   ·rename_i hm;rw[bA hm];exact ⟨h.1,h.2.1,Ro.mono hc hA _ h.2.2⟩
 | arr n e ih=>intro m H v cs F F' h hF wb;exact ⟨h.1,Ro.mono hc hA _ h.2⟩
 | map k v UG UH=>
  intro m H x cs F F' h hF wb;simp only[an] at h ⊢;split at h
  ·rename_i hh;rw[aU hh];exact h
  ·rename_i hh;rw[bA hh];split at h
   ·rename_i hm;rw[aU hm];obtain ⟨h1,h2,r,qE,h3,h4,h5,h6,h7⟩:=h;refine ⟨h1,h2,r,qE,h3,wb _ _ h5 _ h4,bJ h5 (hF r 0),h6,fun i y hy=>?_⟩
    obtain ⟨kc,vc,g1,g2,g3⟩:=h7 i y hy;exact ⟨kc,vc,g1,Ro.mono hc hA k g2,Ro.mono hc hA v g3⟩
   ·rename_i hm;rw[bA hm];exact ⟨h.1,h.2.1,Ro.mono hc hA _ h.2.2⟩
 | _=>intro m H v cs F F' h hF wb;exact Ro.mono hc hA _ h
theorem an.le {P:Program} {w:World} {A:Cells} {t:Ty} {m:Md} {H:List Path} {v:t.den} {cs:List Value} {F F':FP} (h:an P w A t m H v cs F) (hF:∀ b i,F b i<=F' b i):an P w A t m H v cs F':=
 an.mono (fun _ _ h=>h) (fun _ _ _ _ h=>h) (fun _ _ h=>h) t h hF (fun _ _ _ _ h=>h)
theorem an.wc {P:Program} {w:World} {A A':Cells} (hA:∀ b i,A b i->A' b i) :
  ∀ (t:Ty) {m:Md} {v:t.den} {cs:List Value} {F:FP},an P w A t m [] v cs F->(∀ b i,1<=F b i->A' b i)->Ro P w A' t v cs:=by
 intro t
 induction t with
 | pair a b kN kE=>
  intro m v cs F h hF;obtain ⟨h0,F1,F2,hs,h1,h2⟩:=h;exact ⟨kN h1 (fun b i hp=>hF b i (by have:=hs b i;omega)),kE h2 (fun b i hp=>hF b i (by have:=hs b i;omega))⟩
 | U e ih=>
  intro m v cs F h hF;simp only[an,hole,bT,aG,aL] at h;split at h
  ·obtain ⟨a,cap,h1,h2,h3,h4,h5⟩:=h;refine ⟨a,cap,h1,h2,fun hn=>by have:=h4 hn;omega,fun ad fm=>?_⟩
   obtain ⟨g1,g2,g3,Fi,g4,g5⟩:=h5 ad fm;refine ⟨fun _=>g2,fun i x hx=>?_⟩
   obtain ⟨L,hl,hL,hr⟩:=g5 i x hx;have hi:i < List.length v:=(aM.1 hx).1;refine ⟨L,hl,fun j u hu=>?_,ih hr fun b k hp=>hF b k ?_⟩
   ·rw[g1,bE];refine ⟨hL j u hu,hF _ _ ?_⟩
    have:=g4 ad.block (i*e.sz+j);have hj:j < e.sz:=hl ▸ (aM.1 hu).1
    have:i*e.sz+j < cap*e.sz:=by
     have h1:(i+1)*e.sz<=cap*e.sz:=bD _ (by omega);rw[cI] at h1;omega
    simp[b_,this] at *;omega
   ·have h1:=g4 b k;have h2:=c7 Fi hi b k;omega
  ·exact Ro.mono (fun _ _ _ _ h=>h) hA _ h.2.2
 | ptr e ih=>
  intro m v cs F h hF;simp only[an,hole,bT,aG,aL] at h;split at h
  ·obtain ⟨b,h1,h2,L,F1,h3,h4,h5,h6⟩:=h;refine ⟨_,h1,rfl,L,h3,fun j u hu=>⟨h4 j u hu,hF _ _ ?_⟩,ih h6 fun b' k hp=>hF _ _ ?_⟩
   ·have:=h5 b (0+j);have hj:j < e.sz:=h3 ▸ (aM.1 hu).1;simp[b_,hj] at *;omega
   ·have:=h5 b' k;omega
  ·exact Ro.mono (fun _ _ _ _ h=>h) hA _ h.2.2
 | arr n e ih=>intro m v cs F h hF;exact Ro.mono (fun _ _ _ _ h=>h) hA _ h.2
 | map k v UG UH=>
  intro m x cs F h hF;simp only[an,hole,bT,aG,aL] at h;split at h
  ·obtain ⟨h1,h2,r,qE,h3,h4,h5,h6,h7⟩:=h;refine ⟨h1,h2,r,qE,h3,h4,hF _ _ h5,h6,fun i y hy=>?_⟩
   obtain ⟨kc,vc,g1,g2,g3⟩:=h7 i y hy;exact ⟨kc,vc,g1,Ro.mono (fun _ _ _ _ h=>h) hA k g2,Ro.mono (fun _ _ _ _ h=>h) hA v g3⟩
  ·exact Ro.mono (fun _ _ _ _ h=>h) hA _ h.2.2
 | _=>intro m v cs F h hF;exact Ro.mono (fun _ _ _ _ h=>h) hA _ h
end OT
set_option linter.unusedVariables false
set_option linter.unusedSimpArgs false
namespace OT
open Go
theorem Nt {m:Md} (h:m.kH=true):m.l.kH=true:=by cases m <;> simp_all [Md.kH,Md.l]
theorem Nu {m:Md} (h:m.kH=true):m.r.kH=true:=by cases m <;> simp_all [Md.kH,Md.r]
theorem HK {m:Md} (h:m.kH=true):m.e.kH=true:=by cases m <;> simp_all [Md.kH,Md.e]
theorem vJ {m:Md} (h:m.kH=true):m.own=false:=by cases m <;> simp_all [Md.kH,Md.own]
theorem gm (t:Ty):(az t).kH=true:=by
 induction t <;> simp_all [az,sK,Md.kH]
theorem WK {m m1:Md} (h:fits m m1=true):fits m.l m1.l=true:=by cases m <;> cases m1 <;> simp_all [fits,Md.l]
theorem WL {m m1:Md} (h:fits m m1=true):fits m.r m1.r=true:=by cases m <;> cases m1 <;> simp_all [fits,Md.r]
theorem QA {m m1:Md} (h:fits m m1=true):fits m.e m1.e=true:=by cases m <;> cases m1 <;> simp_all [fits,Md.e]
theorem E3 {m m1:Md} (h:fits m m1=true):m1.own=true->m.own=true:=by
 intro h1;cases m <;> cases m1 <;> simp_all [fits,Md.own]
theorem HL {m m1:Md} (h:fits m m1=true) (h1:m1.own=false):m1.e.kH=true\/∃ e,m1=.arr e:=by
 cases m <;> cases m1 <;> simp_all [fits,Md.own,Md.e,Md.kH]
theorem Bn:∀ {m m1:Md},fits m m1=true->m.kH=true->m1.kH=true:=by
 intro m
 induction m with
 | leaf=>intro m1 h hn;cases m1 <;> simp_all [fits,Md.kH]
 | pair a b kN kE=>
  intro m1 h hn
  cases m1 with
  | pair c d=>simp only[fits,Md.kH,aF] at *;exact ⟨kN h.1 hn.1,kE h.2 hn.2⟩
  | _=>simp[fits] at h
 | arr e ih=>
  intro m1 h hn
  cases m1 with
  | arr d=>simp only[fits,Md.kH] at *;exact ih h hn
  | _=>simp[fits] at h
 | U o e ih=>
  intro m1 h hn
  cases m1 with
  | U o' d=>
   simp only[fits,Md.kH,aF,cX,cM] at *;rw[hn.1] at h;exact ⟨by rcases h.1.1 with h | h;exact absurd h (by simp);exact h,ih h.2 hn.2⟩
  | _=>simp[fits] at h
 | ptr o e ih=>
  intro m1 h hn
  cases m1 with
  | ptr o' d=>
   simp only[fits,Md.kH,aF,cX,cM] at *;rw[hn.1] at h;exact ⟨by rcases h.1.1 with h | h;exact absurd h (by simp);exact h,ih h.2 hn.2⟩
  | _=>simp[fits] at h
section
variable {P:Program} {w:World} {A:Cells}
theorem Ro.rep:∀ (t:Ty) {m:Md} {v:t.den} {cs:List Value} (F:FP),m.kH=true->Ro P w A t v cs->an P w A t m [] v cs F:=by
 intro t
 induction t with
 | pair a b kN kE=>
  intro m v cs F hm h;exact ⟨rfl,fun _ _=>0,fun _ _=>0,fun _ _=>aW _,kN _ (Nt hm) h.1,kE _ (Nu hm) h.2⟩
 | U e ih=>intro m v cs F hm h;simp only[an,hole,bT,aG,aL,vJ hm];exact ⟨trivial,HK hm,h⟩
 | ptr e ih=>intro m v cs F hm h;simp only[an,hole,bT,aG,aL,vJ hm];exact ⟨trivial,HK hm,h⟩
 | arr n e ih=>intro m v cs F hm h;exact ⟨rfl,h⟩
 | map k v=>intro m x cs F hm h;simp only[an,hole,bT,aG,aL,vJ hm];exact ⟨trivial,HK hm,h⟩
 | _=>intro m v cs F hm h;exact h
theorem an.ro:∀ (t:Ty) {m:Md} {v:t.den} {cs:List Value} {F:FP},m.kH=true->an P w A t m [] v cs F->Ro P w A t v cs:=by
 intro t
 induction t with
 | pair a b kN kE=>
  intro m v cs F hm h;obtain ⟨_,F1,F2,_,h1,h2⟩:=h;exact ⟨kN (Nt hm) h1,kE (Nu hm) h2⟩
 | U e ih=>intro m v cs F hm h;simp only[an,hole,bT,aG,aL,vJ hm] at h;exact h.2.2
 | ptr e ih=>intro m v cs F hm h;simp only[an,hole,bT,aG,aL,vJ hm] at h;exact h.2.2
 | arr n e ih=>intro m v cs F hm h;exact h.2
 | map k v=>intro m x cs F hm h;simp only[an,hole,bT,aG,aL,vJ hm] at h;exact h.2.2
 | _=>intro m v cs F hm h;exact h
theorem Ro.flat:∀ (t:Ty) {m:Md} {v:t.den} {cs:List Value} (F:FP),t.flat=true->Ro P w A t v cs->an P w A t m [] v cs F:=by
 intro t
 induction t with
 | pair a b kN kE=>
  intro m v cs F hm h;simp only[Ty.flat,aF] at hm;exact ⟨rfl,fun _ _=>0,fun _ _=>0,fun _ _=>aW _,kN _ hm.1 h.1,kE _ hm.2 h.2⟩
 | U e ih=>intro m v cs F hm;simp[Ty.flat] at hm
 | ptr e ih=>intro m v cs F hm;simp[Ty.flat] at hm
 | arr n e ih=>intro m v cs F hm h;exact ⟨rfl,h⟩
 | map k v=>intro m v cs F hm;simp[Ty.flat] at hm
 | _=>intro m v cs F hm h;exact h
theorem an.flat:∀ (t:Ty) {m:Md} {H:List Path} {v:t.den} {cs:List Value} {F:FP},t.flat=true->an P w A t m H v cs F->Ro P w A t v cs:=by
 intro t
 induction t with
 | pair a b kN kE=>
  intro m H v cs F hm h;simp only[Ty.flat,aF] at hm;obtain ⟨_,F1,F2,_,h1,h2⟩:=h;exact ⟨kN hm.1 h1,kE hm.2 h2⟩
 | U e ih=>intro m H v cs F hm;simp[Ty.flat] at hm
 | ptr e ih=>intro m H v cs F hm;simp[Ty.flat] at hm
 | arr n e ih=>intro m H v cs F hm h;exact h.2
 | map k v=>intro m H v cs F hm;simp[Ty.flat] at hm
 | _=>intro m H v cs F hm h;exact h
theorem an.fits:∀ (t:Ty) {m m1:Md} {v:t.den} {cs:List Value} {F:FP},fits m m1=true->an P w A t m [] v cs F->(∀ b i,F b i<=1) ->
  ∃ F1:FP,(∀ b i,F1 b i<=F b i)/\∀ A':Cells,(∀ b i,A b i->A' b i)->(∀ b i,1<=F b i->F1 b i=0->A' b i)->an P w A' t m1 [] v cs F1:=by
 intro t
 induction t with
 | pair a b kN kE=>
  intro m m1 v cs F hf h hF;obtain ⟨_,Fa,Fb,hs,h1,h2⟩:=h;obtain ⟨G1,ZS,k1⟩:=kN (WK hf) h1 (fun b i=>by have:=hs b i;have:=hF b i;omega);obtain ⟨G2,ZT,k2⟩:=kE (WL hf) h2 (fun b i=>by have:=hs b i;have:=hF b i;omega);refine ⟨fun b i=>G1 b i+G2 b i,fun b i=>by have:=hs b i;have:=ZS b i;have:=ZT b i;show G1 b i+G2 b i<=_;omega,fun A' hA n_=>⟨rfl,G1,G2,fun _ _=>aN _,k1 A' hA fun b i hp hz=>?_,k2 A' hA fun b i hp hz=>?_⟩⟩
  ·have:=hs b i;have:=hF b i;have:=ZT b i
   exact n_ b i (by omega) (by show G1 b i+G2 b i=0;omega)
  ·have:=hs b i;have:=hF b i;have:=ZS b i
   exact n_ b i (by omega) (by show G1 b i+G2 b i=0;omega)
 | U e ih=>
  intro m m1 v cs F hf h hF;by_cases vK:m1.own=true
  ·have hm:=E3 hf vK;simp only[an,hole,bT,aG,aL,hm,aI] at h;obtain ⟨a,cap,h1,h2,h3,h4,h5⟩:=h
   cases a with
   | none=>
    refine ⟨fun _ _=>0,fun _ _=>aW _,fun A' hA n_=>?_⟩
    simp only[an,hole,bT,aG,aL,vK,aI];exact ⟨none,cap,h1,h2,h3,h4,fun ad fm=>by cases fm⟩
   | some ad=>
    obtain ⟨g1,g2,g3,Fi,g4,g5⟩:=h5 ad rfl
    have each:∀ i,∃ Gi:FP,(∀ b k,Gi b k<=Fi i b k)/\∀ A':Cells,(∀ b i,A b i->A' b i)->(∀ b k,1<=Fi i b k->Gi b k=0->A' b k) ->
      ∀ x,v[i]?=some x->∃ L:List Value,L.length=e.sz/\Has w ad.block (i*e.sz) L/\an P w A' e m1.e (([]:List Path).filterMap (kZ i)) x L Gi:=by
     intro i
     cases hx:(v:List e.den)[i]? with
     | none=>exact ⟨fun _ _=>0,fun _ _=>aW _,fun A' _ _ x F7=>by cases F7⟩
     | some x=>
      obtain ⟨L,hl,hL,hr⟩:=g5 i x hx;have hi:i < List.length v:=(aM.1 hx).1;obtain ⟨G,hG,k⟩:=ih (QA hf) hr (fun b k=>by have:=c7 Fi hi b k;have:=g4 b k;have:=hF b k;omega);exact ⟨G,hG,fun A' hA n_ x' F7=>by injection F7 with F7;subst F7;exact ⟨L,hl,hL,k A' hA n_⟩⟩
    have ⟨Gi,UI⟩:=hY each;refine ⟨fun b k=>b_ ad.block 0 (cap*e.sz) b k+ba (List.length v) Gi b k,fun b k=>?_,fun A' hA n_=>?_⟩
    ·have:=g4 b k;have:=HJ b k (f:=Gi) (g:=Fi) (n:=List.length v) fun j _=>(UI j).1 b k
     show b_ ad.block 0 (cap*e.sz) b k+ba (List.length v) Gi b k<=_;omega
    ·simp only[an,hole,bT,aG,aL,vK,aI];refine ⟨some ad,cap,h1,h2,h3,h4,fun cr E4=>?_⟩
     injection E4 with E4;subst E4;refine ⟨g1,g2,g3,Gi,fun _ _=>aN _,fun i x hx=>(UI i).2 A' hA (fun b k hp hz=>?_) x hx⟩
     have hi:i < List.length v:=(aM.1 hx).1;have h1:=g4 b k;have h2:=hF b k;have h3:=c7 Fi hi b k
     refine n_ b k (by omega) ?_;show b_ ad.block 0 (cap*e.sz) b k+ba (List.length v) Gi b k=0
     have:ba (List.length v) Gi b k=0:=by
      rcases bF (ba (List.length v) Gi b k) with h0 | h0
      ·exact h0
      ·obtain ⟨j,hj,ZU⟩:=J2 h0;have:=(UI j).1 b k;by_cases mZ:j=i
       ·subst mZ;omega
       ·have:=tY Fi hj hi mZ b k;omega
     omega
  ·have CY:m1.own=false:=by simpa using vK
   have qt:m1.e.kH=true:=by
    rcases HL hf CY with h | ⟨e',rfl⟩
    ·exact h
    ·cases m <;> simp[OT.fits] at hf;simp only[an,hole,bT,aG,aL,Md.own] at h;exact Bn hf h.2.1
   refine ⟨fun _ _=>0,fun _ _=>aW _,fun A' hA n_=>?_⟩
   have so:=an.wc hA _ h (fun b i hp=>n_ b i hp rfl);simp only[an,hole,bT,aG,aL,CY];exact ⟨trivial,qt,so⟩
 | ptr e ih=>
  intro m m1 v cs F hf h hF;by_cases vK:m1.own=true
  ·have hm:=E3 hf vK;simp only[an,hole,bT,aG,aL,hm,aI] at h;obtain ⟨b,h1,h2,L,F1,h3,h4,h5,h6⟩:=h;obtain ⟨G,hG,k⟩:=ih (QA hf) h6 (fun b' i=>by have:=h5 b' i;have:=hF b' i;omega);refine ⟨fun b' k=>b_ b 0 e.sz b' k+G b' k,fun b' k=>by have:=h5 b' k;have:=hG b' k;show b_ b 0 e.sz b' k+G b' k<=_;omega,fun A' hA n_=>?_⟩
   simp only[an,hole,bT,aG,aL,vK,aI];refine ⟨b,h1,h2,L,G,h3,h4,fun _ _=>aN _,k A' hA fun b' i hp hz=>n_ b' i ?_ ?_⟩
   ·have:=h5 b' i;omega
   ·have:=h5 b' i;have:=hF b' i
    show b_ b 0 e.sz b' i+G b' i=0;omega
  ·have CY:m1.own=false:=by simpa using vK
   have qt:m1.e.kH=true:=by
    rcases HL hf CY with h | ⟨e',rfl⟩
    ·exact h
    ·cases m <;> simp[OT.fits] at hf;simp only[an,hole,bT,aG,aL,Md.own] at h;exact Bn hf h.2.1
   refine ⟨fun _ _=>0,fun _ _=>aW _,fun A' hA n_=>?_⟩
   have so:=an.wc hA _ h (fun b i hp=>n_ b i hp rfl);simp only[an,hole,bT,aG,aL,CY];exact ⟨trivial,qt,so⟩
 | arr n e ih=>intro m m1 v cs F hf h hF;exact ⟨fun _ _=>0,fun _ _=>aW _,fun A' hA n_=>⟨rfl,Ro.mono (fun _ _ _ _ h=>h) hA _ h.2⟩⟩
 | map k v UG UH=>
  intro m m1 x cs F hf h hF;by_cases vK:m1.own=true
  ·have hm:=E3 hf vK;simp only[an,hole,bT,aG,aL,hm,aI] at h;obtain ⟨h1,h2,r,qE,h3,h4,h5,h6,h7⟩:=h;refine ⟨F,fun _ _=>aN _,fun A' hA n_=>?_⟩
   simp only[an,hole,bT,aG,aL,vK,aI];refine ⟨h1,h2,r,qE,h3,h4,h5,h6,fun i y hy=>?_⟩
   obtain ⟨kc,vc,g1,g2,g3⟩:=h7 i y hy;exact ⟨kc,vc,g1,Ro.mono (fun _ _ _ _ h=>h) hA k g2,Ro.mono (fun _ _ _ _ h=>h) hA v g3⟩
  ·have CY:m1.own=false:=by simpa using vK
   have qt:m1.e.kH=true:=by
    rcases HL hf CY with h | ⟨e',rfl⟩
    ·exact h
    ·cases m <;> simp[OT.fits] at hf;simp only[an,hole,bT,aG,aL,Md.own] at h;exact Bn hf h.2.1
   refine ⟨fun _ _=>0,fun _ _=>aW _,fun A' hA n_=>?_⟩
   have so:=an.wc hA _ h (fun b i hp=>n_ b i hp rfl);simp only[an,hole,bT,aG,aL,CY];exact ⟨trivial,qt,so⟩
 | _=>intro m m1 v cs F hf h hF;exact ⟨fun _ _=>0,fun _ _=>aW _,fun A' hA n_=>Ro.mono (fun _ _ _ _ h=>h) hA _ h⟩
end
end OT
set_option linter.unusedVariables false
set_option linter.unusedSimpArgs false
namespace OT
open Go
def rd (w:World) (b o n:Nat):List Value:=(List.range n).map fun j=>(ce w b (o+j)).getD undef
theorem xx (w:World) (b o n:Nat):(rd w b o n).length=n:=by simp[rd]
theorem dt {w:World} {b o:Nat} {L:List Value} {n:Nat} (h:Has w b o L) (hn:L.length=n):rd w b o n=L:=by
 subst hn;apply fQ;intro j;unfold rd;rw[eK];by_cases hj:j < L.length
 ·rw[iU hj];have:=h j L[j] (aA hj);simp[this,aA hj]
 ·simp[cW (fP hj),cW (l:=List.range L.length) (by simpa using fP hj)]
structure Pl where
 t:Ty
 H:List Path
 cs:List Value
 ad:Option (Nat×Nat)
def gd (ad:Option (Nat×Nat)) (k:Nat):Option (Nat×Nat):=ad.map fun x=>(x.1,x.2+k)
def bh (w:World):Path->Ty->List Path->List Value->Option (Nat×Nat)->Option Pl
 | [],t,H,cs,ad=>some ⟨t,H,cs,ad⟩
 | .fst::p,.pair a _,H,cs,ad=>if hole H then none else bh w p a (H.filterMap u_) (cs.take a.sz) ad
 | .snd::p,.pair a b,H,cs,ad=>if hole H then none else bh w p b (H.filterMap va) (cs.drop a.sz) (gd ad a.sz)
 | .idx i::p,.U e,H,cs,_=>if hole H then none else match cs with
  | [.slice (some a) n _]=>if i < n then bh w p e (H.filterMap (kZ i)) (rd w a.block (a.off+i*e.sz) e.sz) (some (a.block,a.off+i*e.sz)) else none
  | _=>none
 | .o4 i::p,.arr n e,H,cs,ad=>if H.isEmpty then (if i < n then bh w p e [] ((cs.drop (i*e.sz)).take e.sz) (gd ad (i*e.sz)) else none) else none
 | _,_,_,_,_=>none
def vp:Ty->Bool
 | .U _ | .map _ _=>true
 | _=>false
def rr (d:Nat) (full:Prop) (w:World) (t:Ty) (H:List Path) (cs:List Value) (ad:Option (Nat×Nat)) (w2:World) (H2:List Path) (c9:List Value):Prop:=
 ∀ q pl,dh q<=d->bh w q t H cs ad=some pl->∃ H' br,bh w2 q t H2 c9 ad=some ⟨pl.t,H',br,pl.ad⟩/\((dh q < d/\vp pl.t=true)\/full->br=pl.cs)
theorem CZ {R:Type} {H:List Path} {i:Nat} {K:List Path->Option R} {r:R} (h:wW H i K=some r) :
  K (H.filterMap (kZ i))=some r/\(∀ j,j≠i->H.filterMap (kZ j)=[])/\hole H=false:=by
 unfold wW at h;split at h
 ·exact ⟨h,fun _ _=>rfl,rfl⟩
 ·rename_i j q;split at h
  ·rename_i oD;subst oD;refine ⟨by simpa [kZ] using h,fun j hj=>by simp[kZ,hj],rfl⟩
  ·cases h
 ·cases h
theorem Bo {R S:Type} {H:List Path} {i:Nat} {K:List Path->Option R} {r:R} (h:wW H i K=some r) (K2:List Path->Option S) :
  wW H i K2=K2 (H.filterMap (kZ i)):=by
 unfold wW at h ⊢;split at h
 ·rfl
 ·rename_i j q;split at h
  ·rename_i oD;subst oD;simp[kZ]
  ·cases h
 ·cases h
theorem tk (H:List Path):(H.map (.fst::·)).filterMap u_=H:=by
 induction H with
 | nil=>rfl
 | cons a H ih=>simp only[cR,dC,u_,ih]
theorem tm (H:List Path):(H.map (.snd::·)).filterMap va=H:=by
 induction H with
 | nil=>rfl
 | cons a H ih=>simp only[cR,dC,va,ih]
theorem tZ (H:List Path):(H.map (.snd::·)).filterMap u_=[]:=by
 induction H with
 | nil=>rfl
 | cons a H ih=>simp[u_] at *
theorem t6 (H:List Path):(H.map (.fst::·)).filterMap va=[]:=by
 induction H with
 | nil=>rfl
 | cons a H ih=>simp[va] at *
theorem Cx (i:Nat) (H:List Path):(H.map (.idx i::·)).filterMap (kZ i)=H:=by
 induction H with
 | nil=>rfl
 | cons a H ih=>simp only[cR,dC,kZ,aI,ih]
theorem y8 {i j:Nat} (h:j≠i) (H:List Path):(H.map (.idx i::·)).filterMap (kZ j)=[]:=by
 induction H with
 | nil=>rfl
 | cons a H ih=>simp[kZ,h] at *
theorem qp (s:Step) (H:List Path):hole (H.map (s::·))=false:=by
 induction H with
 | nil=>rfl
 | cons a H ih=>simp[hole] at *
theorem rZ (H1 H2:List Path):hole (H1++H2)=(hole H1||hole H2):=by simp[hole]
theorem YP {w:World}:∀ (q:Path) (t:Ty) {H H2:List Path} {cs:List Value} {ad:Option (Nat×Nat)} {pl F8:Pl},bh w q t H cs ad=some pl->bh w q t H2 cs ad=some F8->F8.t=pl.t/\F8.cs=pl.cs/\F8.ad=pl.ad:=by
 intro q
 induction q with
 | nil=>intro t H H2 cs ad pl F8 h h2;simp only[bh,aR] at h h2;subst h;subst h2;exact ⟨rfl,rfl,rfl⟩
 | cons s q ih=>
  intro t H H2 cs ad pl F8 h h2
  cases t with
  | pair a b=>
   cases s with
   | fst=>simp only[bh] at h h2;split at h;cases h;split at h2;cases h2;exact ih a h h2
   | snd=>simp only[bh] at h h2;split at h;cases h;split at h2;cases h2;exact ih b h h2
   | _=>simp[bh] at h
  | U e=>
   cases s with
   | idx i=>
    simp only[bh] at h h2;split at h
    ·cases h
    ·split at h2
     ·cases h2
     ·split at h
      ·split at h
       ·rename_i hi;simp only[hi,aI] at h2;exact ih e h h2
       ·cases h
      ·cases h
   | _=>simp[bh] at h
  | arr n e=>
   cases s with
   | o4 i=>
    simp only[bh] at h h2;split at h
    ·split at h
     ·split at h2
      ·exact ih e h h2
      ·cases h2
     ·cases h
    ·cases h
   | _=>simp[bh] at h
  | _=>cases s <;> simp[bh] at h
section
variable {P:Program}
theorem vL {w w2:World} {A:Cells} (hA:∀ b i,A b i->∀ u,ce w b i=some u->ce w2 b i=some u) :
  ∀ (q:Path) (t:Ty) {m:Md} {H:List Path} {v:t.den} {cs:List Value} {F:FP} {ad:Option (Nat×Nat)} {pl:Pl},an P w A t m H v cs F->(∀ b i,1<=F b i->∀ u,ce w b i=some u->ce w2 b i=some u) ->
  bh w q t H cs ad=some pl->bh w2 q t H cs ad=some pl:=by
 intro q
 induction q with
 | nil=>intro t m H v cs F ad pl _ _ h;exact h
 | cons s q ih=>
  intro t m H v cs F ad pl hr hF h
  cases t with
  | pair a b=>
   obtain ⟨h0,F1,F2,hs,h1,h2⟩:=hr
   cases s with
   | fst=>simp only[bh,h0,aL] at h ⊢;exact ih a h1 (fun b i hp=>hF b i (by have:=hs b i;omega)) h
   | snd=>simp only[bh,h0,aL] at h ⊢;exact ih b h2 (fun b i hp=>hF b i (by have:=hs b i;omega)) h
   | idx i=>simp[bh] at h
   | o4 i=>simp[bh] at h
  | U e=>
   cases s with
   | fst=>simp[bh] at h
   | snd=>simp[bh] at h
   | o4 i=>simp[bh] at h
   | idx i=>
    simp only[an] at hr;simp only[bh] at h ⊢;split at h
    ·cases h
    ·rename_i hh;rw[bA hh];rw[bA hh] at hr;split at hr
     ·obtain ⟨a,cap,rfl,h2,h3,h4,h5⟩:=hr
      cases a with
      | none=>cases h
      | some ff=>
       obtain ⟨g1,g2,g3,Fi,g4,g5⟩:=h5 ff rfl;simp only at h ⊢;split at h
       ·rename_i hi;rw[aU hi];obtain ⟨L,hl,hL,fa⟩:=g5 i _ (aA hi);have aj:(i+1)*e.sz<=cap*e.sz:=bD _ (by omega);rw[cI] at aj
        have hL2:Has w2 ff.block (i*e.sz) L:=fun j u hu=>by
         have hj:j < e.sz:=hl ▸ (aM.1 hu).1;refine hF _ _ ?_ u (hL j u hu);have:=g4 ff.block (i*e.sz+j);have h0:i*e.sz+j < cap*e.sz:=by omega
         simp[b_,h0] at this;omega
        rw[g1,bE,dt hL hl] at h;rw[g1,bE,dt hL2 hl];exact ih e fa (fun b k hp=>hF b k (by have:=g4 b k;have:=c7 Fi hi b k;omega)) h
       ·cases h
     ·obtain ⟨rfl,qt,a,cap,rfl,h2,h3,h4⟩:=hr
      cases a with
      | none=>cases h
      | some ff=>
       simp only at h ⊢;split at h
       ·rename_i hi;rw[aU hi];obtain ⟨L,hl,hL,fa⟩:=(h4 ff rfl).2 i _ (aA hi);rw[dt (fun j u hu=>(hL j u hu).1) hl] at h;rw[dt (fun j u hu=>hA _ _ (hL j u hu).2 u (hL j u hu).1) hl];exact ih e (Ro.rep e (fun _ _=>0) qt fa) (fun b k hp=>by simp at hp) h
       ·cases h
  | arr n e=>
   cases s with
   | fst=>simp[bh] at h
   | snd=>simp[bh] at h
   | idx i=>simp[bh] at h
   | o4 i=>
    obtain ⟨rfl,hf,hl,hlen,hr⟩:=hr;simp only[bh,cS,aI] at h ⊢;split at h
    ·rename_i hi;rw[aU hi];exact ih e (Ro.flat e (m:=.leaf) (fun _ _=>0) hf (hr i _ (aA (by rw[hl];exact hi)))) (fun b k hp=>by simp at hp) h
    ·cases h
  | _=>cases s <;> simp[bh] at h
theorem QB {w:World} {A:Cells} {S:Nat->Nat->Prop} (hA:∀ b i,A b i->S b i) :
  ∀ (q:Path) (t:Ty) {m:Md} {H:List Path} {v:t.den} {cs:List Value} {F:FP} {ad:Option (Nat×Nat)} {pl:Pl},an P w A t m H v cs F->(∀ b i,1<=F b i->S b i) ->
  (∀ b o,ad=some (b,o)->∀ j,j < t.sz->S b (o+j))->bh w q t H cs ad=some pl->∀ b o,pl.ad=some (b,o)->∀ j,j < pl.t.sz->S b (o+j):=by
 intro q
 induction q with
 | nil=>intro t m H v cs F ad pl _ _ fm h;simp only[bh,aR] at h;subst h;exact fm
 | cons s q ih=>
  intro t m H v cs F ad pl hr hF fm h
  cases t with
  | pair a b=>
   obtain ⟨h0,F1,F2,hs,h1,h2⟩:=hr
   cases s with
   | fst=>simp only[bh,h0,aL] at h;exact ih a h1 (fun b i hp=>hF b i (by have:=hs b i;omega)) (fun b' o e j hj=>fm b' o e j (by simp only[Ty.sz];omega)) h
   | snd=>
    simp only[bh,h0,aL] at h;refine ih b h2 (fun b i hp=>hF b i (by have:=hs b i;omega)) (fun b' o e j hj=>?_) h
    cases ad with
    | none=>cases e
    | some y=>
     simp only[gd,cD,aR,bS] at e;obtain ⟨rfl,rfl⟩:=e;have:=fm y.1 y.2 rfl (a.sz+j) (by simp only[Ty.sz];omega)
     rwa [cE]
   | idx i=>simp[bh] at h
   | o4 i=>simp[bh] at h
  | U e=>
   cases s with
   | fst=>simp[bh] at h
   | snd=>simp[bh] at h
   | o4 i=>simp[bh] at h
   | idx i=>
    simp only[an] at hr;simp only[bh] at h;split at h
    ·cases h
    ·rename_i hh;rw[bA hh] at hr;split at hr
     ·obtain ⟨a,cap,rfl,h2,h3,h4,h5⟩:=hr
      cases a with
      | none=>cases h
      | some ff=>
       obtain ⟨g1,g2,g3,Fi,g4,g5⟩:=h5 ff rfl;simp only at h;split at h
       ·rename_i hi;obtain ⟨L,hl,hL,fa⟩:=g5 i _ (aA hi);have aj:(i+1)*e.sz<=cap*e.sz:=bD _ (by omega);rw[cI] at aj;rw[g1,bE,dt hL hl] at h;refine ih e fa (fun b k hp=>hF b k (by have:=g4 b k;have:=c7 Fi hi b k;omega)) (fun b' o e' j hj=>?_) h;simp only[aR,bS] at e';obtain ⟨rfl,rfl⟩:=e';refine hF _ _ ?_;have:=g4 ff.block (i*e.sz+j);have h0:i*e.sz+j < cap*e.sz:=by omega
        simp[b_,h0] at this;omega
       ·cases h
     ·obtain ⟨rfl,qt,a,cap,rfl,h2,h3,h4⟩:=hr
      cases a with
      | none=>cases h
      | some ff=>
       simp only at h;split at h
       ·rename_i hi;obtain ⟨L,hl,hL,fa⟩:=(h4 ff rfl).2 i _ (aA hi);rw[dt (fun j u hu=>(hL j u hu).1) hl] at h;refine ih e (Ro.rep e (fun _ _=>0) qt fa) (fun b k hp=>by simp at hp) (fun b' o e' j hj=>?_) h;simp only[aR,bS] at e';obtain ⟨rfl,rfl⟩:=e';exact hA _ _ (hL j _ (aA (by omega))).2
       ·cases h
  | arr n e=>
   cases s with
   | fst=>simp[bh] at h
   | snd=>simp[bh] at h
   | idx i=>simp[bh] at h
   | o4 i=>
    obtain ⟨rfl,hf,hl,hlen,hr⟩:=hr;simp only[bh,cS,aI] at h;split at h
    ·rename_i hi;refine ih e (Ro.flat e (m:=.leaf) (fun _ _=>0) hf (hr i _ (aA (by rw[hl];exact hi)))) (fun b k hp=>by simp at hp) (fun b' o e' j hj=>?_) h
     cases ad with
     | none=>cases e'
     | some y=>
      simp only[gd,cD,aR,bS] at e';obtain ⟨rfl,rfl⟩:=e';have aj:(i+1)*e.sz<=n*e.sz:=bD _ hi;rw[cI] at aj;have:=fm y.1 y.2 rfl (i*e.sz+j) (by simp only[Ty.sz];omega)
      rwa [cE]
    ·cases h
  | _=>cases s <;> simp[bh] at h
theorem Nv {w:World} {A:Cells} :
  ∀ (q:Path) (t:Ty) {m:Md} {H:List Path} {v:t.den} {cs:List Value} {F:FP} {ad:Option (Nat×Nat)} {pl:Pl},an P w A t m H v cs F ->
  (∀ b o,ad=some (b,o)->Has w b o cs)->bh w q t H cs ad=some pl->(∀ b o,pl.ad=some (b,o)->Has w b o pl.cs)/\∃ (m':Md) (v':pl.t.den) (F':FP),an P w A pl.t m' pl.H v' pl.cs F':=by
 intro q
 induction q with
 | nil=>intro t m H v cs F ad pl hr fm h;simp only[bh,aR] at h;subst h;exact ⟨fm,m,v,F,hr⟩
 | cons s q ih=>
  intro t m H v cs F ad pl hr fm h
  cases t with
  | pair a b=>
   obtain ⟨h0,F1,F2,hs,h1,h2⟩:=hr
   cases s with
   | fst=>
    simp only[bh,h0,aL] at h;exact ih a h1 (fun b' o e j u hu=>fm b' o e j u (by rw[bK] at hu;split at hu;exact hu;cases hu)) h
   | snd=>
    simp only[bh,h0,aL] at h;refine ih b h2 (fun b' o e j u hu=>?_) h
    cases ad with
    | none=>cases e
    | some y=>
     simp only[gd,cD,aR,bS] at e;obtain ⟨rfl,rfl⟩:=e;rw[bM] at hu;have:=fm y.1 y.2 rfl (a.sz+j) u hu
     rwa [cE]
   | idx i=>simp[bh] at h
   | o4 i=>simp[bh] at h
  | U e=>
   cases s with
   | fst=>simp[bh] at h
   | snd=>simp[bh] at h
   | o4 i=>simp[bh] at h
   | idx i=>
    simp only[an] at hr;simp only[bh] at h;split at h
    ·cases h
    ·rename_i hh;rw[bA hh] at hr;split at hr
     ·obtain ⟨a,cap,rfl,h2,h3,h4,h5⟩:=hr
      cases a with
      | none=>cases h
      | some ff=>
       obtain ⟨g1,g2,g3,Fi,g4,g5⟩:=h5 ff rfl;simp only at h;split at h
       ·rename_i hi;obtain ⟨L,hl,hL,fa⟩:=g5 i _ (aA hi);rw[g1,bE,dt hL hl] at h;refine ih e fa (fun b' o e'=>?_) h;simp only[aR,bS] at e';obtain ⟨rfl,rfl⟩:=e';exact hL
       ·cases h
     ·obtain ⟨rfl,qt,a,cap,rfl,h2,h3,h4⟩:=hr
      cases a with
      | none=>cases h
      | some ff=>
       simp only at h;split at h
       ·rename_i hi;obtain ⟨L,hl,hL,fa⟩:=(h4 ff rfl).2 i _ (aA hi);rw[dt (fun j u hu=>(hL j u hu).1) hl] at h;refine ih e (Ro.rep e (fun _ _=>0) qt fa) (fun b' o e'=>?_) h;simp only[aR,bS] at e';obtain ⟨rfl,rfl⟩:=e';exact fun j u hu=>(hL j u hu).1
       ·cases h
  | arr n e=>
   cases s with
   | fst=>simp[bh] at h
   | snd=>simp[bh] at h
   | idx i=>simp[bh] at h
   | o4 i=>
    obtain ⟨rfl,hf,hl,hlen,hr⟩:=hr;simp only[bh,cS,aI] at h;split at h
    ·rename_i hi;refine ih e (Ro.flat e (m:=.leaf) (fun _ _=>0) hf (hr i _ (aA (by rw[hl];exact hi)))) (fun b' o e' j u hu=>?_) h
     cases ad with
     | none=>cases e'
     | some y=>
      simp only[gd,cD,aR,bS] at e';obtain ⟨rfl,rfl⟩:=e';rw[bK] at hu;split at hu
      ·rw[bM] at hu;have:=fm y.1 y.2 rfl (i*e.sz+j) u hu
       rwa [cE]
      ·cases hu
    ·cases h
  | _=>cases s <;> simp[bh] at h
theorem zQ {w w2:World} {A A2:Cells} :
  ∀ (q:Path) (t:Ty) {m m2:Md} {H H2:List Path} {v v2:t.den} {cs c9:List Value} {F F2:FP} {ad:Option (Nat×Nat)} {pl:Pl},
  an P w2 A2 t m2 H2 v2 c9 F2->(dh q=0\/t.flat=true) ->
  bh w q t H cs ad=some pl->∃ H' br,bh w2 q t H2 c9 ad=some ⟨pl.t,H',br,pl.ad⟩/\(t.flat=true->vp pl.t=false):=by
 intro q
 induction q with
 | nil=>
  intro t m m2 H H2 v v2 cs c9 F F2 ad pl hr hq h;simp only[bh,aR] at h;subst h;exact ⟨_,_,rfl,fun hf=>by cases t <;> simp_all [Ty.flat,vp]⟩
 | cons s q ih=>
  intro t m m2 H H2 v v2 cs c9 F F2 ad pl hr hq h
  cases t with
  | pair a b=>
   obtain ⟨h0,F1,F2,hs,h1,h2⟩:=hr;simp only[Ty.flat,aF] at hq ⊢
   cases s with
   | fst=>
    simp only[bh,h0,aL] at h ⊢;split at h
    ·cases h
    ·obtain ⟨H',br,h3,h4⟩:=ih a (v:=v.1) (m:=.leaf) (F:=F) h1 (hq.imp (fun h=>by simpa [dh] using h) (·.1)) h;exact ⟨H',br,by simpa using h3,fun hf=>h4 hf.1⟩
   | snd=>
    simp only[bh,h0,aL] at h ⊢;split at h
    ·cases h
    ·obtain ⟨H',br,h3,h4⟩:=ih b (v:=v.2) (m:=.leaf) (F:=F) h2 (hq.imp (fun h=>by simpa [dh] using h) (·.2)) h;exact ⟨H',br,by simpa using h3,fun hf=>h4 hf.2⟩
   | idx i=>simp[bh] at h
   | o4 i=>simp[bh] at h
  | U e=>
   cases s with
   | fst=>simp[bh] at h
   | snd=>simp[bh] at h
   | o4 i=>simp[bh] at h
   | idx i=>simp[dh,Ty.flat] at hq
  | arr n e=>
   cases s with
   | fst=>simp[bh] at h
   | snd=>simp[bh] at h
   | idx i=>simp[bh] at h
   | o4 i=>
    obtain ⟨rfl,hf,hl,hlen,hr⟩:=hr;simp only[bh,cS,aI] at h ⊢;split at h
    ·split at h
     ·rename_i hi;rw[aU hi];obtain ⟨H',br,h3,h4⟩:=ih e (v:=e.zero) (m:=.leaf) (F:=F) (Ro.flat e (m:=.leaf) (fun _ _=>0) hf (hr i _ (aA (by rw[hl];exact hi)))) (.inr hf) h;exact ⟨H',br,h3,fun _=>h4 hf⟩
     ·cases h
    ·cases h
  | _=>cases s <;> simp[bh] at h
theorem rr.zero {w w2:World} {A A2:Cells} {t:Ty} {m2:Md} {H H2:List Path} {v2:t.den} {cs c9:List Value} {F2:FP} (ad:Option (Nat×Nat)) (h:an P w2 A2 t m2 H2 v2 c9 F2):rr 0 False w t H cs ad w2 H2 c9:=by
 intro q pl hq hp;obtain ⟨H',br,h1,_⟩:=zQ (A:=A) (m:=m2) (v:=v2) (F:=F2) q t h (.inl (by omega)) hp;exact ⟨H',br,h1,fun h=>by rcases h with h | h;omega;exact h.elim⟩
theorem rr.flat {w w2:World} {A A2:Cells} {t:Ty} {m2:Md} {H H2:List Path} {v2:t.den} {cs c9:List Value} {F2:FP} (ad:Option (Nat×Nat)) (h:an P w2 A2 t m2 H2 v2 c9 F2) (hf:t.flat=true) (d:Nat):rr d False w t H cs ad w2 H2 c9:=by
 intro q pl hq hp;obtain ⟨H',br,h1,h2⟩:=zQ (A:=A) (m:=m2) (v:=v2) (F:=F2) q t h (.inr hf) hp;exact ⟨H',br,h1,fun h=>by rcases h with ⟨_,hs⟩ | h;rw[h2 hf] at hs;cases hs;exact h.elim⟩
theorem rr.same {w w2:World} {A:Cells} {t:Ty} {m:Md} {H:List Path} {v:t.den} {cs:List Value} {F:FP} (ad:Option (Nat×Nat)) (h:an P w A t m H v cs F)
  (hA:∀ b i,A b i->∀ u,ce w b i=some u->ce w2 b i=some u) (hF:∀ b i,1<=F b i->∀ u,ce w b i=some u->ce w2 b i=some u) (d:Nat) (full:Prop):rr d full w t H cs ad w2 H cs:=by
 intro q pl hq hp;exact ⟨pl.H,pl.cs,vL hA q t h hF hp,fun _=>rfl⟩
end
end OT
set_option linter.unusedVariables false
set_option linter.unusedSimpArgs false
namespace OT
open Go
def y9 (cs:List Value) (off:Nat) (n:Nat) (c2:List Value):List Value:=cs.take off++c2++cs.drop (off+n)
def lM (loc:Option Nat) (cs:List Value) (n:Nat) (c2:List Value):List Value:=match loc with
 | some off=>y9 cs off n c2
 | none=>cs
theorem uB {cs c2:List Value} {off n:Nat} (h:off+n<=cs.length) (h2:c2.length=n):(y9 cs off n c2).length=cs.length:=by
 simp[y9];omega
theorem y_ {cs:List Value} {off n:Nat} (h:off+n<=cs.length):y9 cs off n ((cs.drop off).take n)=cs:=by
 unfold y9;rw[bL]
 have:(cs.drop off).take n++cs.drop (off+n)=cs.drop off:=by
  rw[<-dA];exact cQ n (cs.drop off)
 rw[this];exact cQ off cs
theorem AW {cs c2:List Value} {off n:Nat} (h:off+n<=cs.length) (h2:c2.length=n) (j:Nat):(y9 cs off n c2)[j]?=if off<=j/\j < off+n then c2[j - off]? else cs[j]?:=by
 unfold y9;rw[List.getElem?_append,List.getElem?_append];simp only[aS,bQ];have h1:min off cs.length=off:=by omega
 rw[h1,h2];split
 ·split
  ·rw[bA (by omega),bK,aU (by omega)]
  ·rw[aU (by omega)]
 ·rw[bA (by omega),bM];congr 1;omega
theorem VX {cs c2:List Value} {k n' off n:Nat} (h:off+n<=n') (h':k+n'<=cs.length) (h2:c2.length=n) :
  y9 cs k n' (y9 ((cs.drop k).take n') off n c2)=y9 cs (k+off) n c2:=by
 have hl:((cs.drop k).take n').length=n':=by simp;omega
 apply fQ;intro j;rw[AW h' (by rw[uB (by omega) h2,hl]),AW (by omega) h2,AW (by omega) h2];by_cases h3:k<=j/\j < k+n'
 ·rw[aU h3];by_cases h4:off<=j - k/\j - k < off+n
  ·rw[aU h4,aU (by omega)];congr 1;omega
  ·rw[bA h4,bA (by omega),bK,aU (by omega),bM];congr 1;omega
 ·rw[bA h3,bA (by omega)]
theorem Nw {w2:World} {b o:Nat} {cs c2:List Value} {off n:Nat} (h:off+n<=cs.length) (h2:c2.length=n)
  (hc:Has w2 b (o+off) c2) (hk:∀ j u,cs[j]?=some u->¬ (off<=j/\j < off+n)->ce w2 b (o+j)=some u):Has w2 b o (y9 cs off n c2):=by
 intro j u hu;rw[AW h h2] at hu;split at hu
 ·have:=hc _ u hu;rw[show o+off+(j - off)=o+j by omega] at this;exact this
 ·exact hk j u hu (by assumption)
section
variable {P:Program} {R:Type}
theorem WM {w:World} {A:Cells} {r:R}:∀ (p:Path) (t:Ty) {m:Md} {H:List Path} {v:t.den} {cs:List Value} {F:FP} {ad:Option (Nat×Nat)} {K:(t':Ty)->Md->List Path->t'.den->Option R},
  og p t m H v K=some r->an P w A t m H v cs F->(∀ b o,ad=some (b,o)->Has w b o cs) ->
  ∃ (t':Ty) (m':Md) (H':List Path) (v':t'.den) (br:List Value) (cr:Option (Nat×Nat)) (F':FP),K t' m' H' v'=some r/\(∀ {S:Type} (K0:(t:Ty)->Md->List Path->t.den->Option S),og p t m H v K0=K0 t' m' H' v')/\bh w p t H cs ad=some ⟨t',H',br,cr⟩/\an P w A t' m' H' v' br F' /\
   (∀ b i,F' b i<=F b i)/\(∀ b o,cr=some (b,o)->Has w b o br)/\(ad.isSome=true->cr.isSome=true):=by
 intro p
 induction p with
 | nil=>intro t m H v cs F ad K h hr fm;exact ⟨t,m,H,v,cs,ad,F,h,fun _=>rfl,rfl,hr,fun _ _=>aN _,fm,fun h=>h⟩
 | cons s p ih=>
  intro t m H v cs F ad K h hr fm
  cases t with
  | pair a b=>
   obtain ⟨h0,F1,F2,hs,h1,h2⟩:=hr;have hle:=an.length a h1;have J3:=an.length b h2;simp only[bQ,bI] at hle J3
   cases s with
   | fst=>
    have sD:H.any (·.isEmpty)=false:=h0;simp only[og,sD] at h
    obtain ⟨t',m',H',v',br,cr,F',k1,kn,k2,k3,k4,k5,k6⟩:=ih a h h1 (ad:=ad) (fun b o hb j u hu=>by
     rw[bK] at hu;split at hu;exact fm b o hb j u hu;cases hu)
    exact ⟨t',m',H',v',br,cr,F',k1,fun K0=>by simp only[og,sD];exact kn K0,by simp only[bh,h0];exact k2,k3,fun b i=>by have:=hs b i;have:=k4 b i;omega,k5,k6⟩
   | snd=>
    have sD:H.any (·.isEmpty)=false:=h0;simp only[og,sD] at h
    obtain ⟨t',m',H',v',br,cr,F',k1,kn,k2,k3,k4,k5,k6⟩:=ih b h h2 (ad:=gd ad a.sz) (fun b' o hb j u hu=>by
     cases ad with
     | none=>cases hb
     | some x=>
      simp only[gd,cD,aR,bS] at hb;obtain ⟨rfl,rfl⟩:=hb;rw[bM] at hu;have:=fm x.1 x.2 rfl _ u hu
      rwa [cE])
    exact ⟨t',m',H',v',br,cr,F',k1,fun K0=>by simp only[og,sD];exact kn K0,by simp only[bh,h0];exact k2,k3,fun b i=>by have:=hs b i;have:=k4 b i;omega,k5,fun h=>k6 (by cases ad <;> simp_all [gd])⟩
   | idx i=>simp[og] at h
   | o4 i=>simp[og] at h
  | U e=>
   cases s with
   | fst=>simp[og] at h
   | snd=>simp[og] at h
   | o4 i=>simp[og] at h
   | idx i=>
    simp only[og] at h;obtain ⟨h1,h2,h3⟩:=CZ h
    cases hx:(v:List e.den)[i]? with
    | none=>rw[hx] at h1;cases h1
    | some x=>
     rw[hx] at h1;simp only[aB] at h1;have hi:i < List.length v:=(aM.1 hx).1;simp only[an,h3,aG,aL] at hr;split at hr
     ·obtain ⟨a,cap,rfl,g2,g3,g4,g5⟩:=hr
      cases a with
      | none=>have:=g4 rfl;omega
      | some ff=>
       obtain ⟨q1,q2,q3,Fi,q4,q5⟩:=g5 ff rfl;obtain ⟨L,hl,hL,fa⟩:=q5 i x hx
       obtain ⟨t',m',H',v',br,cr,F',k1,kn,k2,k3,k4,k5,k6⟩:=ih e h1 fa (ad:=some (ff.block,i*e.sz)) (fun b o hb=>by
        simp only[aR,bS] at hb;obtain ⟨rfl,rfl⟩:=hb;exact hL)
       refine ⟨t',m',H',v',br,cr,F',k1,fun K0=>by simp only[og];rw[Bo h,hx];exact kn K0,?_,k3,fun b k=>?_,k5,fun _=>k6 rfl⟩
       ·simp only[bh,h3,aG,aL,hi,aI,q1,bE,dt hL hl];exact k2
       ·have:=k4 b k;have:=q4 b k;have:=c7 Fi hi b k;omega
     ·obtain ⟨rfl,qt,a,cap,rfl,g2,g3,g4⟩:=hr
      cases a with
      | none=>have:=g3 rfl;omega
      | some ff=>
       obtain ⟨L,hl,hL,fa⟩:=(g4 ff rfl).2 i x hx;have UJ:Has w ff.block (ff.off+i*e.sz) L:=fun j u hu=>(hL j u hu).1
       obtain ⟨t',m',H',v',br,cr,F',k1,kn,k2,k3,k4,k5,k6⟩:=ih e h1 (Ro.rep e (fun _ _=>0) qt fa) (ad:=some (ff.block,ff.off+i*e.sz)) (fun b o hb=>by
        simp only[aR,bS] at hb;obtain ⟨rfl,rfl⟩:=hb;exact UJ)
       refine ⟨t',m',H',v',br,cr,F',k1,fun K0=>by simp only[og];rw[Bo h,hx];exact kn K0,?_,k3,fun b k=>?_,k5,fun _=>k6 rfl⟩
       ·simp only[bh,h3,aG,aL,hi,aI,dt UJ hl];exact k2
       ·have:=k4 b k;omega
  | arr n e=>
   cases s with
   | fst=>simp[og] at h
   | snd=>simp[og] at h
   | idx i=>simp[og] at h
   | o4 i=>
    obtain ⟨rfl,hf,hl,hlen,hr⟩:=hr;simp only[og,cS,aI] at h
    cases hx:(v:List e.den)[i]? with
    | none=>rw[hx] at h;cases h
    | some x=>
     rw[hx] at h;simp only[aB] at h;have hi:i < n:=hl ▸ (aM.1 hx).1
     obtain ⟨t',m',H',v',br,cr,F',k1,kn,k2,k3,k4,k5,k6⟩:=ih e h (Ro.flat e (fun _ _=>0) hf (hr i x hx)) (ad:=gd ad (i*e.sz)) (fun b' o hb j u hu=>by
      cases ad with
      | none=>cases hb
      | some y=>
       simp only[gd,cD,aR,bS] at hb;obtain ⟨rfl,rfl⟩:=hb;rw[bK] at hu;split at hu
       ·rw[bM] at hu;have:=fm y.1 y.2 rfl _ u hu
        rwa [cE]
       ·cases hu)
     exact ⟨t',m',H',v',br,cr,F',k1,fun K0=>by simp only[og,cS,aI,hx,aB];exact kn K0,by simp only[bh,cS,aI,hi];exact k2,k3,fun b k=>by have:=k4 b k;omega,k5,fun h=>k6 (by cases ad <;> simp_all [gd])⟩
  | _=>cases s <;> simp[og] at h
structure YQ (P:Program) (w:World) (A:Cells) {R:Type} (r:R) (p:Path) (t:Ty) (m:Md) (H:List Path) (v:t.den) (cs:List Value) (F:FP) (ad:Option (Nat×Nat))
  (f:(t':Ty)->Md->List Path->t'.den->(Md->List Path->t'.den->Option R)->Option R) (K:Md->List Path->t.den->Option R)
  (t':Ty) (m':Md) (H':List Path) (v':t'.den) (br:List Value) (cr:Option (Nat×Nat)) (F' G:FP) (kk:Md->List Path->t'.den->Option R) (loc:Option Nat):Prop where
 run:f t' m' H' v' kk=some r
 QC:∀ {S:Type} (K0:(t':Ty)->Md->List Path->t'.den->Option S),og p t m H v K0=K0 t' m' H' v'
 place:bh w p t H cs ad=some ⟨t',H',br,cr⟩
 rep:an P w A t' m' H' v' br F'
 sum:∀ b i,F' b i+G b i<=F b i
 has:∀ b o,cr=some (b,o)->Has w b o br
 tn:∀ off,loc=some off->off+t'.sz<=t.sz/\br=(cs.drop off).take t'.sz/\cr=gd ad off
 OA:1<=dh p->loc=none
 out:loc=none->∃ b o,cr=some (b,o)/\∀ j,j < t'.sz->1<=G b (o+j)/\w.frozen? ⟨b,o+j,none⟩=false
 back:∀ m2 H2 (v2:t'.den),kk m2 H2 v2=some r->∀ (w2:World) (A2:Cells) (c9:List Value) (F2:FP),
  (∀ b n,gc w b n->gc w2 b n)->(∀ b i,A b i->A2 b i)->(∀ b i,A b i->∀ u,ce w b i=some u->ce w2 b i=some u) ->
  (∀ b i,1<=G b i->(∀ o,cr=some (b,o)->¬ (o<=i/\i < o+t'.sz))->∀ u,ce w b i=some u->ce w2 b i=some u) ->
  (∀ b o,cr=some (b,o)->Has w2 b o c9)->an P w2 A2 t' m2 H2 v2 c9 F2->(∀ b i,F2 b i+G b i<=1) ->
  ∃ m3 H3 v3 F3,K m3 H3 v3=some r/\(∀ b i,F3 b i<=F2 b i+G b i) /\
   (∀ A3:Cells,(∀ b i,A2 b i->A3 b i)->(∀ b i,1<=F2 b i+G b i->F3 b i=0->A3 b i)->an P w2 A3 t m3 H3 v3 (lM loc cs t'.sz c9) F3) /\
   (∀ d full,rr d full w t' H' br cr w2 H2 c9->rr (d+dh p) full w t H cs ad w2 H3 (lM loc cs t'.sz c9))
theorem gc.frozen {w:World} {b:Nat} {n:Nat×Bool} (h:gc w b n) {i:Nat} (hi:i < n.1):w.frozen? ⟨b,i,none⟩=false:=by
 obtain ⟨c,e,fr,h1,h2,h3,_⟩:=h;obtain ⟨lo,k8⟩:=fr;have:=h3 i hi;simp only[World.frozen?,h1];simp only[gK,eY];simp only at this;omega
theorem WN {w:World} {A:Cells} {r:R}:∀ (p:Path) (t:Ty) {m:Md} {H:List Path} {v:t.den} {cs:List Value} {F:FP} {ad:Option (Nat×Nat)}
  {f:(t':Ty)->Md->List Path->t'.den->(Md->List Path->t'.den->Option R)->Option R} {K:Md->List Path->t.den->Option R},
  qS p t m H v f K=some r->an P w A t m H v cs F->(∀ b i,F b i<=1)->(∀ b o,ad=some (b,o)->Has w b o cs)->(∀ b o,ad=some (b,o)->∀ j,j < t.sz->F b (o+j)=0) ->
  ∃ t' m' H' v' br cr F' G kk loc,YQ P w A r p t m H v cs F ad f K t' m' H' v' br cr F' G kk loc:=by
 intro p
 induction p with
 | nil=>
  intro t m H v cs F ad f K h hr hF fm t7;have hlen:=an.length t hr;refine ⟨t,m,H,v,cs,ad,F,fun _ _=>0,K,some 0,h,fun _=>rfl,rfl,hr,fun _ _=>by simp,fm,?_,(fun h=>by simp[dh] at h),(fun h=>by cases h),?_⟩
  ·intro off ho;injection ho with ho;subst ho;refine ⟨by omega,?_,?_⟩
   ·rw[eD,<- hlen,dV]
   ·cases ad <;> simp[gd]
  ·intro m2 H2 v2 hk w2 A2 c9 F2 hb hA sq hG Bp vd hs;have to:=an.length t vd
   have aac:lM (some 0) cs t.sz c9=c9:=by
    simp[lM,y9,List.drop_eq_nil_of_le (show cs.length<=t.sz by omega)]
   rw[aac];refine ⟨m2,H2,v2,F2,hk,fun _ _=>by simp,fun A3 qF _=>an.mono qF (fun _ _ _ _ h=>h) (fun _ _ h=>h) t vd (fun _ _=>aN _) (fun _ _ _ _ h=>h),fun d full hd=>hd⟩
 | cons s p ih=>
  intro t m H v cs F ad f K h hr hF fm t7
  cases t with
  | pair a b=>
   obtain ⟨h0,F1,F2,hs,h1,h2⟩:=hr;have hle:=an.length a h1;have J3:=an.length b h2;simp only[bQ,bI] at hle J3;have sD:H.any (·.isEmpty)=false:=h0
   have YR:∀ b o,ad=some (b,o)->Has w b o (cs.take a.sz):=fun b o hb j u hu=>by
    rw[bK] at hu;split at hu;exact fm b o hb j u hu;cases hu
   have YS:∀ b' o,gd ad a.sz=some (b',o)->Has w b' o (cs.drop a.sz):=fun b' o hb j u hu=>by
    cases ad with
    | none=>cases hb
    | some x=>
     simp only[gd,cD,aR,bS] at hb;obtain ⟨rfl,rfl⟩:=hb;rw[bM] at hu;have:=fm x.1 x.2 rfl _ u hu
     rwa [cE]
   cases s with
   | fst=>
    simp only[qS,sD] at h
    obtain ⟨t',m',H',v',br,cr,F',G,kk,loc,M⟩:=ih a h h1 (fun b i=>by have:=hs b i;have:=hF b i;omega) YR (fun b' o hb j hj=>by
     have:=t7 b' o hb j (by simp only[Ty.sz];omega);have:=hs b' (o+j);omega)
    refine ⟨t',m',H',v',br,cr,F',fun b i=>G b i+F2 b i,kk,loc,M.run,fun K0=>by simp only[og,sD];exact M.QC K0,by simp only[bh,h0];exact M.place,M.rep,fun b i=>by have:=hs b i;have:=M.sum b i;omega,M.has,?_,(fun h=>M.OA (by simpa [dh] using h)),?_,?_⟩
    ·intro off ho;obtain ⟨q1,q2,q3⟩:=M.tn off ho;refine ⟨by simp only[Ty.sz];omega,?_,q3⟩
     rw[q2,eO,fG];congr 1;omega
    ·intro ho;obtain ⟨b',o,q1,q2⟩:=M.out ho;exact ⟨b',o,q1,fun j hj=>⟨by have:=(q2 j hj).1;omega,(q2 j hj).2⟩⟩
    ·intro m2 H2 v2 hk w2 A2 c9 It hb hA sq hG Bp vd mA;obtain ⟨m3,H3,v3,F3,k1,k2,k3,k4⟩:=M.back m2 H2 v2 hk w2 A2 c9 It hb hA sq (fun b' i hp hn=>hG b' i (by omega) hn) Bp vd (fun b' i=>by have:=mA b' i;omega);have to:=an.length t' vd
     have oG:lM loc cs t'.sz c9=lM loc (cs.take a.sz) t'.sz c9++cs.drop a.sz:=by
      cases loc with
      | none=>simp[lM]
      | some off=>
       have:=(M.tn off rfl).1;simp only[lM,y9];rw[fG,show min off a.sz=off by omega,bL,bL,bL];congr 2;rw[eO];have e:cs.drop a.sz=(cs.drop (off+t'.sz)).drop (a.sz - (off+t'.sz)):=by rw[dA];congr 1;omega
       rw[e,cQ]
     have uS:(lM loc (cs.take a.sz) t'.sz c9).length=a.sz:=by
      cases loc with
      | none=>simp[lM];omega
      | some off=>have:=(M.tn off rfl).1;simp only[lM];rw[uB (by simp;omega) to];simp;omega
     have wd:∀ d full,rr d full w t' H' br cr w2 H2 c9->full->lM loc cs t'.sz c9=cs:=fun d full hd we=>by
      obtain ⟨H5,c5,e1,e2⟩:=hd [] ⟨t',H',br,cr⟩ (aW _) rfl;simp only[bh,aR,Pl.mk.injEq] at e1;have e3:c9=br:=e1.2.2.1.trans (e2 (.inr we))
      cases loc with
      | none=>rfl
      | some off=>
       have:=M.tn off rfl;rw[e3,this.2.1,eO,fG,show min t'.sz (a.sz - off)=t'.sz by omega];exact y_ (by omega)
     have ng:(lM loc cs t'.sz c9).take a.sz=lM loc (cs.take a.sz) t'.sz c9:=by rw[oG];exact fK uS
     have zR:(lM loc cs t'.sz c9).drop a.sz=cs.drop a.sz:=by rw[oG];exact fL uS
     have Iu:∀ b' i,1<=F2 b' i->∀ u,ce w b' i=some u->ce w2 b' i=some u:=fun b' i hp u hu=>by
      refine hG b' i (by omega) (fun o mz za=>?_) u hu;have J4:=hs b' i;have hFb:=hF b' i
      cases loc with
      | none=>
       obtain ⟨b0,o0,q1,q2⟩:=M.out rfl;rw[q1] at mz;simp only[aR,bS] at mz;obtain ⟨rfl,rfl⟩:=mz;have:=(q2 (i - o0) (by omega)).1;rw[show o0+(i - o0)=i by omega] at this;have:=M.sum b0 i;omega
      | some off=>
       obtain ⟨q1,q2,q3⟩:=M.tn off rfl
       cases ad with
       | none=>rw[q3] at mz;cases mz
       | some x=>
        rw[q3] at mz;simp only[gd,cD,aR,bS] at mz;obtain ⟨rfl,rfl⟩:=mz;have:=t7 x.1 x.2 rfl (i - x.2) (by simp only[Ty.sz];omega);rw[show x.2+(i - x.2)=i by omega] at this;omega
     refine ⟨_,_,_,fun b' i=>F3 b' i+F2 b' i,k1,fun b' i=>by have:=k2 b' i;show F3 b' i+F2 b' i<=_;omega,fun A3 qF n_=>?_,fun d full hd=>?_⟩
     ·refine ⟨by rw[rZ,qp,qp];rfl,F3,F2,fun _ _=>aN _,?_,?_⟩
      ·rw[ng,cT,tk,tZ,cH];refine k3 A3 qF fun b' i hp hz=>n_ b' i (by omega) ?_;have:=mA b' i;show F3 b' i+F2 b' i=0;omega
      ·rw[zR,cT,t6,tm,bP];exact an.mono (fun b' i ha=>qF b' i (hA b' i ha)) sq hb b h2 (fun _ _=>aN _) Iu
     ·intro q pl hq hp
      cases q with
      | nil=>
       simp only[bh,aR] at hp;subst hp;refine ⟨_,_,rfl,fun h=>?_⟩
       rcases h with ⟨_,hs⟩ | we
       ·simp[vp] at hs
       ·exact wd d full hd we
      | cons s q=>
       cases s with
       | fst=>
        simp only[bh,h0,aG,aL] at hp;obtain ⟨H4,UK,e1,e2⟩:=k4 d full hd q pl (by simpa [dh] using hq) hp;refine ⟨H4,UK,?_,fun sr=>e2 (by simpa [dh] using sr)⟩
        simp only[bh,rZ,qp,iC,aG,aL];rw[ng,cT,tk,tZ,cH];exact e1
       | snd=>
        simp only[bh,h0,aG,aL] at hp;refine ⟨pl.H,pl.cs,?_,fun _=>rfl⟩
        simp only[bh,rZ,qp,iC,aG,aL];rw[zR,cT,t6,tm,bP];exact vL sq q b h2 Iu hp
       | idx i=>simp[bh] at hp
       | o4 i=>simp[bh] at hp
   | snd=>
    simp only[qS,sD] at h
    obtain ⟨t',m',H',v',br,cr,F',G,kk,loc,M⟩:=ih b h h2 (fun b i=>by have:=hs b i;have:=hF b i;omega) YS (fun b' o hb j hj=>by
     cases ad with
     | none=>cases hb
     | some x=>
      simp only[gd,cD,aR,bS] at hb;obtain ⟨rfl,rfl⟩:=hb;have:=t7 x.1 x.2 rfl (a.sz+j) (by simp only[Ty.sz];omega);have:=hs x.1 (x.2+(a.sz+j))
      rw[cE];omega)
    refine ⟨t',m',H',v',br,cr,F',fun b i=>G b i+F1 b i,kk,loc.map (a.sz+·),M.run,fun K0=>by simp only[og,sD];exact M.QC K0,by simp only[bh,h0];exact M.place,M.rep,fun b i=>by have:=hs b i;have:=M.sum b i;omega,M.has,?_,(fun h=>by rw[M.OA (by simpa [dh] using h)];rfl),?_,?_⟩
    ·intro WO ho;obtain ⟨off,WP,rfl⟩:=Option.map_eq_some_iff.1 ho;obtain ⟨q1,q2,q3⟩:=M.tn off WP;refine ⟨by simp only[Ty.sz];omega,by rw[q2,dA],?_⟩
     rw[q3];cases ad <;> simp[gd,cE]
    ·intro ho;obtain ⟨b',o,q1,q2⟩:=M.out (by simpa using ho);exact ⟨b',o,q1,fun j hj=>⟨by have:=(q2 j hj).1;omega,(q2 j hj).2⟩⟩
    ·intro m2 H2 v2 hk w2 A2 c9 It hb hA sq hG Bp vd mA;obtain ⟨m3,H3,v3,F3,k1,k2,k3,k4⟩:=M.back m2 H2 v2 hk w2 A2 c9 It hb hA sq (fun b' i hp hn=>hG b' i (by omega) hn) Bp vd (fun b' i=>by have:=mA b' i;omega);have to:=an.length t' vd
     have oG:lM (loc.map (a.sz+·)) cs t'.sz c9=cs.take a.sz++lM loc (cs.drop a.sz) t'.sz c9:=by
      cases loc with
      | none=>simp[lM]
      | some off=>
       have:=(M.tn off rfl).1;simp only[lM,y9,cD];rw[List.take_add,dA,bL,bL,bL,cE]
     have uS:(cs.take a.sz).length=a.sz:=by simp;omega
     have wd:∀ d full,rr d full w t' H' br cr w2 H2 c9->full->lM (loc.map (a.sz+·)) cs t'.sz c9=cs:=fun d full hd we=>by
      obtain ⟨H5,c5,e1,e2⟩:=hd [] ⟨t',H',br,cr⟩ (aW _) rfl;simp only[bh,aR,Pl.mk.injEq] at e1;have e3:c9=br:=e1.2.2.1.trans (e2 (.inr we))
      cases loc with
      | none=>rfl
      | some off=>
       have:=M.tn off rfl;rw[e3,this.2.1,dA];exact y_ (show a.sz+off+t'.sz<=cs.length by omega)
     have ng:(lM (loc.map (a.sz+·)) cs t'.sz c9).take a.sz=cs.take a.sz:=by rw[oG];exact fK uS
     have zR:(lM (loc.map (a.sz+·)) cs t'.sz c9).drop a.sz=lM loc (cs.drop a.sz) t'.sz c9:=by rw[oG];exact fL uS
     have Iu:∀ b' i,1<=F1 b' i->∀ u,ce w b' i=some u->ce w2 b' i=some u:=fun b' i hp u hu=>by
      refine hG b' i (by omega) (fun o mz za=>?_) u hu;have J4:=hs b' i;have hFb:=hF b' i
      cases loc with
      | none=>
       obtain ⟨b0,o0,q1,q2⟩:=M.out rfl;rw[q1] at mz;simp only[aR,bS] at mz;obtain ⟨rfl,rfl⟩:=mz;have:=(q2 (i - o0) (by omega)).1;rw[show o0+(i - o0)=i by omega] at this;have:=M.sum b0 i;omega
      | some off=>
       obtain ⟨q1,q2,q3⟩:=M.tn off rfl
       cases ad with
       | none=>rw[q3] at mz;cases mz
       | some x=>
        rw[q3] at mz;simp only[gd,cD,aR,bS] at mz;obtain ⟨rfl,rfl⟩:=mz;have:=t7 x.1 x.2 rfl (i - x.2) (by simp only[Ty.sz];omega);rw[show x.2+(i - x.2)=i by omega] at this;omega
     refine ⟨_,_,_,fun b' i=>F3 b' i+F1 b' i,k1,fun b' i=>by have:=k2 b' i;show F3 b' i+F1 b' i<=_;omega,fun A3 qF n_=>?_,fun d full hd=>?_⟩
     ·refine ⟨by rw[rZ,qp,qp];rfl,F1,F3,fun b' i=>by show F1 b' i+F3 b' i<=F3 b' i+F1 b' i;omega,?_,?_⟩
      ·rw[ng,cT,tk,tZ,cH];exact an.mono (fun b' i ha=>qF b' i (hA b' i ha)) sq hb a h1 (fun _ _=>aN _) Iu
      ·rw[zR,cT,t6,tm,bP];refine k3 A3 qF fun b' i hp hz=>n_ b' i (by omega) ?_;have:=mA b' i;show F3 b' i+F1 b' i=0;omega
     ·intro q pl hq hp
      cases q with
      | nil=>
       simp only[bh,aR] at hp;subst hp;refine ⟨_,_,rfl,fun h=>?_⟩
       rcases h with ⟨_,hs⟩ | we
       ·simp[vp] at hs
       ·exact wd d full hd we
      | cons s q=>
       cases s with
       | snd=>
        simp only[bh,h0,aG,aL] at hp;obtain ⟨H4,UK,e1,e2⟩:=k4 d full hd q pl (by simpa [dh] using hq) hp;refine ⟨H4,UK,?_,fun sr=>e2 (by simpa [dh] using sr)⟩
        simp only[bh,rZ,qp,iC,aG,aL];rw[zR,cT,t6,tm,bP];exact e1
       | fst=>
        simp only[bh,h0,aG,aL] at hp;refine ⟨pl.H,pl.cs,?_,fun _=>rfl⟩
        simp only[bh,rZ,qp,iC,aG,aL];rw[ng,cT,tk,tZ,cH];exact vL sq q a h1 Iu hp
       | idx i=>simp[bh] at hp
       | o4 i=>simp[bh] at hp
   | idx i=>simp[qS] at h
   | o4 i=>simp[qS] at h
  | U e=>
   cases s with
   | fst=>simp[qS] at h
   | snd=>simp[qS] at h
   | o4 i=>simp[qS] at h
   | idx i=>
    simp only[qS] at h;split at h
    ·rename_i fu;obtain ⟨h1,h2,h3⟩:=CZ h
     cases hx:(v:List e.den)[i]? with
     | none=>rw[hx] at h1;cases h1
     | some x=>
      rw[hx] at h1;simp only[aB] at h1;have hi:i < List.length v:=(aM.1 hx).1;simp only[an,h3,aG,aL,fu,aI] at hr;obtain ⟨a,cap,rfl,g2,g3,g4,g5⟩:=hr
      cases a with
      | none=>have:=g4 rfl;omega
      | some ff=>
       obtain ⟨q1,q2,q3,Fi,q4,q5⟩:=g5 ff rfl;obtain ⟨L,hl,hL,fa⟩:=q5 i x hx
       have aj:∀ k,k < List.length v->∀ j,j < e.sz->k*e.sz+j < cap*e.sz:=fun k hk j hj=>by
        have aj:(k+1)*e.sz<=cap*e.sz:=bD _ (by omega);rw[cI] at aj;omega
       have J5:∀ k,k < cap*e.sz->b_ ff.block 0 (cap*e.sz) ff.block k=1:=fun k hk=>by simp[b_,hk]
       obtain ⟨t',m',H',v',br,cr,F',G,kk,loc,M⟩:=ih e h1 fa (fun b k=>by have:=q4 b k;have:=hF b k;have:=c7 Fi hi b k;omega)
        (ad:=some (ff.block,i*e.sz)) (fun b o hb=>by simp only[aR,bS] at hb;obtain ⟨rfl,rfl⟩:=hb;exact hL)
        (fun b o hb j hj=>by
         simp only[aR,bS] at hb;obtain ⟨rfl,rfl⟩:=hb;have:=q4 ff.block (i*e.sz+j);have:=hF ff.block (i*e.sz+j);have:=c7 Fi hi ff.block (i*e.sz+j)
         have:=J5 _ (aj i hi j hj);omega)
       have xP:∀ b k,ba (List.length v) (fd Fi i G) b k+Fi i b k=ba (List.length v) Fi b k+G b k:=sL Fi hi G
       have Av:∀ b k,G b k<=ba (List.length v) (fd Fi i G) b k:=fun b k=>by
        have:=c7 (fd Fi i G) hi b k;simpa [fd] using this
       refine ⟨t',m',H',v',br,cr,F',fun b k=>b_ ff.block 0 (cap*e.sz) b k+ba (List.length v) (fd Fi i G) b k,kk,none,M.run,fun K0=>by simp only[og];rw[Bo h,hx];exact M.QC K0,?_,M.rep,fun b k=>by have:=xP b k;have:=M.sum b k;have:=q4 b k;omega,M.has,(fun off ho=>by cases ho),(fun _=>rfl),?_,?_⟩
       ·simp only[bh,h3,aG,aL,hi,aI,q1,bE,dt hL hl];exact M.place
       ·intro _
        cases loc with
        | none=>
         obtain ⟨b',o,e1,e2⟩:=M.out rfl;exact ⟨b',o,e1,fun j hj=>⟨by have:=(e2 j hj).1;have:=Av b' (o+j);omega,(e2 j hj).2⟩⟩
        | some off=>
         obtain ⟨e1,e2,e3⟩:=M.tn off rfl;refine ⟨ff.block,i*e.sz+off,e3,fun j hj=>?_⟩
         have vM:=aj i hi (off+j) (by omega);rw[<-cE] at vM;exact ⟨by have:=J5 _ vM;omega,q3.frozen vM⟩
       ·intro m2 H2 v2 hk w2 A2 c9 It hb hA sq hG Bp vd mA
        obtain ⟨m3,H3,v3,F3,k1,k2,k3,k4⟩:=M.back m2 H2 v2 hk w2 A2 c9 It hb hA sq (fun b' i hp hn=>hG b' i (by have:=Av b' i;omega) hn) Bp vd
         (fun b' i=>by have:=mA b' i;have:=Av b' i;omega)
        have to:=an.length t' vd
        have apart:∀ b' k,(∀ o,cr=some (b',o)->o<=k/\k < o+t'.sz->1<=Fi i b' k\/(b'=ff.block/\i*e.sz<=k/\k < i*e.sz+e.sz)):=fun b' k o mz za=>by
         cases loc with
         | none=>
          obtain ⟨b0,o0,e1,e2⟩:=M.out rfl;rw[e1] at mz;simp only[aR,bS] at mz;obtain ⟨rfl,rfl⟩:=mz;have:=(e2 (k - o0) (by omega)).1;rw[show o0+(k - o0)=k by omega] at this;have:=M.sum b0 k;left;omega
         | some off=>
          obtain ⟨e1,e2,e3⟩:=M.tn off rfl;rw[e3] at mz;simp only[gd,cD,aR,bS] at mz;obtain ⟨rfl,rfl⟩:=mz;exact .inr ⟨rfl,by omega,by omega⟩
        have Iu:∀ j,j < List.length v->j≠i->∀ b' k,1<=Fi j b' k->∀ u,ce w b' k=some u->ce w2 b' k=some u:=fun j hj mZ b' k hp u hu=>by
         have h1:=c7 (fd Fi i G) hj b' k;have e1:fd Fi i G j=Fi j:=by simp[fd,mZ]
         rw[e1] at h1;refine hG b' k (by omega) (fun o mz za=>?_) u hu;have h2:=q4 b' k;have h3:=hF b' k;have h4:=tY Fi hj hi mZ b' k
         rcases apart b' k o mz za with h | ⟨rfl,QD,Ny⟩
         ·omega
         ·have:=J5 (i*e.sz+(k - i*e.sz)) (aj i hi _ (by omega));rw[show i*e.sz+(k - i*e.sz)=k by omega] at this;omega
        have cell:∀ j,j < List.length v->j≠i->∀ k,k < e.sz->∀ u,ce w ff.block (j*e.sz+k)=some u->ce w2 ff.block (j*e.sz+k)=some u:=fun j hj mZ k hk u hu=>by
         have t8:=J5 _ (aj j hj k hk);refine hG _ _ (by omega) (fun o mz za=>?_) u hu;have h2:=q4 ff.block (j*e.sz+k);have h3:=hF ff.block (j*e.sz+k)
         rcases apart _ _ o mz za with h | ⟨_,QD,Ny⟩
         ·have:=c7 Fi hi ff.block (j*e.sz+k);omega
         ·have fw:j < i\/i < j:=by omega
          rcases fw with sN | sN
          ·have:(j+1)*e.sz<=i*e.sz:=bD _ sN;rw[cI] at this;omega
          ·have:(i+1)*e.sz<=j*e.sz:=bD _ sN;rw[cI] at this;omega
        have WQ:Has w2 ff.block (i*e.sz) (lM loc L t'.sz c9):=by
         have xN:∀ j u,L[j]?=some u->(∀ off,loc=some off->¬ (off<=j/\j < off+t'.sz))->ce w2 ff.block (i*e.sz+j)=some u:=fun j u hu hn=>by
          have hj:j < e.sz:=hl ▸ (aM.1 hu).1;have t8:=J5 _ (aj i hi j hj);refine hG _ _ (by omega) (fun o mz za=>?_) u (hL j u hu)
          cases loc with
          | none=>
           obtain ⟨b0,o0,e1,e2⟩:=M.out rfl;rw[e1] at mz;simp only[aR,bS] at mz;obtain ⟨rfl,rfl⟩:=mz;have:=(e2 (i*e.sz+j - o0) (by omega)).1;rw[show o0+(i*e.sz+j - o0)=i*e.sz+j by omega] at this;have h2:=q4 ff.block (i*e.sz+j);have h3:=hF ff.block (i*e.sz+j);have:=Av ff.block (i*e.sz+j);have:=xP ff.block (i*e.sz+j);have:=M.sum ff.block (i*e.sz+j)
           have:=c7 Fi hi ff.block (i*e.sz+j);omega
          | some off=>
           obtain ⟨e1,e2,e3⟩:=M.tn off rfl;rw[e3] at mz;simp only[gd,cD,aR,bS] at mz;obtain ⟨_,rfl⟩:=mz;exact hn off rfl (by omega)
         cases loc with
         | none=>exact fun j u hu=>xN j u hu (fun off ho=>by cases ho)
         | some off=>
          obtain ⟨e1,e2,e3⟩:=M.tn off rfl;exact Nw (by omega) to (Bp _ _ e3) (fun j u hu hn=>xN j u hu (fun WO ho=>by injection ho with ho;subst ho;exact hn))
        have Nz:(lM loc L t'.sz c9).length=e.sz:=by
         cases loc with
         | none=>exact hl
         | some off=>have:=(M.tn off rfl).1;simp only[lM];rw[uB (by omega) to,hl]
        have C0:∀ (j:Nat) (y:e.den),(List.set v i v3)[j]?=some y->(j=i/\y=v3)\/(j≠i/\(v:List e.den)[j]?=some y):=fun j y hy=>by
         rw[fH] at hy;split at hy
         ·rename_i oD;subst oD;injection hy with hy;exact .inl ⟨rfl,hy.symm⟩
         ·rename_i oD;exact .inr ⟨fun h=>oD h.symm,hy⟩
        have others:∀ A3:Cells,(∀ b i,A2 b i->A3 b i)->∀ (j:Nat) (y:e.den),j≠i->(v:List e.den)[j]?=some y->∃ L:List Value,L.length=e.sz/\Has w2 ff.block (j*e.sz) L/\Has w ff.block (j*e.sz) L/\an P w A e m.e [] y L (Fi j)/\an P w2 A3 e m.e [] y L (Fi j):=fun A3 qF j y mZ hy=>by
         have hj:j < List.length v:=(aM.1 hy).1;obtain ⟨Lj,F9,UL,QE⟩:=q5 j y hy;rw[h2 j mZ] at QE;exact ⟨Lj,F9,fun k u hu=>cell j hj mZ k (F9 ▸ (aM.1 hu).1) u (UL k u hu),UL,QE,an.mono (fun b' i ha=>qF b' i (hA b' i ha)) sq hb e QE (fun _ _=>aN _) (Iu j hj mZ)⟩
        have WR:∀ H4:List Path,hole H4=false->H4.filterMap (kZ i)=H3->(∀ j,j≠i->H4.filterMap (kZ j)=[])->∀ d full,rr d full w t' H' br cr w2 H2 c9->rr (d+dh (.idx i::p)) full w (.U e) H [.slice (some ff) (List.length v) cap] ad w2 H4 [.slice (some ff) (List.length v) cap]:=by
         intro H4 ZV hHi hHj d full hd q pl hq hp
         cases q with
         | nil=>
          simp only[bh,aR] at hp;subst hp;exact ⟨_,_,rfl,fun _=>rfl⟩
         | cons s q=>
          cases s with
          | fst=>simp[bh] at hp
          | snd=>simp[bh] at hp
          | o4 j=>simp[bh] at hp
          | idx j=>
           simp only[bh,h3,aG,aL] at hp;split at hp
           ·rename_i hj;by_cases mZ:j=i
            ·subst mZ;rw[q1,bE,dt hL hl] at hp;obtain ⟨H5,WS,e1,e2⟩:=k4 d full hd q pl (by simp only[dh] at hq;omega) hp;refine ⟨H5,WS,?_,fun sr=>e2 (sr.imp (fun h=>⟨by have:=h.1;simp only[dh] at this;omega,h.2⟩) id)⟩
             simp only[bh,ZV,aG,aL,hj,aI,q1,bE,dt WQ Nz,hHi];exact e1
            ·obtain ⟨Lj,F9,J6,UL,QE,_⟩:=others A2 (fun _ _ h=>h) j _ mZ (aA hj);rw[q1,bE,dt UL F9,h2 j mZ] at hp;refine ⟨pl.H,pl.cs,?_,fun _=>rfl⟩
             simp only[bh,ZV,aG,aL,hj,aI,q1,bE,dt J6 F9,hHj j mZ];exact vL sq q e QE (Iu j hj mZ) hp
           ·cases hp
        simp only[lM];by_cases Cy:m3=m.e
        ·rw[aU Cy] at k1;subst Cy;refine ⟨_,_,_,fun b' k=>b_ ff.block 0 (cap*e.sz) b' k+ba (List.length v) (fd Fi i F3) b' k,k1,fun b' k=>?_,fun A3 qF n_=>?_,WR _ (qp _ _) (Cx _ _) (fun j hj=>y8 hj _)⟩
         ·have:=sL Fi hi F3 b' k;have:=xP b' k;have:=k2 b' k
          show b_ ff.block 0 (cap*e.sz) b' k+ba (List.length v) (fd Fi i F3) b' k<=_;omega
         ·simp only[an,qp,aG,aL,Md.own,aI];refine ⟨some ff,cap,by simp,by simpa using g2,g3,(fun hn=>by cases hn),fun zS E5=>?_⟩
          injection E5 with E5;subst E5;refine ⟨q1,q2,hb _ _ q3,fd Fi i F3,fun b' k=>by simp,fun j y hy=>?_⟩
          rcases C0 j y hy with ⟨rfl,rfl⟩ | ⟨mZ,AY⟩
          ·refine ⟨_,Nz,WQ,?_⟩
           rw[Cx];simp only[Md.e,fd,aI];refine k3 A3 qF fun b' k hp hz=>n_ b' k ?_ ?_
           ·have:=Av b' k;omega
           ·have h5:=mA b' k;have h6:=sL Fi hi F3 b' k;have h7:=xP b' k;have:=Av b' k
            have h8:=q4 b' k;have h9:=M.sum b' k
            have:=k2 b' k;show b_ ff.block 0 (cap*e.sz) b' k+ba (List.length v) (fd Fi j F3) b' k=0;omega
          ·obtain ⟨Lj,F9,J6,_,_,SY⟩:=others A3 qF j y mZ AY;refine ⟨Lj,F9,J6,?_⟩
           rw[y8 mZ];simp only[fd,bA mZ];exact SY
        ·rw[bA Cy] at k1;split at k1
         ·rename_i C3;have C3:H3=[]:=bN.1 C3;refine ⟨_,_,_,fun b' k=>b_ ff.block 0 (cap*e.sz) b' k,k1,fun b' k=>by show b_ ff.block 0 (cap*e.sz) b' k<=_;omega,fun A3 qF n_=>?_,WR _ rfl (by rw[C3];rfl) (fun j hj=>rfl)⟩
          simp only[an,hole,bT,aG,aL,Md.own,aI];refine ⟨some ff,cap,by simp,by simpa using g2,g3,(fun hn=>by cases hn),fun zS E5=>?_⟩
          injection E5 with E5;subst E5;refine ⟨q1,q2,hb _ _ q3,fun _ _ _=>0,fun b' k=>by rw[nf];simp,fun j y hy=>?_⟩
          have fz:∀ b' k,1<=It b' k+(b_ ff.block 0 (cap*e.sz) b' k+ba (List.length v) (fd Fi i G) b' k)->b_ ff.block 0 (cap*e.sz) b' k=0->A3 b' k:=n_
          rcases C0 j y hy with ⟨rfl,rfl⟩ | ⟨mZ,AY⟩
          ·refine ⟨_,Nz,WQ,?_⟩
           have UM:=k3 A3 qF fun b' k hp hz=>fz b' k (by have:=Av b' k;omega) (by
            have h5:=mA b' k;have:=Av b' k;omega)
           rw[C3] at UM;refine Ro.rep e _ (gm e) (an.wc (fun _ _ h=>h) e UM fun b' k hp=>fz b' k ?_ ?_)
           ·have:=k2 b' k;have:=Av b' k;omega
           ·have h5:=mA b' k;have:=Av b' k;have:=k2 b' k;omega
          ·obtain ⟨Lj,F9,J6,_,_,SY⟩:=others A3 qF j y mZ AY;have hj:j < List.length v:=(aM.1 AY).1;refine ⟨Lj,F9,J6,Ro.rep e _ (gm e) (an.wc (fun _ _ h=>h) e SY fun b' k hp=>?_)⟩
           have h1:=c7 (fd Fi i G) hj b' k;have e1:fd Fi i G j=Fi j:=by simp[fd,mZ]
           rw[e1] at h1;have h5:=mA b' k;exact fz b' k (by omega) (by omega)
         ·cases k1
    ·cases h
  | arr n e=>
   cases s with
   | fst=>simp[qS] at h
   | snd=>simp[qS] at h
   | idx i=>simp[qS] at h
   | o4 i=>
    obtain ⟨rfl,hf,hl,hlen,hr⟩:=hr;simp only[qS,cS,aI] at h
    cases hx:(v:List e.den)[i]? with
    | none=>rw[hx] at h;cases h
    | some x=>
     rw[hx] at h;simp only[aB] at h;have hi:i < n:=hl ▸ (aM.1 hx).1
     have jd:∀ j,j < n->j*e.sz+e.sz<=cs.length:=fun j hj=>by
      have:(j+1)*e.sz<=n*e.sz:=bD _ hj;rw[cI] at this;omega
     have oq:∀ j,j < n->((cs.drop (j*e.sz)).take e.sz).length=e.sz:=fun j hj=>by have:=jd j hj;simp;omega
     obtain ⟨t',m',H',v',br,cr,F',G,kk,loc,M⟩:=ih e h (Ro.flat e (fun _ _=>0) hf (hr i x hx)) (fun _ _=>aW _) (ad:=gd ad (i*e.sz)) (fun b' o hb j u hu=>by
      cases ad with
      | none=>cases hb
      | some y=>
       simp only[gd,cD,aR,bS] at hb;obtain ⟨rfl,rfl⟩:=hb;rw[bK] at hu;split at hu
       ·rw[bM] at hu;have:=fm y.1 y.2 rfl _ u hu
        rwa [cE]
       ·cases hu) (fun _ _ _ _ _=>rfl)
     have NA:∀ b k,G b k=0:=fun b k=>by have:=M.sum b k;omega
     have Cz:∀ b k,F' b k=0:=fun b k=>by have:=M.sum b k;omega
     have F_:∀ h:loc=none,t'.sz=0:=fun h=>by
      obtain ⟨b',o,e1,e2⟩:=M.out h;rcases bF t'.sz with h0 | h0
      ·exact h0
      ·have:=(e2 0 h0).1;rw[NA] at this;omega
     refine ⟨t',m',H',v',br,cr,F',F,kk,loc.map (i*e.sz+·),M.run,fun K0=>by simp only[og,cS,aI,hx,aB];exact M.QC K0,by simp only[bh,cS,aI,hi];exact M.place,M.rep,fun b k=>by rw[Cz];omega,M.has,?_,(fun h=>by rw[M.OA (by simpa [dh] using h)];rfl),?_,?_⟩
     ·intro WO ho;obtain ⟨off,WP,rfl⟩:=Option.map_eq_some_iff.1 ho;obtain ⟨q1,q2,q3⟩:=M.tn off WP;have:=jd i hi;refine ⟨by simp only[Ty.sz];omega,?_,by rw[q3];cases ad <;> simp[gd,cE]⟩
      rw[q2,eO,fG,dA];congr 1;omega
     ·intro ho;obtain ⟨b',o,q1,q2⟩:=M.out (by simpa using ho);have:=F_ (by simpa using ho);exact ⟨b',o,q1,fun j hj=>by omega⟩
     ·intro m2 H2 v2 hk w2 A2 c9 It hb hA sq hG Bp vd mA;obtain ⟨m3,H3,v3,F3,k1,k2,k3,k4⟩:=M.back m2 H2 v2 hk w2 A2 c9 It hb hA sq (fun b' i hp hn=>by rw[NA] at hp;omega) Bp vd (fun b' i=>by have:=mA b' i;rw[NA];omega);have to:=an.length t' vd;split at k1
      ·rename_i C3;have C3:H3=[]:=bN.1 C3
       have oG:lM (loc.map (i*e.sz+·)) cs t'.sz c9=y9 cs (i*e.sz) e.sz (lM loc ((cs.drop (i*e.sz)).take e.sz) t'.sz c9):=by
        cases loc with
        | none=>simp only[lM,gZ];exact (y_ (jd i hi)).symm
        | some off=>
         have:=(M.tn off rfl).1;exact (VX this (jd i hi) to).symm
       have uS:(lM loc ((cs.drop (i*e.sz)).take e.sz) t'.sz c9).length=e.sz:=by
        cases loc with
        | none=>exact oq i hi
        | some off=>have:=(M.tn off rfl).1;simp only[lM];rw[uB (by rw[oq i hi];omega) to,oq i hi]
       have OB:∀ j,j < n->((lM (loc.map (i*e.sz+·)) cs t'.sz c9).drop (j*e.sz)).take e.sz=if j=i then lM loc ((cs.drop (i*e.sz)).take e.sz) t'.sz c9 else (cs.drop (j*e.sz)).take e.sz:=fun j hj=>by
        rw[oG];apply fQ;intro k;rw[bK];split
        ·rename_i hk;rw[bM,AW (jd i hi) uS];by_cases mZ:j=i
         ·subst mZ;rw[aU (by omega),aU rfl];congr 1;omega
         ·rw[bA mZ,bK,aU hk,bM,bA];have fw:j < i\/i < j:=by omega
          rcases fw with sN | sN
          ·have:(j+1)*e.sz<=i*e.sz:=bD _ sN;rw[cI] at this;omega
          ·have:(i+1)*e.sz<=j*e.sz:=bD _ sN;rw[cI] at this;omega
        ·rename_i hk;by_cases mZ:j=i
         ·rw[aU mZ,cW (by omega)]
         ·rw[bA mZ,cW (by rw[oq j hj];omega)]
       have wd:∀ d full,rr d full w t' H' br cr w2 H2 c9->full->lM (loc.map (i*e.sz+·)) cs t'.sz c9=cs:=fun d full hd we=>by
        obtain ⟨H5,c5,e1,e2⟩:=hd [] ⟨t',H',br,cr⟩ (aW _) rfl;simp only[bh,aR,Pl.mk.injEq] at e1;have e3:c9=br:=e1.2.2.1.trans (e2 (.inr we))
        cases loc with
        | none=>rfl
        | some off=>
         have:=M.tn off rfl;have:=jd i hi;rw[e3,(M.tn off rfl).2.1,eO,fG,show min t'.sz (e.sz - off)=t'.sz by omega,dA];exact y_ (show i*e.sz+off+t'.sz<=cs.length by omega)
       have YT:(lM (loc.map (i*e.sz+·)) cs t'.sz c9).length=n*e.sz:=by rw[oG,uB (jd i hi) uS,hlen]
       refine ⟨_,_,_,fun b' k=>F3 b' k+F b' k,k1,fun b' k=>by have:=k2 b' k;have:=NA b' k;show F3 b' k+F b' k<=_;omega,fun A3 qF n_=>?_,fun d full hd=>?_⟩
       ·refine ⟨rfl,hf,by simpa using hl,YT,fun j y hy=>?_⟩
        have hj:j < n:=by have:=(aM.1 hy).1;rw[fM] at this;omega
        rw[OB j hj];rw[fH] at hy;split at hy
        ·rename_i oD;subst oD
         have hy:some v3=some y:=by
          split at hy
          ·exact hy
          ·cases hy
         injection hy with hy;rw[aU rfl,<- hy];exact an.flat e hf (k3 A3 qF fun b' k hp hz=>n_ b' k (by have:=NA b' k;omega) (by have:=mA b' k;have:=NA b' k;show F3 b' k+F b' k=0;omega))
        ·rename_i oD;rw[bA (fun h=>oD h.symm)];exact Ro.mono sq (fun b' k ha=>qF b' k (hA b' k ha)) e (hr j y hy)
       ·intro q pl hq hp
        cases q with
        | nil=>
         simp only[bh,aR] at hp;subst hp;refine ⟨_,_,rfl,fun h=>?_⟩
         rcases h with ⟨_,hs⟩ | we
         ·simp[vp] at hs
         ·exact wd d full hd we
        | cons s q=>
         cases s with
         | fst=>simp[bh] at hp
         | snd=>simp[bh] at hp
         | idx j=>simp[bh] at hp
         | o4 j=>
          simp only[bh,cS,aI] at hp;split at hp
          ·rename_i hj;by_cases mZ:j=i
           ·subst mZ;obtain ⟨H5,WS,e1,e2⟩:=k4 d full hd q pl (by simp only[dh] at hq;omega) hp;refine ⟨H5,WS,?_,fun sr=>e2 (sr.imp (fun h=>⟨by have:=h.1;simp only[dh] at this;omega,h.2⟩) id)⟩
            simp only[bh,cS,aI,hj];rw[OB j hj,aU rfl];rw[C3] at e1;exact e1
           ·refine ⟨pl.H,pl.cs,?_,fun _=>rfl⟩
            simp only[bh,cS,aI,hj];rw[OB j hj,bA mZ];exact vL sq q e (Ro.flat e (m:=.leaf) (fun _ _=>0) hf (hr j _ (aA (by rw[hl];exact hj)))) (fun b k hp=>by simp at hp) hp
          ·cases hp
      ·cases k1
  | _=>cases s <;> simp[qS] at h
end
end OT
set_option linter.unusedVariables false
set_option linter.unusedSimpArgs false
namespace OT
open Go
def tmp (a:Act) (i:Nat):Value:=a.tmps.getD i undef
section
variable {P:Program} {w:World} {A:Cells}
theorem Ro.one:∀ (t:Ty) {v:t.den} {cs:List Value},Ro P w A t v cs->∀ x ∈ cs,x.oneCell'=true:=by
 intro t
 induction t with
 | pair a b kN kE=>
  intro v cs h x hx;rw[<-cQ a.sz cs] at hx;rcases cJ.1 hx with hx | hx
  ·exact kN h.1 x hx
  ·exact kE h.2 x hx
 | arr n e ih=>
  intro v cs h x hx;obtain ⟨hf,hl,hlen,hr⟩:=h;obtain ⟨k,hk,rfl⟩:=dD.1 hx;rw[hlen] at hk
  have kt:0 < e.sz:=by
   rcases bF e.sz with h0 | h0
   ·rw[h0] at hk;omega
   ·exact h0
  have hi:k / e.sz < n:=(gL kt).2 hk;refine ih (hr (k / e.sz) _ (aA (by rw[hl];exact hi))) _ ?_;rw[gM];refine ⟨k % e.sz,?_⟩
  rw[bK,aU (iP _ kt),bM];have:k / e.sz*e.sz+k % e.sz=k:=by rw[fR];exact gI k e.sz
  rw[this];exact aA _
 | U e ih=>rintro v cs ⟨a,cap,rfl,_⟩ x hx;simp at hx;subst hx;rfl
 | ptr e ih=>rintro v cs ⟨a,rfl,_⟩ x hx;simp at hx;subst hx;rfl
 | fn=>rintro v cs ⟨a,rfl,_⟩ x hx;simp at hx;subst hx;rfl
 | map k v=>rintro v cs ⟨_,_,r,qE,rfl,_⟩ x hx;simp at hx;subst hx;rfl
 | unit=>intro v cs h x hx;simp only[Ro] at h;subst h;cases hx
 | _=>intro v cs h x hx;simp only[Ro] at h;subst h;simp at hx;subst hx;rfl
theorem an.one:∀ (t:Ty) {m:Md} {H:List Path} {v:t.den} {cs:List Value} {F:FP},an P w A t m H v cs F->∀ x ∈ cs,x.oneCell'=true:=by
 intro t
 induction t with
 | pair a b kN kE=>
  intro m H v cs F h x hx;obtain ⟨_,F1,F2,_,h1,h2⟩:=h;rw[<-cQ a.sz cs] at hx;rcases cJ.1 hx with hx | hx
  ·exact kN h1 x hx
  ·exact kE h2 x hx
 | U e ih=>
  intro m H v cs F h x hx;simp only[an] at h;split at h
  ·obtain ⟨y,rfl,hy⟩:=h;simp at hx;subst hx;exact hy
  ·split at h
   ·obtain ⟨a,cap,rfl,_⟩:=h;simp at hx;subst hx;rfl
   ·exact Ro.one _ h.2.2 x hx
 | ptr e ih=>
  intro m H v cs F h x hx;simp only[an] at h;split at h
  ·obtain ⟨y,rfl,hy⟩:=h;simp at hx;subst hx;exact hy
  ·split at h
   ·obtain ⟨a,rfl,_⟩:=h;simp at hx;subst hx;rfl
   ·exact Ro.one _ h.2.2 x hx
 | arr n e ih=>intro m H v cs F h;exact Ro.one _ h.2
 | map k v=>
  intro m H v cs F h x hx;simp only[an] at h;split at h
  ·obtain ⟨y,rfl,hy⟩:=h;simp at hx;subst hx;exact hy
  ·split at h
   ·obtain ⟨_,_,r,qE,rfl,_⟩:=h;simp at hx;subst hx;rfl
   ·exact Ro.one _ h.2.2 x hx
 | _=>intro m H v cs F h;exact Ro.one _ h
end
theorem lQ {t:Ty} {cs:List Value} (hl:cs.length=t.sz) (h1:∀ x ∈ cs,x.oneCell'=true):(cg t cs).cells.toList=cs:=by
 unfold cg;split
 ·simp[Value.cells]
 ·rename_i h;have:t.sz=1:=by cases t <;> simp_all [isAgg,Ty.sz]
  match cs,hl with
  | [x],_=>
   have:=h1 x (by simp);cases x <;> simp_all [Value.cells,Value.oneCell']
  | [],hl=>simp[this] at hl
  | _::_::_,hl=>simp[this] at hl
def Below (snap v:List Nat):Prop:=∀ (j x:Nat),snap[j]?=some x->∃ y,v[j]?=some y/\x<=y
theorem E6:∀ (s v:List Nat),preB s v=true↔∀ (j x:Nat),s[j]?=some x->v[j]?=some x
 | [],v=>by simp[preB]
 | a::s,[]=>by
  simp only[preB,aG,false_iff];intro h;have:=h 0 a rfl;cases this
 | a::s,b::v=>by
  simp only[preB,aF,eI,E6 s v];constructor
  ·rintro ⟨rfl,h⟩ j x hj
   cases j with
   | zero=>exact hj
   | succ j=>exact h j x hj
  ·intro h;refine ⟨by have:=h 0 a rfl;simpa using this.symm,fun j x hj=>h (j+1) x hj⟩
theorem Eb {s v v':List Nat} (hs:Below s v) (hv:Below v v') (h:preB s v'=true):preB s v=true/\∀ (j:Nat),j < s.length->v[j]?=v'[j]?:=by
 have key:∀ (j x:Nat),s[j]?=some x->v[j]?=some x/\v'[j]?=some x:=fun j x hj=>by
  obtain ⟨y,hy,yd⟩:=hs j x hj;obtain ⟨z,hz,hyz⟩:=hv j y hy;have:=(E6 _ _).1 h j x hj;rw[this] at hz;injection hz with hz;have:x=y:=by omega
  subst this;exact ⟨hy,by assumption⟩
 refine ⟨(E6 _ _).2 fun j x hj=>(key j x hj).1,fun j hj=>?_⟩
 obtain ⟨h1,h2⟩:=key j _ (aA hj);rw[h1,h2]
theorem Below.trans {s v v':List Nat} (h1:Below s v) (h2:Below v v'):Below s v':=fun j x hj=>by
 obtain ⟨y,hy,yd⟩:=h1 j x hj;obtain ⟨z,hz,hyz⟩:=h2 j y hy;exact ⟨z,hz,by omega⟩
theorem Below.refl (s:List Nat):Below s s:=fun j x hj=>⟨x,hj,aN _⟩
def c_ (w:World) (tv:Value):Slot->Option Pl
 | .own t _ H _=>some ⟨t,H,tv.cells.toList,none⟩
 | .box t _ H _=>match tv with
  | .pointer (some a)=>some ⟨t,H,rd w a.block a.off t.sz,some (a.block,a.off)⟩
  | _=>none
 | _=>none
def place (σ:St) (a:Act) (w:World) (r:Nat) (p:Path):Option Pl:=
 (c_ w (tmp a r) (σ.get r)).bind fun R=>bh w p R.t R.H R.cs R.ad
def qT (σ:St) (a:Act) (w:World) (tv:Value) (r:Nat) (p:Path) (snap:List Nat):Prop:=
 Below snap (σ.lw r)/\(σ.ok r snap=true->∃ pl,place σ a w r p=some pl/\tv=cg pl.t pl.cs/\((vp pl.t=true/\snap.length=min 5 (2+dh p))\/snap.length=5))
def AZ (σ:St) (a:Act) (w:World) (tv:Value) (r:Nat) (p:Path) (snap:List Nat):Prop:=
 Below snap (σ.lw r)/\(σ.ok r snap=true->∃ pl b o,place σ a w r p=some pl/\pl.ad=some (b,o)/\tv=.pointer (some ⟨b,o,none⟩)/\snap.length=min 5 (1+dh p))
def C4 (σ:St) (a:Act) (w:World) (tv:Value) (r:Nat) (p:Path) (snap:List Nat) (lo hi:Nat):Prop:=
 Below snap (σ.lw r)/\(σ.ok r snap=true->∃ pl e x n cap x' cap',place σ a w r p=some pl/\pl.t=.U e/\pl.cs=[.slice x n cap]/\lo<=hi/\hi<=n/\tv=.slice x' (hi - lo) cap'/\cap'+lo=cap/\(lo=0->x'=x) /\
  (x=none->x'=none)/\(∀ ad,x=some ad->∃ cr,x'=some cr/\cr.spot=ad.spot/\cr.block=ad.block/\(lo < hi->cr.off=ad.off+lo*e.sz))/\(snap.length=min 5 (2+dh p)\/snap.length=5))
section
variable (P:Program) (A:Cells)
def WT (w:World) (x:FS) (tv:Value) (F:FP):Prop:=x.t=.unit\/∃ cs,tv=cg x.t cs/\an P w A x.t x.m [] x.v cs F
def cu (σ:St) (a:Act) (w:World) (tv:Value):Slot->FP->Prop
 | .dead,_=>True
 | .v6,_=>tv=.slice none 0 0
 | .val t v,_=>∃ cs,tv=cg t cs/\Ro P w A t v cs
 | .cp t v,_=>Ro P w A (.ptr t) v [tv]
 | .own t m H v,F=>∃ cs,tv=cg t cs/\an P w A t m H v cs F
 | .box t m H v,F=>∃ b o L F1,tv=.pointer (some ⟨b,o,none⟩)/\L.length=t.sz/\Has w b o L/\(∀ j,j < t.sz->w.frozen? ⟨b,o+j,none⟩=false) /\
   (∀ x i,b_ b o t.sz x i+F1 x i<=F x i)/\an P w A t m H v L F1
 | .ref r p snap,_=>qT σ a w tv r p snap
 | .ptr r p snap,_=>AZ σ a w tv r p snap
 | .sub r p snap lo hi,_=>C4 σ a w tv r p snap lo hi
 | .rq xs,F=>∃ (vs:Array Value) (Fi:Nat->FP),tv=.tuple vs/\(∀ b i,ba xs.length Fi b i<=F b i)/\∀ j x,xs[j]?=some x->∃ v,vs[j]?=some v/\WT P A w x v (Fi j)
end
structure Ext (w w':World) (F:FP):Prop where
 size:w.heap.size<=w'.heap.size
 cell:∀ b i,b < w.heap.size->F b i=0->∀ u,ce w b i=some u->ce w' b i=some u
 tQ:∀ b n,gc w b n->gc w' b n
 xQ:∀ b i,b < w.heap.size->w'.frozen? ⟨b,i,none⟩=w.frozen? ⟨b,i,none⟩
 os:w'.os=w.os
 tape:w'.tape=w.tape
 output:w'.output=w.output
 obj:∀ b,b < w.heap.size->(∀ i,F b i=0)->w'.heap[b]?=w.heap[b]?
 drawn:w.drawn<=w'.drawn
structure Ctx where
 w0:World
 A0:Cells
 F0:FP
 args:Array Value
structure Rel (P:Program) (C:Ctx) (A:Cells) (X:FP) (σ:St) (a:Act) (w:World) (F:Nat->FP):Prop where
 size:a.tmps.size=σ.n
 defers:a.defers=[]
 im:∀ i,i < σ.n->cu P A σ a w (tmp a i) (σ.get i) (F i)
 gh:∀ d r p snap,(d,r,p,snap) ∈ σ.gh->qT σ a w (tmp a d) r p snap
 o5:∀ b i,X b i+ba σ.n F b i<=1
 pW:∀ b i,1<=X b i+ba σ.n F b i->¬ A b i
 kO:∀ b i,1<=X b i+ba σ.n F b i\/A b i->b < w.heap.size
 mo:∀ i,(σ.lw i).length=5
 ext:Ext C.w0 w C.F0
 own:∀ b i,1<=X b i+ba σ.n F b i->1<=C.F0 b i\/C.w0.heap.size<=b
 a0:∀ b i,C.A0 b i->A b i
 a1:∀ b i,A b i->C.A0 b i\/1<=C.F0 b i\/C.w0.heap.size<=b
 oA:∀ j k,(j,k,false) ∈ σ.aT->tmp a j=C.args.getD k undef
 whole:∀ r t m H v,σ.get r=.box t m H v->(∀ k,(r,k,false) ∉ σ.aT)->∃ b,tmp a r=.pointer (some ⟨b,0,none⟩)/\gc w b (t.sz,false)
 nw:∀ j k,(j,k,true) ∈ σ.aT->∀ R,c_ w (tmp a j) (σ.get j)=some R->cg R.t R.cs=C.args.getD k undef
def wZ (σ:St) (a:Act) (w:World) (σ':St) (a':Act) (w':World):Prop:=
 ∀ r p snap,Below snap (σ.lw r)->Below snap (σ'.lw r)/\(σ'.ok r snap=true->σ.ok r snap=true /\
  (snap.length=min 5 (1+dh p)\/snap.length=min 5 (2+dh p)\/snap.length=5->∀ pl,place σ a w r p=some pl->∃ H' br,place σ' a' w' r p=some ⟨pl.t,H',br,pl.ad⟩ /\
   ((vp pl.t=true/\snap.length=min 5 (2+dh p))\/snap.length=5->br=pl.cs)))
section
variable {P:Program} {A A':Cells} {σ σ':St} {a a':Act} {w w':World} {tv:Value} {F:FP}
theorem qT.mY (hp:wZ σ a w σ' a' w') {r:Nat} {p:Path} {snap:List Nat} (h:qT σ a w tv r p snap):qT σ' a' w' tv r p snap:=by
 obtain ⟨h1,h2⟩:=h;obtain ⟨h3,h4⟩:=hp r p snap h1;refine ⟨h3,fun bc=>?_⟩
 obtain ⟨h5,h6⟩:=h4 bc;obtain ⟨pl,h7,h8,h9⟩:=h2 h5;obtain ⟨H',br,xy,zT⟩:=h6 (h9.elim (fun h=>.inr (.inl h.2)) (fun h=>.inr (.inr h))) pl h7;exact ⟨_,xy,by rw[zT h9];exact h8,h9⟩
theorem AZ.mY (hp:wZ σ a w σ' a' w') {r:Nat} {p:Path} {snap:List Nat} (h:AZ σ a w tv r p snap):AZ σ' a' w' tv r p snap:=by
 obtain ⟨h1,h2⟩:=h;obtain ⟨h3,h4⟩:=hp r p snap h1;refine ⟨h3,fun bc=>?_⟩
 obtain ⟨h5,h6⟩:=h4 bc;obtain ⟨pl,b,o,h7,h8,h9,xy⟩:=h2 h5;obtain ⟨H',br,zT,_⟩:=h6 (.inl xy) pl h7;exact ⟨_,b,o,zT,h8,h9,xy⟩
theorem C4.mY (hp:wZ σ a w σ' a' w') {r:Nat} {p:Path} {snap:List Nat} {lo hi:Nat} (h:C4 σ a w tv r p snap lo hi):C4 σ' a' w' tv r p snap lo hi:=by
 obtain ⟨h1,h2⟩:=h;obtain ⟨h3,h4⟩:=hp r p snap h1;refine ⟨h3,fun bc=>?_⟩
 obtain ⟨h5,h6⟩:=h4 bc;obtain ⟨pl,e,x,n,cap,x',cap',h7,h8,h9,xy,zT,J7,h13,aad,h14,h15,Ga⟩:=h2 h5;obtain ⟨H',br,h17,h18⟩:=h6 (.inr Ga) pl h7;have:vp pl.t=true:=by rw[h8];rfl
 exact ⟨_,e,x,n,cap,x',cap',h17,h8,(h18 (Ga.imp (fun h=>⟨this,h⟩) id)).trans h9,xy,zT,J7,h13,aad,h14,h15,Ga⟩
theorem cu.mY (hp:wZ σ a w σ' a' w') (hA:∀ b i,A b i->A' b i) (hc:∀ b i,A b i->∀ u,ce w b i=some u->ce w' b i=some u) (hb:∀ b n,gc w b n->gc w' b n)
  (hF:∀ b i,1<=F b i->(∀ u,ce w b i=some u->ce w' b i=some u)/\w'.frozen? ⟨b,i,none⟩=w.frozen? ⟨b,i,none⟩) {s:Slot} (h:cu P A σ a w tv s F):cu P A' σ' a' w' tv s F:=by
 cases s with
 | dead=>trivial
 | v6=>exact h
 | val t v=>obtain ⟨cs,h1,h2⟩:=h;exact ⟨cs,h1,Ro.mono hc hA t h2⟩
 | cp t v=>exact Ro.mono hc hA (.ptr t) h
 | own t m H v=>obtain ⟨cs,h1,h2⟩:=h;exact ⟨cs,h1,an.mono hA hc hb t h2 (fun _ _=>aN _) (fun b i hp=>(hF b i hp).1)⟩
 | box t m H v=>
  obtain ⟨b,o,L,F1,h1,h2,h3,h4,h5,h6⟩:=h
  have hr:∀ j,j < t.sz->1<=F b (o+j):=fun j hj=>by
   have:=h5 b (o+j);simp[b_,hj] at this;omega
  exact ⟨b,o,L,F1,h1,h2,fun j u hu=>(hF _ _ (hr j (h2 ▸ (aM.1 hu).1))).1 u (h3 j u hu),fun j hj=>by rw[(hF _ _ (hr j hj)).2];exact h4 j hj,h5,
   an.mono hA hc hb t h6 (fun _ _=>aN _) (fun b i hp=>(hF b i (by have:=h5 b i;omega)).1)⟩
 | ref r p snap=>exact qT.mY hp h
 | ptr r p snap=>exact AZ.mY hp h
 | sub r p snap lo hi=>exact C4.mY hp h
 | rq xs=>
  obtain ⟨vs,Fi,h1,h2,h3⟩:=h;refine ⟨vs,Fi,h1,h2,fun j x hx=>?_⟩
  obtain ⟨v,h4,h5⟩:=h3 j x hx;refine ⟨v,h4,h5.imp id fun ⟨cs,h6,h7⟩=>⟨cs,h6,an.mono hA hc hb x.t h7 (fun _ _=>aN _) (fun b i hp=>(hF b i ?_).1)⟩⟩
  have:=c7 Fi (aM.1 hx).1 b i;have:=h2 b i;omega
end
end OT
set_option linter.unusedVariables false
set_option linter.unusedSimpArgs false
namespace OT
open Go
theorem yp {α:Type} (k:Nat) (x:α) (l:List (Nat×α)) (i:Nat):m9 ((k,x)::l) i=if k=i then some x else m9 l i:=by
 simp only[m9];by_cases h:k=i
 ·simp[h]
 ·rw[bA h,bA (by simpa using h)]
theorem w5 (σ:St) (d:Nat) (s:Slot) (i:Nat):(σ.put d s).get i=if d=i/\i < σ.n then s else σ.get i:=by
 simp only[St.get,St.put,yp,gR];by_cases hi:i < σ.n
 ·by_cases hd:d=i <;> simp[hi,hd]
 ·simp[hi]
theorem Ec (σ:St) (d:Nat) (s:Slot) (i:Nat):(σ.JN d s).get i=if d=i/\i < σ.n then s else σ.get i:=by
 simp only[St.get,St.JN,yp,gR];by_cases hi:i < σ.n
 ·by_cases hd:d=i <;> simp[hi,hd]
 ·simp[hi]
theorem yN (σ:St) (d:Nat) (s:Slot) (i:Nat):(σ.put d s).lw i=if d=i then rW (σ.lw d) else σ.lw i:=by
 simp only[St.lw,St.put,yp];by_cases hd:d=i <;> simp[hd]
theorem qx (σ:St) (d:Nat) (f:List Nat->List Nat) (i:Nat):(σ.lX d f).lw i=if d=i then f (σ.lw d) else σ.lw i:=by
 simp only[St.lw,St.lX,yp];by_cases hd:d=i <;> simp[hd]
theorem yq {l:List (Nat×Nat×Bool)} {d:Nat} {e:Nat×Nat×Bool} (h:e ∈ yT l d):e ∈ l/\e.1≠d:=by
 induction l with
 | nil=>cases h
 | cons x l ih=>
  obtain ⟨k,b⟩:=x;simp only[yT] at h;split at h
  ·exact ⟨aZ _ (ih h).1,(ih h).2⟩
  ·rename_i hk;rcases aY.1 h with rfl | h
   ·exact ⟨bG,by simpa using hk⟩
   ·exact ⟨aZ _ (ih h).1,(ih h).2⟩
theorem Gb {l:List (Nat×Nat×Bool)} {d:Nat} {e:Nat×Nat×Bool} (h:e ∈ l) (hd:e.1≠d):e ∈ yT l d:=by
 induction l with
 | nil=>cases h
 | cons x l ih=>
  obtain ⟨k,b⟩:=x;simp only[yT];rcases aY.1 h with rfl | h
  ·rw[bA (by simpa using hd)];exact bG
  ·split
   ·exact ih h
   ·exact aZ _ (ih h)
theorem OC {l:List (Nat×Nat×Bool)} {d j k:Nat} (h:(j,k,false) ∈ l):(j,k,false) ∈ yU l d:=by
 induction l with
 | nil=>cases h
 | cons x l ih=>
  obtain ⟨k',n,b⟩:=x;simp only[yU];rcases aY.1 h with h | h
  ·injection h with h1 h2;injection h2 with h2 h3;subst h3;simp[h1,h2]
  ·split
   ·exact ih h
   ·exact aZ _ (ih h)
theorem Gc {l:List (Nat×Nat×Bool)} {d:Nat} {e:Nat×Nat×Bool} (h:e ∈ yU l d):e ∈ l/\¬ (e.1=d/\e.2.2=true):=by
 induction l with
 | nil=>cases h
 | cons x l ih=>
  obtain ⟨k,n,b⟩:=x;simp only[yU] at h;split at h
  ·exact ⟨aZ _ (ih h).1,(ih h).2⟩
  ·rename_i hk;rcases aY.1 h with rfl | h
   ·exact ⟨bG,by simpa using hk⟩
   ·exact ⟨aZ _ (ih h).1,(ih h).2⟩
theorem J8 {l:List (Nat×Nat×Path×List Nat)} {d:Nat} {e:Nat×Nat×Path×List Nat} (h:e ∈ JM l d):e ∈ l/\e.1≠d:=by
 induction l with
 | nil=>cases h
 | cons x l ih=>
  obtain ⟨k,b⟩:=x;simp only[JM] at h;split at h
  ·exact ⟨aZ _ (ih h).1,(ih h).2⟩
  ·rename_i hk;rcases aY.1 h with rfl | h
   ·exact ⟨bG,by simpa using hk⟩
   ·exact ⟨aZ _ (ih h).1,(ih h).2⟩
theorem st (v:List Nat):Below v (rW v):=fun j x hj=>⟨x+1,by simp[rW,hj],by omega⟩
theorem C5 {v:List Nat} (h:v.length=5):∃ b x y z w,v=[b,x,y,z,w]:=by
 match v,h with
 | [b,x,y,z,w],_=>exact ⟨b,x,y,z,w,rfl⟩
theorem QF {b x y z w b' x' y' z' w':Nat} (h0:b<=b') (h1:x<=x') (h2:y<=y') (h3:z<=z') (h4:w<=w'):Below [b,x,y,z,w] [b',x',y',z',w']:=by
 intro j n hj
 match j,hj with
 | 0,hj=>exact ⟨b',rfl,by simp at hj;omega⟩
 | 1,hj=>exact ⟨x',rfl,by simp at hj;omega⟩
 | 2,hj=>exact ⟨y',rfl,by simp at hj;omega⟩
 | 3,hj=>exact ⟨z',rfl,by simp at hj;omega⟩
 | 4,hj=>exact ⟨w',rfl,by simp at hj;omega⟩
 | n+5,hj=>simp at hj
theorem t_ (d:Nat) {v:List Nat} (h:v.length=5):Below v (tj d v):=by
 obtain ⟨b,x,y,z,w,rfl⟩:=C5 h
 match d with
 | 0 | 1 | 2 | n+3=>exact QF (by omega) (by omega) (by omega) (by omega) (by omega)
theorem xi {v:List Nat} (h:v.length=5):Below v (v7 v):=by
 obtain ⟨b,x,y,z,w,rfl⟩:=C5 h;exact QF (by omega) (by omega) (by omega) (by omega) (by omega)
theorem C6 {v:List Nat}:(rW v).length=v.length:=by simp[rW]
theorem Bq (d:Nat) {v:List Nat} (h:v.length=5):(tj d v).length=5:=by
 obtain ⟨b,x,y,z,w,rfl⟩:=C5 h
 match d with
 | 0 | 1 | 2 | n+3=>rfl
theorem C7 {v:List Nat} (h:v.length=5):(v7 v).length=5:=by
 obtain ⟨b,x,y,z,w,rfl⟩:=C5 h;rfl
theorem Gd {s v v':List Nat} (hs:Below s v) (hv:Below v v') (h:preB s v'=true) {j:Nat} (hj:v[j]?≠v'[j]?):s.length<=j:=by
 rcases bZ j s.length with h' | h'
 ·exact absurd ((Eb hs hv h).2 j h') hj
 ·exact h'
theorem Ez {s v:List Nat} (hl:v.length=5) (hs:Below s v) (h:preB s (rW v)=true):s.length=0:=by
 obtain ⟨b,x,y,z,w,rfl⟩:=C5 hl;have:=Gd hs (st _) h (j:=0) (by simp[rW]);omega
theorem C8 {s v:List Nat} (d:Nat) (hl:v.length=5) (hs:Below s v) (h:preB s (tj d v)=true):s.length<=min 4 (1+d):=by
 have h4:s.length<=4:=by
  refine Gd hs (t_ d hl) h ?_;obtain ⟨b,x,y,z,w,rfl⟩:=C5 hl
  match d with
  | 0 | 1 | 2 | n+3=>simp[tj]
 have hd:s.length<=1+d:=by
  rcases bZ d 3 with hd | hd
  ·refine Gd hs (t_ d hl) h ?_;obtain ⟨b,x,y,z,w,rfl⟩:=C5 hl
   match d,hd with
   | 0,_ | 1,_ | 2,_=>simp[tj]
  ·omega
 omega
theorem E7 {s v:List Nat} (hl:v.length=5) (hs:Below s v) (h:preB s (v7 v)=true):s.length<=4:=by
 refine Gd hs (xi hl) h ?_;obtain ⟨b,x,y,z,w,rfl⟩:=C5 hl;simp[v7]
section
variable {P:Program} {C:Ctx} {A A2:Cells} {X:FP} {σ:St} {a:Act} {w w2:World} {F:Nat->FP}
theorem ot (a:Act) (d:Nat) (v:Value) (i:Nat):tmp (a.put (some d) v) i=if d=i/\i < a.tmps.size then v else tmp a i:=by
 simp only[tmp,Act.put,iY,iT];by_cases hd:d=i
 ·subst hd;by_cases hs:d < a.tmps.size <;> simp[hs]
 ·simp[hd]
theorem wg {tv:Value} {s:Slot} {G:FP} {R:Pl} (h:cu P A σ a w tv s G) (hR:c_ w tv s=some R) :
  ∃ (m:Md) (v:R.t.den) (F1:FP),an P w A R.t m R.H v R.cs F1/\(∀ b i,F1 b i<=G b i) /\
   (∀ b o,R.ad=some (b,o)->Has w b o R.cs/\(∀ x i,b_ b o R.t.sz x i+F1 x i<=G x i)/\∀ j,j < R.t.sz->w.frozen? ⟨b,o+j,none⟩=false) /\
   ((∃ v',s=.own R.t m R.H v'/\HEq v v'/\R.ad=none)\/(∃ v',s=.box R.t m R.H v'/\HEq v v'/\R.ad.isSome=true)):=by
 cases s with
 | own t m H v=>
  simp only[c_,aR] at hR;subst hR;obtain ⟨cs,h1,h2⟩:=h;refine ⟨m,v,G,?_,fun _ _=>aN _,(fun b o h=>by cases h),.inl ⟨v,rfl,HEq.rfl,rfl⟩⟩
  rw[h1,lQ (an.length t h2) (an.one t h2)];exact h2
 | box t m H v=>
  obtain ⟨b,o,L,F1,h1,h2,h3,h4,h5,h6⟩:=h;subst h1;simp only[c_,aR] at hR;subst hR;refine ⟨m,v,F1,by rw[dt h3 h2];exact h6,fun x i=>by have:=h5 x i;omega,?_,.inr ⟨v,rfl,HEq.rfl,rfl⟩⟩
  intro b' o' QG;simp only[aR,bS] at QG;obtain ⟨rfl,rfl⟩:=QG;exact ⟨by rw[dt h3 h2];exact h3,h5,h4⟩
 | _=>simp[c_] at hR
theorem wh {tv:Value} {s:Slot} {G:FP} {R:Pl} (h:cu P A σ a w tv s G) (hc:∀ b i,1<=G b i->∀ u,ce w b i=some u->ce w2 b i=some u)
  (hR:c_ w tv s=some R):c_ w2 tv s=some R:=by
 cases s with
 | own t m H v=>exact hR
 | box t m H v=>
  obtain ⟨b,o,L,F1,h1,h2,h3,h4,h5,h6⟩:=h;subst h1;simp only[c_,aR] at hR ⊢
  have:Has w2 b o L:=fun j u hu=>hc _ _ (by
   have hj:j < t.sz:=h2 ▸ (aM.1 hu).1
   have:=h5 b (o+j);simp[b_,hj] at this;omega) u (h3 j u hu)
  rw[dt this h2,<- hR,dt h3 h2]
 | _=>simp[c_] at hR
theorem ve {σ':St} {a':Act} {r:Nat} {p:Path} {G:FP} {pl:Pl} (h:cu P A σ a w (tmp a r) (σ.get r) G) (hg:σ'.get r=σ.get r) (ht:tmp a' r=tmp a r)
  (hA:∀ b i,A b i->∀ u,ce w b i=some u->ce w2 b i=some u) (hc:∀ b i,1<=G b i->∀ u,ce w b i=some u->ce w2 b i=some u)
  (hp:place σ a w r p=some pl):place σ' a' w2 r p=some pl:=by
 unfold place at hp ⊢;rw[hg,ht]
 cases hR:c_ w (tmp a r) (σ.get r) with
 | none=>rw[hR] at hp;cases hp
 | some R=>
  rw[hR] at hp;rw[wh h hc hR];obtain ⟨m,v,F1,h1,h2,_⟩:=wg h hR;exact vL hA p R.t h1 (fun b i hh=>hc b i (bJ hh (h2 b i))) hp
theorem lY {σ:St} {i:Nat} (h:¬ i < σ.n):σ.get i=.dead:=by simp[St.get,h]
theorem sO {r:Nat} {p:Path} {pl:Pl} (h:place σ a w r p=some pl):r < σ.n:=by
 rcases bZ r σ.n with h' | h'
 ·exact h'
 ·simp[place,lY (dK.2 h'),c_] at h
theorem Rel.put (h:Rel P C A X σ a w F) {d:Nat} (hd:d < σ.n) {s:Slot} {v:Value} {Fd X':FP} (hs:cu P A σ a w v s Fd) (ht:∀ b i,X' b i+Fd b i<=X b i+F d b i)
  (QH:∀ t m H v',s=.box t m H v'->∃ b,v=.pointer (some ⟨b,0,none⟩)/\gc w b (t.sz,false)) :
  Rel P C A X' (σ.put d s) (a.put (some d) v) w (fd F d Fd):=by
 have kt:=h.size
 have nF:wZ σ a w (σ.put d s) (a.put (some d) v) w:=by
  intro r p snap hb;rw[yN,St.ok,yN];by_cases hr:d=r
  ·subst hr;simp only[aI];refine ⟨hb.trans (st _),fun bc=>?_⟩
   have h0:=Ez (h.mo d) hb bc;exact ⟨(Eb hb (st _) bc).1,fun hl=>by omega⟩
  ·simp only[bA hr];refine ⟨hb,fun bc=>⟨bc,fun hl pl ip=>⟨pl.H,pl.cs,?_,fun _=>rfl⟩⟩⟩
   exact ve (h.im r (sO ip)) (by rw[w5,bA (fun h=>hr h.1)]) (by rw[ot,bA (fun h=>hr h.1)]) (fun _ _ _ _ h=>h) (fun _ _ _ _ h=>h) ip
 have po:∀ b i,X' b i+ba σ.n (fd F d Fd) b i<=X b i+ba σ.n F b i:=fun b i=>by
  have:=sL F hd Fd b i;have:=ht b i;omega
 refine ⟨by simp[Act.put,kt,St.put],by simpa [Act.put] using h.defers,fun i hi=>?_,?_,fun b i=>bJ (po b i) (h.o5 b i),fun b i hp=>h.pW b i (bJ hp (po b i)),
  fun b i hp=>h.kO b i (hp.imp (fun hp=>bJ hp (po b i)) id),fun i=>?_,h.ext,fun b i hp=>h.own b i (bJ hp (po b i)),h.a0,h.a1,?_,?_,?_⟩
 ·have hi:i < σ.n:=hi;rw[w5,ot,kt];by_cases UN:d=i
  ·subst UN;rw[aU ⟨rfl,hi⟩,aU ⟨rfl,hi⟩];simp only[fd,aI];exact cu.mY nF (fun _ _ h=>h) (fun _ _ _ _ h=>h) (fun _ _ h=>h) (fun _ _ _=>⟨fun _ h=>h,rfl⟩) hs
  ·rw[bA (fun h=>UN h.1),bA (fun h=>UN h.1)];simp only[fd,bA (fun h:i=d=>UN h.symm)];exact cu.mY nF (fun _ _ h=>h) (fun _ _ _ _ h=>h) (fun _ _ h=>h) (fun _ _ _=>⟨fun _ h=>h,rfl⟩) (h.im i hi)
 ·intro d' r p snap hm;obtain ⟨hm,fw⟩:=J8 hm;rw[ot,bA (fun h=>fw h.1.symm)];exact qT.mY nF (h.gh d' r p snap hm)
 ·rw[yN];split
  ·rw[C6];exact h.mo d
  ·exact h.mo i
 ·intro j k hm;obtain ⟨hm,fw⟩:=yq hm;rw[ot,bA (fun h=>fw h.1.symm)];exact h.oA j k hm
 ·intro r t m H v' hg hl;rw[w5] at hg;rw[ot,kt];by_cases zR:d=r/\r < σ.n
  ·rw[aU zR] at hg ⊢;exact QH t m H v' hg
  ·rw[bA zR] at hg ⊢;refine h.whole r t m H v' hg fun k hm=>hl k (Gb hm fun e=>zR ⟨e.symm,?_⟩);rcases bZ r σ.n with hr | hr
   ·exact hr
   ·rw[lY (dK.2 hr)] at hg;cases hg
 ·intro j k hm R hR;obtain ⟨hm,fw⟩:=yq hm;rw[ot,bA (fun h=>fw h.1.symm),w5,bA (fun h=>fw h.1.symm)] at hR;exact h.nw j k hm R hR
theorem Rel.less (h:Rel P C A X σ a w F) {X':FP} (ht:∀ b i,X' b i<=X b i):Rel P C A X' σ a w F:=
 { h with
  o5:=fun b i=>by have:=h.o5 b i;have:=ht b i;omega
  pW:=fun b i hp=>h.pW b i (by have:=ht b i;omega)
  kO:=fun b i hp=>h.kO b i (hp.imp (fun hp=>by have:=ht b i;omega) id)
  own:=fun b i hp=>h.own b i (by have:=ht b i;omega) }
theorem Ext.refl (w:World) (F:FP):Ext w w F:=⟨aN _,fun _ _ _ _ _ h=>h,fun _ _ h=>h,fun _ _ _=>rfl,rfl,rfl,rfl,fun _ _ _=>rfl,aN _⟩
theorem Ext.mono {F F':FP} (h:Ext w w2 F) (hF:∀ b i,F' b i=0->F b i=0):Ext w w2 F':={ h with cell:=fun b i hb hz=>h.cell b i hb (hF b i hz),obj:=fun b hb hz=>h.obj b hb fun i=>hF b i (hz i) }
theorem Ext.trans {w3:World} {F G:FP} (h:Ext w w2 F) (h2:Ext w2 w3 G) (hG:∀ b i,b < w.heap.size->F b i=0->G b i=0):Ext w w3 F:=
 ⟨bJ h.size h2.size,fun b i hb hz u hu=>h2.cell b i (cP hb h.size) (hG b i hb hz) u (h.cell b i hb hz u hu),fun b n hn=>h2.tQ b n (h.tQ b n hn),
  fun b i hb=>(h2.xQ b i (cP hb h.size)).trans (h.xQ b i hb),h2.os.trans h.os,h2.tape.trans h.tape,h2.output.trans h.output,
  fun b hb hz=>(h2.obj b (cP hb h.size) fun i=>hG b i hb (hz i)).trans (h.obj b hb hz),bJ h.drawn h2.drawn⟩
theorem Rel.ye (h:Rel P C A X σ a w F) {r:Nat} (hr:r < σ.n) {σ':St} (hn:σ'.n=σ.n) (ua:∀ i,i≠r->σ'.get i=σ.get i) (WU:∀ i,i≠r->σ'.lw i=σ.lw i)
  (ZW:Below (σ.lw r) (σ'.lw r)) (zb:(σ'.lw r).length=5) (Br:∀ e,e ∈ σ'.aT->e ∈ σ.aT) (WV:∀ j k,(j,k,false) ∈ σ.aT->(j,k,false) ∈ σ'.aT) (QI:∀ e,e ∈ σ'.gh->e ∈ σ.gh)
  {X2 J9:FP} {R:Pl} {H2:List Path} {c9:List Value} (hs:cu P A2 σ' a w2 (tmp a r) (σ'.get r) J9) (hR:c_ w (tmp a r) (σ.get r)=some R)
  (ZX:c_ w2 (tmp a r) (σ'.get r)=some ⟨R.t,H2,c9,R.ad⟩)
  (c6:∀ (p:Path) (snap:List Nat),Below snap (σ.lw r)->σ'.ok r snap=true->(snap.length=min 5 (1+dh p)\/snap.length=min 5 (2+dh p)\/snap.length=5) ->
   ∃ D full,dh p<=D/\(snap.length=min 5 (2+dh p)->dh p < D\/full)/\(snap.length=5->full)/\rr D full w R.t R.H R.cs R.ad w2 H2 c9)
  (hA:∀ b i,A b i->A2 b i) (uT:∀ b i,A2 b i->A b i\/(1<=X b i+F r b i/\X2 b i+J9 b i=0))
  (hx:∀ b i,X2 b i+J9 b i<=X b i+F r b i) (hw:Ext w w2 fun b i=>X b i+F r b i) (SZ:∀ t m H v,σ'.get r=.box t m H v->∃ m0 H0 v0,σ.get r=.box t m0 H0 v0) (zd:∀ k,(r,k,true) ∈ σ'.aT->c9=R.cs) :
  Rel P C A2 X2 σ' a w2 (fd F r J9):=by
 have hle:∀ b i,X b i+F r b i<=X b i+ba σ.n F b i:=fun b i=>by have:=c7 F hr b i;omega
 have sq:∀ b i,A b i->∀ u,ce w b i=some u->ce w2 b i=some u:=fun b i ha u hu=>by
  refine hw.cell b i (h.kO b i (.inr ha)) ?_ u hu;rcases bF (X b i+F r b i) with h0 | h0
  ·exact h0
  ·exact absurd ha (h.pW b i (bJ h0 (hle b i)))
 have C9:∀ j,j < σ.n->j≠r->∀ b i,1<=F j b i->(∀ u,ce w b i=some u->ce w2 b i=some u)/\w2.frozen? ⟨b,i,none⟩=w.frozen? ⟨b,i,none⟩:=fun j hj QJ b i hp=>by
  have h1:=tY F hj hr QJ b i;have h2:=h.o5 b i;have hb:=h.kO b i (.inl (by have:=c7 F hj b i;omega));exact ⟨fun u hu=>hw.cell b i hb (by show X b i+F r b i=0;omega) u hu,hw.xQ b i hb⟩
 have nF:wZ σ a w σ' a w2:=by
  intro r' p snap hb;by_cases J_:r'=r
  ·subst J_;refine ⟨hb.trans ZW,fun bc=>?_⟩
   refine ⟨(Eb hb ZW bc).1,fun hl pl ip=>?_⟩
   obtain ⟨D,full,h1,h2,h3,h4⟩:=c6 p snap hb bc hl;unfold place at ip ⊢;rw[hR] at ip;rw[ZX];obtain ⟨H',br,h5,h6⟩:=h4 p pl h1 ip;refine ⟨H',br,h5,fun h7=>h6 ?_⟩
   rcases h7 with ⟨h7,h8⟩ | h7
   ·exact (h2 h8).imp (fun h=>⟨h,h7⟩) id
   ·exact .inr (h3 h7)
  ·rw[St.ok,WU r' J_];refine ⟨hb,fun bc=>⟨bc,fun hl pl ip=>⟨pl.H,pl.cs,?_,fun _=>rfl⟩⟩⟩
   have aj:=sO ip;exact ve (h.im r' aj) (ua r' J_) rfl sq (fun b i hp=>(C9 r' aj J_ b i hp).1) ip
 have po:∀ b i,X2 b i+ba σ.n (fd F r J9) b i<=X b i+ba σ.n F b i:=fun b i=>by
  have:=sL F hr J9 b i;have:=hx b i;omega
 refine ⟨by rw[hn];exact h.size,h.defers,fun i hi=>?_,fun d r' p snap hm=>qT.mY nF (h.gh d r' p snap (QI _ hm)),fun b i=>by rw[hn];exact bJ (po b i) (h.o5 b i),fun b i hp ha=>?_,
  fun b i hp=>?_,fun i=>?_,h.ext.trans hw fun b i hb hz=>?_,fun b i hp=>by rw[hn] at hp;exact h.own b i (bJ hp (po b i)),fun b i ha=>hA b i (h.a0 b i ha),fun b i ha=>?_,
  fun j k hm=>h.oA j k (Br _ hm),fun r' t m H v hg hl=>?_,fun j k hm R' jV=>?_⟩
 ·rw[hn] at hi;by_cases Ge:i=r
  ·subst Ge;simp only[fd,aI];exact hs
  ·simp only[fd,bA Ge];rw[ua i Ge];exact cu.mY nF hA sq hw.tQ (C9 i hi Ge) (h.im i hi)
 ·rw[hn] at hp
  rcases uT b i ha with ha | ⟨h1,h2⟩
  ·exact h.pW b i (bJ hp (po b i)) ha
  ·have h3:=h.o5 b i;have h4:=sL F hr J9 b i;omega
 ·rw[hn] at hp;refine cP (h.kO b i ?_) hw.size;rcases hp with hp | ha
  ·exact .inl (bJ hp (po b i))
  ·rcases uT b i ha with ha | ⟨h1,_⟩
   ·exact .inr ha
   ·exact .inl (bJ h1 (hle b i))
 ·by_cases Ge:i=r
  ·subst Ge;exact zb
  ·rw[WU i Ge];exact h.mo i
 ·rcases bF (X b i+F r b i) with h0 | h0
  ·exact h0
  ·have:=h.own b i (bJ h0 (hle b i));omega
 ·rcases uT b i ha with ha | ⟨h1,_⟩
  ·exact h.a1 b i ha
  ·exact .inr (h.own b i (bJ h1 (hle b i)))
 ·have:∃ m0 H0 v0,σ.get r'=.box t m0 H0 v0:=by
   by_cases J_:r'=r
   ·subst J_;exact SZ t m H v hg
   ·rw[ua r' J_] at hg;exact ⟨m,H,v,hg⟩
  obtain ⟨m0,H0,v0,QL⟩:=this;obtain ⟨b,h1,h2⟩:=h.whole r' t m0 H0 v0 QL fun k hm=>hl k (WV _ _ hm);exact ⟨b,h1,hw.tQ _ _ h2⟩
 ·by_cases QJ:j=r
  ·subst QJ;rw[ZX] at jV;injection jV with jV;subst jV;show cg R.t c9=_;rw[zd k hm];exact h.nw j k (Br _ hm) R hR
  ·rcases bZ j σ.n with hj | hj
   ·rw[ua j QJ] at jV;have oq:=h.im j hj
    cases uU:c_ w (tmp a j) (σ.get j) with
    | none=>exfalso;cases hg:σ.get j <;> rw[hg] at uU jV <;> simp only[c_] at uU jV <;> first | (cases jV;done) | (cases uU;done) | (split at uU <;> simp_all)
    | some R0=>
     rw[wh oq (fun b i hp=>(C9 j hj QJ b i hp).1) uU] at jV;injection jV with jV;subst jV;exact h.nw j k (Br _ hm) _ uU
   ·rw[lY (by rw[hn];omega)] at jV;cases jV
end
end OT
set_option linter.unusedVariables false
set_option linter.unusedSimpArgs false
namespace OT
open Go
def je (ad:Option (Nat×Nat)) (n:Nat):FP:=fun b i=>match ad with
 | some (b',o)=>b_ b' o n b i
 | none=>0
section
variable {P:Program} {C:Ctx} {A:Cells} {X:FP} {σ:St} {a:Act} {w:World} {F:Nat->FP} {R:Type} {x:R}
theorem Gf {r:Nat} {K:(t:Ty)->Md->List Path->t.den->Option R} (h:v_ σ r K=some x) :
  r < σ.n/\∃ t m H v,(σ.get r=.own t m H v\/σ.get r=.box t m H v)/\K t m H v=some x:=by
 unfold v_ at h;rcases bZ r σ.n with hr | hr
 ·refine ⟨hr,?_⟩
  split at h
  ·rename_i t m H v hg;exact ⟨t,m,H,v,.inl hg,h⟩
  ·rename_i t m H v hg;exact ⟨t,m,H,v,.inr hg,h⟩
  ·cases h
 ·rw[lY (dK.2 hr)] at h;cases h
structure WW (P:Program) (A:Cells) (σ:St) (a:Act) (w:World) (r:Nat) (G:FP) (t:Ty) (m:Md) (H:List Path) (v:t.den) (cs:List Value) (ad:Option (Nat×Nat)) (F1:FP):Prop where
 root:c_ w (tmp a r) (σ.get r)=some ⟨t,H,cs,ad⟩
 rep:an P w A t m H v cs F1
 le:∀ b i,je ad t.sz b i+F1 b i<=G b i
 has:∀ b o,ad=some (b,o)->Has w b o cs
 xQ:∀ b o,ad=some (b,o)->∀ j,j < t.sz->w.frozen? ⟨b,o+j,none⟩=false
 val:ad=none->tmp a r=cg t cs/\σ.get r=.own t m H v
 ptr:∀ b o,ad=some (b,o)->tmp a r=.pointer (some ⟨b,o,none⟩)/\σ.get r=.box t m H v
theorem cu.root {r:Nat} {G:FP} (h:cu P A σ a w (tmp a r) (σ.get r) G) {t:Ty} {m:Md} {H:List Path} {v:t.den} (hg:σ.get r=.own t m H v\/σ.get r=.box t m H v) :
  ∃ cs ad F1,WW P A σ a w r G t m H v cs ad F1:=by
 rcases hg with hg | hg
 ·rw[hg] at h;obtain ⟨cs,h1,h2⟩:=h;refine ⟨cs,none,G,by rw[hg];simp only[c_,h1,lQ (an.length t h2) (an.one t h2)],h2,fun b i=>by simp[je],(fun b o h=>by cases h),(fun b o h=>by cases h),fun _=>⟨h1,hg⟩,(fun b o h=>by cases h)⟩
 ·rw[hg] at h;obtain ⟨b,o,L,F1,h1,h2,h3,h4,h5,h6⟩:=h;refine ⟨L,some (b,o),F1,by rw[hg,h1];simp only[c_,dt h3 h2],h6,fun b i=>h5 b i,?_,?_,(fun h=>by cases h),?_⟩
  ·intro b' o' e;simp only[aR,bS] at e;obtain ⟨rfl,rfl⟩:=e;exact h3
  ·intro b' o' e;simp only[aR,bS] at e;obtain ⟨rfl,rfl⟩:=e;exact h4
  ·intro b' o' e;simp only[aR,bS] at e;obtain ⟨rfl,rfl⟩:=e;exact ⟨h1,hg⟩
theorem mf (h:Rel P C A X σ a w F) {r:Nat} {p:Path} {K:(t:Ty)->Md->List Path->t.den->Option R} (hk:pK σ r p K=some x) :
  r < σ.n/\∃ (t':Ty) (m':Md) (H':List Path) (v':t'.den) (br:List Value) (cr:Option (Nat×Nat)) (F':FP),K t' m' H' v'=some x/\(∀ {S:Type} (K0:(t:Ty)->Md->List Path->t.den->Option S),pK σ r p K0=K0 t' m' H' v')/\place σ a w r p=some ⟨t',H',br,cr⟩/\an P w A t' m' H' v' br F' /\
   (∀ b i,F' b i<=F r b i)/\(∀ b o,cr=some (b,o)->Has w b o br):=by
 obtain ⟨hr,t,m,H,v,hg,hk⟩:=Gf hk;obtain ⟨cs,ad,F1,RO⟩:=(h.im r hr).root hg;obtain ⟨t',m',H',v',br,cr,F',h1,hn,h2,h3,h4,h5,_⟩:=WM p t hk RO.rep (ad:=ad) RO.has;refine ⟨hr,t',m',H',v',br,cr,F',h1,fun K0=>?_,?_,h3,fun b i=>by have:=h4 b i;have:=RO.le b i;omega,h5⟩
 ·unfold pK v_;rcases hg with hg | hg <;> rw[hg] <;> exact hn K0
 unfold place;rw[RO.root];exact h2
theorem xj (r:Nat) (t:Ty) (m:Md) (H:List Path) (v:t.den) (i:Nat) (h:i≠r):(σ.km r t m H v).get i=σ.get i:=by
 unfold St.km;split <;> rw[Ec,bA (fun e=>h e.1.symm)]
theorem wi {r:Nat} (hr:r < σ.n) {t t0:Ty} {m m0:Md} {H H0:List Path} {v0:t0.den} (v:t.den) (h:σ.get r=.own t0 m0 H0 v0):(σ.km r t m H v).get r=.own t m H v:=by
 unfold St.km;rw[h];simp only[];rw[Ec,aU ⟨rfl,hr⟩]
theorem wj {r:Nat} (hr:r < σ.n) {t t0:Ty} {m m0:Md} {H H0:List Path} {v0:t0.den} (v:t.den) (h:σ.get r=.box t0 m0 H0 v0):(σ.km r t m H v).get r=.box t m H v:=by
 unfold St.km;rw[h];simp only[];rw[Ec,aU ⟨rfl,hr⟩]
theorem ub (r:Nat) (t:Ty) (m:Md) (H:List Path) (v:t.den):(σ.km r t m H v).n=σ.n:=by unfold St.km;split <;> rfl
theorem qG (r:Nat) (t:Ty) (m:Md) (H:List Path) (v:t.den) (i:Nat):(σ.km r t m H v).lw i=σ.lw i:=by unfold St.km;split <;> rfl
theorem su (r:Nat) (t:Ty) (m:Md) (H:List Path) (v:t.den):(σ.km r t m H v).aT=σ.aT:=by unfold St.km;split <;> rfl
theorem Bs (r:Nat) (t:Ty) (m:Md) (H:List Path) (v:t.den):(σ.km r t m H v).gh=σ.gh:=by unfold St.km;split <;> rfl
def qy (σ σ':St):Prop:=∀ (w:World) (tv:Value) (i:Nat) (R:Pl),c_ w tv (σ'.get i)=some R->∃ H,c_ w tv (σ.get i)=some ⟨R.t,H,R.cs,R.ad⟩
theorem qy.refl (σ:St):qy σ σ:=fun w tv i R h=>⟨R.H,h⟩
theorem qy.trans {σ σ' w7:St} (h:qy σ σ') (h':qy σ' w7):qy σ w7:=by
 intro w tv i R0 hR;obtain ⟨H,h1⟩:=h' w tv i R0 hR;exact h w tv i ⟨R0.t,H,R0.cs,R0.ad⟩ h1
theorem xR {r:Nat} (hr:r < σ.n) {t:Ty} {m m0:Md} {H H0:List Path} {v0:t.den} (v:t.den) (h:σ.get r=.own t m0 H0 v0\/σ.get r=.box t m0 H0 v0) {σ':St} (hg:∀ i,σ'.get i=(σ.km r t m H v).get i):qy σ σ':=by
 intro w tv i R hR;rw[hg] at hR;by_cases hi:i=r
 ·subst hi;rcases h with h | h
  ·rw[wi hr v h] at hR;rw[h];simp only[c_,aR] at hR ⊢;subst hR;exact ⟨H0,rfl⟩
  ·rw[wj hr v h] at hR;rw[h];simp only[c_] at hR ⊢;split at hR
   ·injection hR with hR;subst hR;exact ⟨H0,rfl⟩
   ·cases hR
 ·rw[xj r t m H v i hi] at hR;exact ⟨R.H,hR⟩
structure S4 (σ:St) (r:Nat) (s:Slot) (WX:Prop) (σ':St):Prop where
 n:σ'.n=σ.n
 get:∀ i,i≠r->σ'.get i=σ.get i
 root:σ'.get r=s
 lw:∀ i,i≠r->σ'.lw i=σ.lw i
 below:Below (σ.lw r) (σ'.lw r)
 mo:(σ'.lw r).length=5
 aT:∀ e,e ∈ σ'.aT->e ∈ σ.aT
 UO:∀ j k,(j,k,false) ∈ σ.aT->(j,k,false) ∈ σ'.aT
 gh:∀ e,e ∈ σ'.gh->e ∈ σ.gh
 head:∀ k,(r,k,true) ∈ σ'.aT->WX
theorem Rel.OD (h:Rel P C A X σ a w F) {r:Nat} {p:Path} {f:(t':Ty)->Md->List Path->t'.den->(Md->List Path->t'.den->Option R)->Option R}
  {Kf:(t:Ty)->Md->List Path->t.den->Option R} (hk:v_ σ r (fun t0 m0 H0 v0=>qS p t0 m0 H0 v0 f fun m' H' v'=>Kf t0 m' H' v')=some x) :
  r < σ.n/\∃ (t':Ty) (m':Md) (H':List Path) (v':t'.den) (br:List Value) (cr:Option (Nat×Nat)) (F':FP) (kk:Md->List Path->t'.den->Option R),
   f t' m' H' v' kk=some x/\(∀ {S:Type} (K0:(t:Ty)->Md->List Path->t.den->Option S),pK σ r p K0=K0 t' m' H' v')/\place σ a w r p=some ⟨t',H',br,cr⟩/\an P w A t' m' H' v' br F' /\
   (∀ b i,je cr t'.sz b i+F' b i<=F r b i)/\(∀ b o,cr=some (b,o)->Has w b o br)/\(∀ b o,cr=some (b,o)->∀ j,j < t'.sz->w.frozen? ⟨b,o+j,none⟩=false) /\
   ∀ m2 H2 (v2:t'.den),kk m2 H2 v2=some x->∀ (w2:World) (A2:Cells) (c9:List Value) (F2 X2:FP),
    Ext w w2 (fun b i=>X b i+(F' b i+je cr t'.sz b i))->(∀ b i,A b i->A2 b i)->(∀ b i,A2 b i->A b i\/(1<=X b i+F' b i/\X2 b i+F2 b i=0)) ->
    (∀ b i,X2 b i+F2 b i<=X b i+F' b i)->(∀ b o,cr=some (b,o)->Has w2 b o c9)->(cr=none->c9=br)->an P w2 A2 t' m2 H2 v2 c9 F2 ->
    ∃ (t0:Ty) (m3:Md) (H3:List Path) (v3:t0.den) (Fr:FP) (A3:Cells),Kf t0 m3 H3 v3=some x/\(∃ (m0:Md) (H0:List Path) (v0:t0.den),σ.get r=.own t0 m0 H0 v0\/σ.get r=.box t0 m0 H0 v0)/\(∀ b i,A2 b i->A3 b i)/\(∀ b i,Fr b i<=F r b i+X b i) /\
     ∀ σ',S4 σ r ((σ.km r t0 m3 H3 v3).get r) (1<=dh p\/c9=br) σ' ->
      (∀ (p':Path) (snap:List Nat),Below snap (σ.lw r)->σ'.ok r snap=true->(snap.length=min 5 (1+dh p')\/snap.length=min 5 (2+dh p')\/snap.length=5) ->
       ∃ D full,dh p'<=D+dh p/\(snap.length=min 5 (2+dh p')->dh p' < D+dh p\/full)/\(snap.length=5->full)/\rr D full w t' H' br cr w2 H2 c9) ->
      Rel P C A3 X2 σ' a w2 (fd F r Fr):=by
 obtain ⟨hr,t,m,H,v,hg,hk⟩:=Gf hk;obtain ⟨cs,ad,F1,RO⟩:=(h.im r hr).root hg;have yf:∀ b i,X b i+F r b i<=1:=fun b i=>by have:=h.o5 b i;have:=c7 F hr b i;omega
 have t7:∀ b o,ad=some (b,o)->∀ j,j < t.sz->F1 b (o+j)=0:=fun b o e j hj=>by
  have h1:=RO.le b (o+j);have h2:=yf b (o+j)
  rw[e] at h1;simp[je,b_,hj] at h1;omega
 obtain ⟨t',m',H',v',br,cr,F',G,kk,loc,M⟩:=WN p t hk RO.rep (fun b i=>by have:=yf b i;have:=RO.le b i;omega) RO.has t7;have hlen:=an.length t RO.rep
 have xz:∀ b i,je cr t'.sz b i+F' b i<=F r b i/\(1<=je cr t'.sz b i->1<=G b i\/1<=je ad t.sz b i)/\je cr t'.sz b i<=1:=fun b i=>by
  have h1:=M.sum b i;have h2:=RO.le b i;have h3:=yf b i
  cases fm:cr with
  | none=>simp only[je];omega
  | some bo=>
   obtain ⟨b0,o0⟩:=bo;simp only[je,b_];split
   ·rename_i jd;obtain ⟨rfl,WY,S5⟩:=jd
    cases loc with
    | none=>
     obtain ⟨b',o',e1,e2⟩:=M.out rfl;rw[fm] at e1;simp only[aR,bS] at e1;obtain ⟨rfl,rfl⟩:=e1;have:=(e2 (i - o0) (by omega)).1;rw[show o0+(i - o0)=i by omega] at this;omega
    | some off=>
     obtain ⟨e1,e2,e3⟩:=M.tn off rfl
     cases uZ:ad with
     | none=>rw[fm,uZ] at e3;cases e3
     | some y=>
      rw[fm,uZ] at e3;simp only[gd,cD,aR,bS] at e3;obtain ⟨rfl,rfl⟩:=e3;have t8:b_ y.1 y.2 t.sz y.1 i=1:=by simp[b_];omega
      rw[uZ] at h2;simp only[je,t8] at h2 ⊢;simp only[b_] at t8;omega
   ·omega
 refine ⟨hr,t',m',H',v',br,cr,F',kk,M.run,fun K0=>?_,by unfold place;rw[RO.root];exact M.place,M.rep,fun b i=>(xz b i).1,M.has,fun b o e j hj=>?_,?_⟩
 ·unfold pK v_;rcases hg with hg | hg <;> rw[hg] <;> exact M.QC K0
 ·cases loc with
  | none=>
   obtain ⟨b',o',e1,e2⟩:=M.out rfl;rw[e] at e1;simp only[aR,bS] at e1;obtain ⟨rfl,rfl⟩:=e1;exact (e2 j hj).2
  | some off=>
   obtain ⟨e1,e2,e3⟩:=M.tn off rfl
   cases uZ:ad with
   | none=>rw[e,uZ] at e3;cases e3
   | some y=>
    rw[e,uZ] at e3;simp only[gd,cD,aR,bS] at e3;obtain ⟨rfl,rfl⟩:=e3;have:=RO.xQ y.1 y.2 uZ (off+j) (by omega)
    rwa [<-cE] at this
 intro m2 H2 v2 C_ w2 A2 c9 F2 X2 dm hA uT hX xS F_ Ed;have to:=an.length t' Ed
 have sq:∀ b i,A b i->∀ u,ce w b i=some u->ce w2 b i=some u:=fun b i ha u hu=>by
  refine dm.cell b i (h.kO b i (.inr ha)) ?_ u hu;have h1:=(xz b i).1;have h2:=c7 F hr b i;have h3:=h.pW b i;show X b i+(F' b i+je cr t'.sz b i)=0;rcases bF (X b i+ba σ.n F b i) with h0 | h0
  ·omega
  ·exact absurd ha (h3 h0)
 have ZY:∀ b i,1<=G b i\/1<=je ad t.sz b i->(∀ o,cr=some (b,o)->¬ (o<=i/\i < o+t'.sz))->∀ u,ce w b i=some u->ce w2 b i=some u:=fun b i hp hn u hu=>by
  have h1:=xz b i;have h2:=yf b i;have h3:=M.sum b i;have h4:=RO.le b i
  refine dm.cell b i (h.kO b i (.inl (by have:=c7 F hr b i;omega))) ?_ u hu;show X b i+(F' b i+je cr t'.sz b i)=0
  have h5:je cr t'.sz b i=0:=by
   cases fm:cr with
   | none=>rfl
   | some bo=>
    obtain ⟨b0,o0⟩:=bo;simp only[je,b_];split
    ·rename_i jd;obtain ⟨rfl,WY,S5⟩:=jd;exact absurd ⟨WY,S5⟩ (hn o0 fm)
    ·rfl
  omega
 have YU:∀ b i,F2 b i+G b i<=1:=fun b i=>by
  have:=hX b i;have:=M.sum b i;have:=RO.le b i;have:=yf b i;omega
 obtain ⟨m3,H3,v3,F3,k1,k2,k3,k4⟩:=M.back m2 H2 v2 C_ w2 A2 c9 F2 dm.tQ hA sq (fun b i hp hn=>ZY b i (.inl hp) hn) xS Ed YU
 have QM:(lM loc cs t'.sz c9).length=t.sz:=by
  cases loc with
  | none=>exact hlen
  | some off=>have:=(M.tn off rfl).1;simp only[lM];rw[uB (by omega) to,hlen]
 have wd:c9=br->lM loc cs t'.sz c9=cs:=fun e=>by
  cases loc with
  | none=>rfl
  | some off=>
   obtain ⟨e1,e2,_⟩:=M.tn off rfl;rw[e,e2];exact y_ (by omega)
 have OE:∀ b o,ad=some (b,o)->Has w2 b o (lM loc cs t'.sz c9):=fun b o e=>by
  have cells:∀ j u,cs[j]?=some u->(∀ o',cr=some (b,o')->¬ (o'<=o+j/\o+j < o'+t'.sz))->ce w2 b (o+j)=some u:=fun j u hu hn=>by
   have hj:j < t.sz:=hlen ▸ (aM.1 hu).1;exact ZY b (o+j) (.inr (by rw[e];simp[je,b_,hj])) hn u (RO.has b o e j u hu)
  cases Ka:loc with
  | none=>
   intro j u hu;refine cells j u hu fun o' he jd=>?_;have hj:j < t.sz:=hlen ▸ (aM.1 hu).1;obtain ⟨b',o'',e1,e2⟩:=M.out Ka;rw[he] at e1;simp only[aR,bS] at e1;obtain ⟨rfl,rfl⟩:=e1;have h1:=(e2 (o+j - o') (by omega)).1;rw[show o'+(o+j - o')=o+j by omega] at h1;have h2:=RO.le b (o+j);have h3:=yf b (o+j);have h4:=M.sum b (o+j)
   rw[e] at h2;simp[je,b_,hj] at h2;omega
  | some off=>
   obtain ⟨e1,e2,e3⟩:=M.tn off Ka;rw[e] at e3;simp only[gd,cD] at e3
   exact Nw (by omega) to (xS b (o+off) e3) (fun j u hu hn=>cells j u hu fun o' he jd=>by
    rw[e3] at he;simp only[aR,bS] at he
    omega)
 refine ⟨t,m3,H3,v3,fun b i=>je ad t.sz b i+F3 b i,fun b i=>A2 b i\/(1<=F2 b i+G b i/\F3 b i=0),k1,⟨m,H,v,hg⟩,fun _ _ h=>.inl h,fun b i=>?_,fun σ' on c6=>?_⟩
 ·have h1:=k2 b i;have h2:=hX b i;have h3:=M.sum b i;have h4:=RO.le b i
  show je ad t.sz b i+F3 b i<=_;omega
 have OF:=k3 (fun b i=>A2 b i\/(1<=F2 b i+G b i/\F3 b i=0)) (fun _ _ h=>.inl h) (fun b i h1 h2=>.inr ⟨h1,h2⟩)
 have Jw:cu P (fun b i=>A2 b i\/(1<=F2 b i+G b i/\F3 b i=0)) σ' a w2 (tmp a r) (σ'.get r) (fun b i=>je ad t.sz b i+F3 b i)/\c_ w2 (tmp a r) (σ'.get r)=some ⟨t,H3,lM loc cs t'.sz c9,ad⟩:=by
  rw[on.root]
  cases uZ:ad with
  | none=>
   obtain ⟨e1,e2⟩:=RO.val uZ
   have e3:lM loc cs t'.sz c9=cs:=by
    cases Ka:loc with
    | none=>rfl
    | some off=>
     have:=(M.tn off Ka).2.2;rw[uZ] at this;rw[<-Ka];exact wd (F_ this)
   rw[wi hr v3 e2];rw[e3] at OF ⊢;exact ⟨⟨cs,e1,an.le OF (fun b i=>by show F3 b i<=je none t.sz b i+F3 b i;omega)⟩,by simp only[c_,e1,lQ hlen (an.one t RO.rep)]⟩
  | some bo=>
   obtain ⟨b,o⟩:=bo;obtain ⟨e1,e2⟩:=RO.ptr b o uZ;rw[wj hr v3 e2,e1];have hh:=OE b o uZ;refine ⟨⟨b,o,_,F3,rfl,QM,hh,fun j hj=>?_,fun b' i=>?_,OF⟩,by simp only[c_,dt hh QM]⟩
   ·have hb:b < w.heap.size:=h.kO b (o+j) (.inl (by
     have h1:=RO.le b (o+j);have h2:=c7 F hr b (o+j)
     rw[uZ] at h1;simp[je,b_,hj] at h1
     omega))
    rw[dm.xQ b (o+j) hb];exact RO.xQ b o uZ j hj
   ·exact aN _
 refine h.ye hr on.n on.get on.lw on.below on.mo on.aT on.UO on.gh Jw.1 RO.root Jw.2 (fun p' snap h1 h2 h3=>?_) (fun b i ha=>.inl (hA b i ha)) (fun b i ha=>?_) (fun b i=>?_) (dm.mono fun b i hz=>?_) (fun t5 m5 H5 v5 QN=>?_) (fun k hm=>?_)
 ·obtain ⟨D,full,q1,q2,q3,q4⟩:=c6 p' snap h1 h2 h3;exact ⟨D+dh p,full,q1,q2,q3,k4 D full q4⟩
 ·have h1:=hX b i;have h2:=k2 b i;have h3:=M.sum b i;have h4:=RO.le b i;have h5:=yf b i
  rcases ha with ha | ⟨ha1,ha2⟩
  ·rcases uT b i ha with ha | ⟨ha1,ha2⟩
   ·exact .inl ha
   ·right;omega
  ·right;omega
 ·have h1:=hX b i;have h2:=k2 b i;have h3:=M.sum b i;have h4:=RO.le b i
  show X2 b i+(je ad t.sz b i+F3 b i)<=_;omega
 ·have h1:=(xz b i).1;show X b i+(F' b i+je cr t'.sz b i)=0;omega
 ·rw[on.root] at QN;rcases hg with hg | hg
  ·rw[wi hr v3 hg] at QN;cases QN
  ·rw[wj hr v3 hg] at QN;injection QN with e1 e2 e3 e4;subst e1;exact ⟨_,_,_,hg⟩
 ·rcases on.head k hm with hp | he
  ·rw[M.OA hp];rfl
  ·exact wd he
end
end OT
set_option linter.unusedVariables false
set_option linter.unusedSimpArgs false
namespace OT
open Go
theorem an.UP {P:Program} {w:World} {A:Cells}:∀ (t:Ty) {m:Md} {H:List Path} {v:t.den} {cs:List Value} {F:FP},an P w A t m H v cs F->an P w A t m (sn t) v cs (fun _ _=>0):=by
 intro t
 induction t with
 | pair a b kN kE=>
  intro m H v cs F h;obtain ⟨_,F1,F2,hs,h1,h2⟩:=h;refine ⟨by rw[sn,rZ,qp,qp];rfl,fun _ _=>0,fun _ _=>0,fun _ _=>aN _,?_,?_⟩
  ·rw[sn,cT,tk,tZ,cH];exact kN h1
  ·rw[sn,cT,t6,tm,bP];exact kE h2
 | U e ih=>
  intro m H v cs F h;have h1:=an.length _ h;have h2:=an.one _ h
  match cs,h1 with
  | [y],_=>simp only[an,sn,hole,fV,cS,fO,aI];exact ⟨y,rfl,h2 y (by simp)⟩
 | ptr e ih=>
  intro m H v cs F h;have h1:=an.length _ h;have h2:=an.one _ h
  match cs,h1 with
  | [y],_=>simp only[an,sn,hole,fV,cS,fO,aI];exact ⟨y,rfl,h2 y (by simp)⟩
 | arr n e ih=>intro m H v cs F h;rw[sn,h.2.1];obtain ⟨rfl,h⟩:=h;exact ⟨rfl,h⟩
 | map k v=>
  intro m H v cs F h;have h1:=an.length _ h;have h2:=an.one _ h
  match cs,h1 with
  | [y],_=>simp only[an,sn,hole,fV,cS,fO,aI];exact ⟨y,rfl,h2 y (by simp)⟩
 | _=>intro m H v cs F h;exact h
section
variable {P:Program} {C:Ctx} {A:Cells} {X:FP} {σ:St} {a:Act} {w:World} {F:Nat->FP} {R:Type} {x:R}
structure At (σ:St) (r:Nat) (p:Path) (t:Ty) (m:Md) (H:List Path) (v:t.den):Prop where
 eq:∀ {S:Type} (K0:(t:Ty)->Md->List Path->t.den->Option S),pK σ r p K0=K0 t m H v
theorem At.inj {r:Nat} {p:Path} {t t':Ty} {m m':Md} {H H':List Path} {v:t.den} {v':t'.den} (h:At σ r p t m H v) (h':At σ r p t' m' H' v'):t=t'/\m=m'/\H=H'/\HEq v v':=by
 have h1:=h.eq (fun t m H v=>some (⟨t,m,H,v⟩:(t:Ty)×Md×List Path×t.den));rw[h'.eq] at h1;injection h1 with h1;injection h1 with h1 h2;subst h1;have h2:=iA h2;simp only[bS] at h2;exact ⟨rfl,h2.1.symm,h2.2.1.symm,heq_of_eq h2.2.2.symm⟩
theorem Gg (σ:St) (r d:Nat):(σ.head r d).n=σ.n:=by unfold St.head;split <;> rfl
theorem ze (σ:St) (r d i:Nat):(σ.head r d).get i=σ.get i:=by unfold St.head;split <;> rfl
theorem zf (σ:St) (r d i:Nat):(σ.head r d).lw i=σ.lw i:=by unfold St.head;split <;> rfl
theorem NB (σ:St) (r d:Nat):(σ.head r d).gh=σ.gh:=by unfold St.head;split <;> rfl
theorem Kb {r d:Nat} {f:List Nat->List Nat} (h1:Below (σ.lw r) (f (σ.lw r))) (h2:(f (σ.lw r)).length=5) {t:Ty} {m:Md} {H:List Path} {v:t.den} {q:Prop} (hq:1<=d->q) :
  S4 σ r ((σ.km r t m H v).get r) q (((σ.km r t m H v).lX r f).head r d) where
 n:=by rw[Gg];exact ub r t m H v
 get i hi:=by rw[ze];exact xj r t m H v i hi
 root:=by rw[ze];rfl
 lw i hi:=by rw[zf,qx,bA (fun e=>hi e.symm),qG]
 below:=by rw[zf,qx,aU rfl,qG];exact h1
 mo:=by rw[zf,qx,aU rfl,qG];exact h2
 aT e he:=by
  unfold St.head at he;split at he
  ·have:=(Gc he).1;simp only[St.lX,su] at this;exact this
  ·simp only[St.lX,su] at he;exact he
 UO j k hm:=by
  unfold St.head;split
  ·refine OC ?_;simp only[St.lX,su];exact hm
  ·simp only[St.lX,su];exact hm
 gh e he:=by rw[NB] at he;simp only[St.lX,Bs] at he;exact he
 head k hm:=by
  unfold St.head at hm;split at hm
  ·exact absurd ⟨rfl,rfl⟩ (Gc hm).2
  ·rename_i hd;exact hq (Nat.pos_of_ne_zero hd)
theorem Kc (h:Rel P C A X σ a w F) {r:Nat} {p:Path} {K:St->Option R} (hk:yo σ r p K=some x) {t':Ty} {m':Md} {H':List Path} {v':t'.den} (hn:At σ r p t' m' H' v') :
  ∃ (A':Cells) (σ':St) (F':Nat->FP) (cs:List Value) (ad:Option (Nat×Nat)) (Fv:FP),K σ'=some x/\(∀ b i,A b i->A' b i)/\Rel P C A' (fun b i=>X b i+Fv b i) σ' a w F'/\σ'.n=σ.n/\qy σ σ' /\
   place σ a w r p=some ⟨t',H',cs,ad⟩/\an P w A t' m' H' v' cs Fv/\∀ b i,Fv b i<=F r b i:=by
 obtain ⟨hr,t1,m1,H1,v1,cs,ad,Fv,kk,h1,h2,h3,h4,h5,h6,h7,h8⟩:=h.OD hk;obtain ⟨e1,e2,e3,e4⟩:=hn.inj ⟨h2⟩;subst e1;subst e2;subst e3;have e4:=iA e4;subst e4;obtain ⟨t0,m3,H3,v3,Fr,A3,k1,⟨m0,H0,v0,k0⟩,k2,k3,k4⟩:=h8 _ _ _ h1 w A cs (fun _ _=>0) (fun b i=>X b i+Fv b i) (Ext.refl _ _) (fun _ _ h=>h) (fun _ _ h=>.inl h) (fun b i=>aN _) h6 (fun _=>rfl) (an.UP _ h4);refine ⟨A3,_,_,cs,ad,Fv,k1,k2,k4 _ (Kb (t_ _ (h.mo r)) (Bq _ (h.mo r)) .inl) (fun p' snap hb bc hl=>?_),?_,xR hr v3 k0 (fun i=>by rw[ze];rfl),h3,h4,fun b i=>by have:=h5 b i;omega⟩
 ·refine ⟨0,False,?_,?_,?_,rr.zero (A:=A) ad (an.UP _ h4)⟩
  all_goals
   unfold St.ok at bc;rw[zf,qx,aU rfl,qG] at bc;have:=C8 (dh p) (h.mo r) hb bc
  ·omega
  ·intro;left;omega
  ·omega
 ·rw[Gg];exact ub _ _ _ _ _
theorem HM (h:Rel P C A X σ a w F) {r:Nat} {p:Path} {K:St->Option R} (hk:yo σ r p K=some x) {t':Ty} {m':Md} {v':t'.den} (hn:At σ r p t' m' [] v') :
  ∃ (A':Cells) (σ':St) (F':Nat->FP) (cs:List Value) (ad:Option (Nat×Nat)) (Fv:FP),K σ'=some x/\(∀ b i,A b i->A' b i)/\Rel P C A' (fun b i=>X b i+Fv b i) σ' a w F'/\σ'.n=σ.n/\qy σ σ' /\
   place σ a w r p=some ⟨t',[],cs,ad⟩/\an P w A t' m' [] v' cs Fv:=
 have ⟨A',σ',F',cs,ad,Fv,h1,h2,h3,h4,h5,h6,h7,_⟩:=Kc h hk hn
 ⟨A',σ',F',cs,ad,Fv,h1,h2,h3,h4,h5,h6,h7⟩
theorem Iv {r:Nat} (hv:(σ.lw r).length=5) {t:Ty} {m:Md} {H:List Path} {v:t.den} {q:Prop} (hq:q):S4 σ r ((σ.km r t m H v).get r) q (σ.km r t m H v):=
 ⟨ub _ _ _ _ _,fun i hi=>xj _ _ _ _ _ i hi,rfl,fun i _=>qG _ _ _ _ _ i,by rw[qG];exact Below.refl _,by rw[qG];exact hv,
  fun e he=>by rw[su] at he;exact he,fun j k hm=>by rw[su];exact hm,fun e he=>by rw[Bs] at he;exact he,fun _ _=>hq⟩
theorem Mp (h:Rel P C A X σ a w F) {r:Nat} {p:Path} {m2:Md} {K:St->Option R} (hk:vH σ r p m2 K=some x) :
  ∃ (A':Cells) (σ':St) (F':Nat->FP),K σ'=some x/\(∀ b i,A b i->A' b i)/\Rel P C A' X σ' a w F'/\σ'.n=σ.n/\qy σ σ':=by
 obtain ⟨hr,t1,m1,H1,v1,cs,ad,Fv,kk,h1,h2,h3,h4,h5,h6,h7,h8⟩:=h.OD hk;have yf:∀ b i,X b i+F r b i<=1:=fun b i=>by have:=h.o5 b i;have:=c7 F hr b i;omega
 split at h1
 ·rename_i hc;simp only[aF,bN] at hc;obtain ⟨rfl,hc⟩:=hc;obtain ⟨F1,Gh,fa⟩:=an.fits _ hc h4 (fun b i=>by have:=h5 b i;have:=yf b i;omega);have Bt:=fa (fun b i=>A b i\/(1<=Fv b i/\F1 b i=0)) (fun _ _ h=>.inl h) (fun b i h1 h2=>.inr ⟨h1,h2⟩)
  obtain ⟨t0,m3,H3,v3,Fr,A3,k1,⟨m0,H0,v0,k0⟩,k2,k3,k4⟩:=h8 _ _ _ h1 w (fun b i=>A b i\/(1<=Fv b i/\F1 b i=0)) cs F1 X (Ext.refl _ _) (fun _ _ h=>.inl h)
   (fun b i ha=>ha.imp id fun ⟨h1,h2⟩=>⟨by omega,by have:=h5 b i;have:=yf b i;omega⟩) (fun b i=>by have:=Gh b i;omega) h6 (fun _=>rfl) Bt
  exact ⟨A3,_,_,k1,fun b i ha=>k2 b i (.inl ha),k4 _ (Iv (h.mo r) (.inr rfl)) (fun p' snap hb bc hl=>⟨dh p'+1,True,by omega,fun _=>.inr trivial,fun _=>trivial,
   rr.same ad h4 (fun _ _ _ _ h=>h) (fun _ _ _ _ h=>h) _ True⟩),ub _ _ _ _ _,xR hr v3 k0 (fun i=>rfl)⟩
 ·cases h1
theorem Da (h:Rel P C A X σ a w F) {r:Nat} {p:Path} {K:St->Option R} (hk:yM σ r p K=some x) :
  ∃ (A':Cells) (σ':St) (F':Nat->FP) (t':Ty) (m':Md) (v':t'.den) (cs:List Value) (ad:Option (Nat×Nat)),K σ'=some x/\(∀ b i,A b i->A' b i)/\Rel P C A' X σ' a w F'/\σ'.n=σ.n/\qy σ σ' /\
   At σ r p t' m' [] v'/\place σ a w r p=some ⟨t',[],cs,ad⟩/\Ro P w A' t' v' cs:=by
 obtain ⟨hr,t1,m1,H1,v1,cs,ad,Fv,kk,h1,h2,h3,h4,h5,h6,h7,h8⟩:=h.OD hk;have yf:∀ b i,X b i+F r b i<=1:=fun b i=>by have:=h.o5 b i;have:=c7 F hr b i;omega
 split at h1
 ·rename_i hc;simp only[aF,bN] at hc;obtain ⟨rfl,hc⟩:=hc;have so:Ro P w (fun b i=>A b i\/1<=Fv b i) t1 v1 cs:=an.wc (fun _ _ h=>.inl h) t1 h4 (fun b i hp=>.inr hp)
  obtain ⟨t0,m3,H3,v3,Fr,A3,k1,⟨m0,H0,v0,k0⟩,k2,k3,k4⟩:=h8 _ _ _ h1 w (fun b i=>A b i\/1<=Fv b i) cs (fun _ _=>0) X (Ext.refl _ _) (fun _ _ h=>.inl h)
   (fun b i ha=>ha.imp id fun h1=>⟨by omega,by have:=h5 b i;have:=yf b i;omega⟩) (fun b i=>by omega) h6 (fun _=>rfl) (Ro.rep _ _ (gm _) so)
  exact ⟨A3,_,_,t1,m1,v1,cs,ad,k1,fun b i ha=>k2 b i (.inl ha),k4 _ (Iv (h.mo r) (.inr rfl)) (fun p' snap hb bc hl=>⟨dh p'+1,True,by omega,fun _=>.inr trivial,fun _=>trivial,
   rr.same ad h4 (fun _ _ _ _ h=>h) (fun _ _ _ _ h=>h) _ True⟩),ub _ _ _ _ _,xR hr v3 k0 (fun i=>rfl),⟨h2⟩,h3,Ro.mono (fun _ _ _ _ h=>h) k2 _ so⟩
 ·cases h1
theorem cv {t t':Ty} {v:t.den} {K:t'.den->Option R} (h:j_ t t' v K=some x):∃ e:t=t',K (e ▸ v)=some x:=by
 unfold j_ at h;split at h
 ·rename_i e;exact ⟨e,h⟩
 ·cases h
theorem A4 (h:Rel P C A X σ a w F) {r:Nat} {p:Path} {t:Ty} {m:Md} {v:t.den} {K:St->Option R} (hk:uY σ r p t m v K=some x) :
  r < σ.n/\∃ (m':Md) (H':List Path) (v':t.den) (cs:List Value) (ad:Option (Nat×Nat)) (F':FP),At σ r p t m' H' v'/\place σ a w r p=some ⟨t,H',cs,ad⟩/\an P w A t m' H' v' cs F' /\
   (∀ b i,je ad t.sz b i+F' b i<=F r b i)/\(∀ b o,ad=some (b,o)->Has w b o cs/\∀ j,j < t.sz->w.frozen? ⟨b,o+j,none⟩=false) /\
   ∀ (w2:World) (A2:Cells) (c9:List Value) (Fv X2:FP),Ext w w2 (fun b i=>X b i+(F' b i+je ad t.sz b i))->(∀ b i,A b i->A2 b i)->(∀ b i,A2 b i->A b i\/(1<=X b i+F' b i/\X2 b i+Fv b i=0)) ->
    (∀ b i,X2 b i+Fv b i<=X b i+F' b i)->(∀ b o,ad=some (b,o)->Has w2 b o c9)->(ad=none->c9=cs)->an P w2 A2 t m [] v c9 Fv ->
    ∃ (A3:Cells) (σ':St) (Fr:FP),K σ'=some x/\(∀ b i,A2 b i->A3 b i)/\Rel P C A3 X2 σ' a w2 (fd F r Fr)/\σ'.n=σ.n /\
     ∀ g:List Nat->List Nat,Below (σ.lw r) (g (σ.lw r))->(g (σ.lw r)).length=5->c9=cs ->
      (∀ (p':Path) (snap:List Nat),Below snap (σ.lw r)->preB snap (g (σ.lw r))=true->(snap.length=min 5 (1+dh p')\/snap.length=min 5 (2+dh p')\/snap.length=5) ->
       ∃ D full,dh p'<=D+dh p/\(snap.length=min 5 (2+dh p')->dh p' < D+dh p\/full)/\(snap.length=5->full)/\rr D full w t H' cs ad w2 [] c9) ->
      Rel P C A3 X2 { σ' with vr:=(σ.lX r g).vr,aT:=σ.aT } a w2 (fd F r Fr):=by
 obtain ⟨hr,t1,m1,H1,v1,cs,ad,Fv,kk,h1,h2,h3,h4,h5,h6,h7,h8⟩:=h.OD hk;obtain ⟨e,h1⟩:=cv h1;subst e;refine ⟨hr,m1,H1,v1,cs,ad,Fv,⟨h2⟩,h3,h4,h5,fun b o e=>⟨h6 b o e,h7 b o e⟩,fun w2 A2 c9 Fv2 X2 g1 g2 g3 g4 g5 g6 g7=>?_⟩
 obtain ⟨t0,m3,H3,v3,Fr,A3,k1,⟨m0,H0,v0,k0⟩,k2,k3,k4⟩:=h8 m [] v h1 w2 A2 c9 Fv2 X2 g1 g2 g3 g4 g5 g6 g7;refine ⟨A3,_,Fr,k1,k2,k4 _ (Kb ?_ ?_ .inl) (fun p' snap hb bc hl=>?_),?_,fun g hg1 hg2 oG c6=>?_⟩
 ·split
  ·exact xi (h.mo r)
  ·exact t_ _ (h.mo r)
 ·split
  ·exact C7 (h.mo r)
  ·exact Bq _ (h.mo r)
 ·unfold St.ok at bc;rw[zf,qx,aU rfl,qG] at bc;by_cases hf:t.flat=true
  ·rw[aU hf] at bc;have:=E7 (h.mo r) hb bc;exact ⟨dh p'+1,False,by omega,fun _=>.inl (by omega),fun _=>by omega,rr.flat (A:=A) ad g7 hf _⟩
  ·rw[bA hf] at bc;have:=C8 (dh p) (h.mo r) hb bc;exact ⟨0,False,by omega,fun _=>.inl (by omega),fun _=>by omega,rr.zero (A:=A) ad g7⟩
 ·rw[Gg];exact ub _ _ _ _ _
 ·refine k4 _ ⟨by rw[Gg];exact ub _ _ _ _ _,fun i hi=>?_,?_,fun i hi=>?_,?_,?_,fun e he=>he,fun j k hm=>hm,fun e he=>?_,fun _ _=>.inr oG⟩ (fun p' snap hb bc hl=>c6 p' snap hb ?_ hl)
  ·show (((σ.km r t0 m3 H3 v3).lX r _).head r _).get i=_;rw[ze];exact xj r t0 m3 H3 v3 i hi
  ·show (((σ.km r t0 m3 H3 v3).lX r _).head r _).get r=_;rw[ze];rfl
  ·show (σ.lX r g).lw i=σ.lw i;rw[qx,bA (fun e=>hi e.symm)]
  ·show Below _ ((σ.lX r g).lw r);rw[qx,aU rfl];exact hg1
  ·show ((σ.lX r g).lw r).length=5;rw[qx,aU rfl];exact hg2
  ·have he:e ∈ (((σ.km r t0 m3 H3 v3).lX r _).head r _).gh:=he;rw[NB] at he;simp only[St.lX,Bs] at he;exact he
  ·have bc:preB snap ((σ.lX r g).lw r)=true:=bc;rw[qx,aU rfl] at bc;exact bc
end
end OT
set_option linter.unusedVariables false
set_option linter.unusedSimpArgs false
namespace OT
open Go
section
variable {P:Program} {C:Ctx} {A:Cells} {X:FP} {σ:St} {a:Act} {w:World} {F:Nat->FP} {R:Type} {x:R}
theorem Rel.grow (h:Rel P C A X σ a w F) {w1:World} (hw:Ext w w1 (fun _ _=>0)) {A1:Cells} {X1:FP} (hA:∀ b i,A b i->A1 b i)
  (Db:∀ b i,A1 b i->A b i\/(w.heap.size<=b/\b < w1.heap.size/\X1 b i=0)) (hX:∀ b i,X1 b i<=X b i\/(w.heap.size<=b/\b < w1.heap.size/\X1 b i<=1)):Rel P C A1 X1 σ a w1 F:=by
 have sq:∀ b i,A b i->∀ u,ce w b i=some u->ce w1 b i=some u:=fun b i ha u hu=>hw.cell b i (h.kO b i (.inr ha)) rfl u hu
 have Kd:∀ b i,w.heap.size<=b->ba σ.n F b i=0:=fun b i hb=>by
  rcases bF (ba σ.n F b i) with h0 | h0
  ·exact h0
  ·have:=h.kO b i (.inl (by omega));omega
 have C9:∀ j,j < σ.n->∀ b i,1<=F j b i->(∀ u,ce w b i=some u->ce w1 b i=some u)/\w1.frozen? ⟨b,i,none⟩=w.frozen? ⟨b,i,none⟩:=fun j hj b i hp=>by
  have hb:=h.kO b i (.inl (by have:=c7 F hj b i;omega));exact ⟨fun u hu=>hw.cell b i hb rfl u hu,hw.xQ b i hb⟩
 have nF:wZ σ a w σ a w1:=fun r p snap hb=>⟨hb,fun bc=>⟨bc,fun hl pl ip=>⟨pl.H,pl.cs,by
  have aj:=sO ip
  exact ve (h.im r aj) rfl rfl sq (fun b i hp=>(C9 r aj b i hp).1) ip,fun _=>rfl⟩⟩⟩
 refine ⟨h.size,h.defers,fun i hi=>cu.mY nF hA sq hw.tQ (C9 i hi) (h.im i hi),fun d r p snap hm=>qT.mY nF (h.gh d r p snap hm),fun b i=>?_,fun b i hp ha=>?_,fun b i hp=>?_,
  h.mo,h.ext.trans hw (fun _ _ _ _=>rfl),fun b i hp=>?_,fun b i ha=>hA b i (h.a0 b i ha),fun b i ha=>?_,h.oA,fun r t m H v hg hl=>?_,fun j k hm R' jV=>?_⟩
 ·have h1:=h.o5 b i
  rcases hX b i with h2 | ⟨h2,h3,h4⟩
  ·omega
  ·have:=Kd b i h2;omega
 ·rcases Db b i ha with ha | ⟨h1,h2,h3⟩
  ·have aj:=h.kO b i (.inr ha)
   rcases hX b i with h2 | ⟨h2,_⟩
   ·exact h.pW b i (by omega) ha
   ·omega
  ·have:=Kd b i h1;omega
 ·rcases hp with hp | ha
  ·rcases hX b i with h2 | ⟨h2,h3,_⟩
   ·exact cP (h.kO b i (.inl (by omega))) hw.size
   ·exact h3
  ·rcases Db b i ha with ha | ⟨h1,h2,h3⟩
   ·exact cP (h.kO b i (.inr ha)) hw.size
   ·exact h2
 ·rcases hX b i with h2 | ⟨h2,_⟩
  ·exact h.own b i (by omega)
  ·exact .inr (bJ h.ext.size h2)
 ·rcases Db b i ha with ha | ⟨h1,_⟩
  ·exact h.a1 b i ha
  ·exact .inr (.inr (bJ h.ext.size h1))
 ·obtain ⟨b,h1,h2⟩:=h.whole r t m H v hg hl;exact ⟨b,h1,hw.tQ _ _ h2⟩
 ·rcases bZ j σ.n with hj | hj
  ·have oq:=h.im j hj
   cases uU:c_ w (tmp a j) (σ.get j) with
   | none=>exfalso;cases hg:σ.get j <;> rw[hg] at uU jV <;> simp only[c_] at uU jV <;> first | (cases jV;done) | (cases uU;done) | (split at uU <;> simp_all)
   | some R0=>
    rw[wh oq (fun b i hp=>(C9 j hj b i hp).1) uU] at jV;injection jV with jV;subst jV;exact h.nw j k hm _ uU
  ·rw[lY (dK.2 hj)] at jV;cases jV
def dj (P:Program):Operand->Bool
 | .func f=>(P.funcs[f]?).any (·.nfree == 0)
 | _=>true
theorem fh (h:Rel P C A X σ a w F) {o:Operand} (ho:dj P o=true):cu P A σ a w (a.eval o) (dr σ o) (fun _ _=>0)\/∃ xs,dr σ o=.rq xs:=by
 cases o with
 | tmp i=>
  show cu P A σ a w (tmp a i) _ _\/_;rcases bZ i σ.n with hi | hi
  ·have hs:=h.im i hi;simp only[dr]
   cases hg:σ.get i with
   | own t m H v=>
    rw[hg] at hs;obtain ⟨cs,h1,h2⟩:=hs;left
    have ip:place σ a w i []=some ⟨t,H,cs,none⟩:=by
     unfold place;rw[hg];simp only[c_,h1,lQ (an.length t h2) (an.one t h2),aB,bh]
    have h5:=h.mo i;refine ⟨?_,fun _=>⟨_,ip,h1,?_⟩⟩
    ·unfold uz;split
     ·intro j y hj;rw[bK] at hj;split at hj;exact ⟨y,hj,aN _⟩;cases hj
     ·intro j y hj;rw[bK] at hj;split at hj;exact ⟨y,hj,aN _⟩;cases hj
     ·exact Below.refl _
    ·unfold uz;split
     ·left;simp[vp,dh,h5]
     ·left;simp[vp,dh,h5]
     ·right;exact h5
   | box t m H v=>
    rw[hg] at hs;obtain ⟨b,o,L,F1,h1,h2,h3,h4,h5,h6⟩:=hs;left;have h5':=h.mo i;refine ⟨?_,fun _=>⟨⟨t,H,L,some (b,o)⟩,b,o,?_,rfl,h1,by simp[vI,dh,h5']⟩⟩
    ·unfold vI;intro j y hj;rw[bK] at hj;split at hj;exact ⟨y,hj,aN _⟩;cases hj
    ·unfold place;rw[hg,h1];simp only[c_,dt h3 h2,aB,bh]
   | rq xs=>exact .inr ⟨xs,rfl⟩
   | dead=>exact .inl trivial
   | v6=>rw[hg] at hs;exact .inl hs
   | val t v=>rw[hg] at hs;exact .inl hs
   | cp t v=>rw[hg] at hs;exact .inl hs
   | ref r p snap=>rw[hg] at hs;exact .inl hs
   | ptr r p snap=>rw[hg] at hs;exact .inl hs
   | sub r p snap lo hi=>rw[hg] at hs;exact .inl hs
  ·simp only[dr,lY (dK.2 hi)];exact .inl trivial
 | const v=>
  left;show cu P A σ a w v (xw v) _;unfold xw;split
  ·split
   ·rename_i hn;exact ⟨[_],rfl,by simp only[Ro,pJ];rw[hn]⟩
   ·trivial
  ·exact ⟨[_],rfl,rfl⟩
  ·exact ⟨[_],rfl,rfl⟩
  ·exact ⟨[_],rfl,rfl⟩
  ·exact ⟨[_],rfl,rfl⟩
  ·exact ⟨[_],rfl,rfl⟩
  ·exact ⟨[_],rfl,by simp[Ro]⟩
  ·rfl
  ·trivial
 | func f=>
  left;simp only[dj,Option.any_eq_true,jN] at ho;obtain ⟨fn,h1,h2⟩:=ho;exact ⟨[_],rfl,#[],rfl,fn,h1,.inl ⟨h2,rfl⟩⟩
 | global g=>exact .inl trivial
def AO (A:Cells) (σ:St) (F:Nat->FP):Cells:=fun b i=>A b i\/1<=ba σ.n F b i
theorem df (t:Ty) (y:Value) (h:isAgg t=false):cg t [y]=y:=by simp[cg,h]
theorem Ro.piece {e:Ty} {v:List e.den} {xa:Option Addr} {n cap lo hi cap':Nat} {uV:Option Addr} (h:Ro P w A (.U e) v [.slice xa n cap]) (h1:lo<=hi) (h2:hi<=n) (h3:cap'+lo=cap) (h4:xa=none->uV=none)
  (h5:∀ ad,xa=some ad->∃ cr,uV=some cr/\cr.spot=ad.spot/\cr.block=ad.block/\(lo < hi->cr.off=ad.off+lo*e.sz)) :
  Ro P w A (.U e) ((v.take hi).drop lo) [.slice uV (hi - lo) cap']:=by
 obtain ⟨a0,aae,g1,g2,g3,g4⟩:=h;simp only[cV,Value.slice.injEq,eJ] at g1;obtain ⟨rfl,rfl,rfl⟩:=g1;have hlen:List.length ((v.take hi).drop lo)=hi - lo:=by simp;omega
 refine ⟨uV,cap',by rw[hlen],by rw[hlen];omega,fun hn=>?_,fun cr E4=>?_⟩
 ·rw[hlen]
  cases xA:xa with
  | none=>have:=g3 xA;omega
  | some ad=>obtain ⟨cr,e1,_⟩:=h5 ad xA;rw[hn] at e1;cases e1
 ·cases xA:xa with
  | none=>rw[h4 xA] at E4;cases E4
  | some ad=>
   obtain ⟨zS,e1,e2,e3,e4⟩:=h5 ad xA;rw[E4] at e1;injection e1 with e1;subst e1;obtain ⟨f1,f2⟩:=g4 ad xA;refine ⟨fun hp=>e2.trans (f1 (by omega)),fun i y hy=>?_⟩
   have k8:i < hi - lo:=by have:=(aM.1 hy).1;omega
   rw[bM,bK] at hy;split at hy
   ·obtain ⟨L,l1,l2,l3⟩:=f2 _ _ hy;refine ⟨L,l1,fun j u hu=>?_,l3⟩
    rw[e3,e4 (by omega)];have:=l2 j u hu;rw[cI,<- cE ad.off] at this;exact this
   ·cases hy
def AR (A:Cells) (F:Nat->FP) (rs:List Nat):Cells:=fun b i=>A b i\/∃ r ∈ rs,1<=F r b i
theorem Iw (h:Rel P C A X σ a w F) {s:Slot} {tv:Value} {G:FP} (hs:cu P A σ a w tv s G) {t:Ty} {K:t.den->Option R} (hk:rj σ s t K=some x) :
  ∃ (v:t.den) (cs:List Value),K v=some x/\tv=cg t cs/\Ro P w (AR A F (ne s)) t v cs:=by
 have NC:∀ b i,A b i->AR A F (ne s) b i:=fun b i ha=>.inl ha;have wd:∀ b i,A b i->∀ u,ce w b i=some u->ce w b i=some u:=fun _ _ _ _ h=>h
 cases s with
 | val t' v=>
  obtain ⟨e,hk⟩:=cv hk;subst e;obtain ⟨cs,h1,h2⟩:=hs;exact ⟨v,cs,hk,h1,Ro.mono wd NC _ h2⟩
 | cp t' v=>
  obtain ⟨e,hk⟩:=cv hk;subst e;exact ⟨v,[tv],hk,(df _ _ rfl).symm,Ro.mono wd NC _ hs⟩
 | v6=>
  simp only[rj] at hk;split at hk
  ·rename_i t e;have hs:tv=.slice none 0 0:=hs;subst hs;exact ⟨[],_,hk,(df _ _ rfl).symm,none,0,rfl,aN _,fun _=>rfl,fun ad fm=>by cases fm⟩
  ·cases hk
 | ref r p snap=>
  simp only[rj] at hk;split at hk
  ·rename_i bc;obtain ⟨hr,t',m',H',v',br,cr,F',h1,h2,h3,h4,h5,h6⟩:=mf h hk;obtain ⟨pl,g1,g2,g3⟩:=hs.2 bc;rw[h3] at g1;injection g1 with g1;subst g1;split at h1
   ·rename_i hH;have hH:=bN.1 hH;subst hH;obtain ⟨e,h1⟩:=cv h1;subst e;exact ⟨v',br,h1,g2,an.wc NC _ h4 (fun b i hp=>.inr ⟨r,bU.2 rfl,by have:=h5 b i;omega⟩)⟩
   ·cases h1
  ·cases hk
 | sub r p snap lo hi=>
  simp only[rj] at hk;split at hk
  ·rename_i bc;obtain ⟨hr,t',m',H',v',br,cr,F',h1,h2,h3,h4,h5,h6⟩:=mf h hk;obtain ⟨pl,e,xa,n,cap,uV,cap',g1,g2,g3,g4,g5,g6,g7,Ke,g8,g9,g10⟩:=hs.2 bc;rw[h3] at g1;injection g1 with g1;subst g1;simp only at g2 g3;subst g2;subst g3;split at h1
   ·rename_i hH;have hH:=bN.1 hH;subst hH;obtain ⟨e',h1⟩:=cv h1;subst e';exact ⟨_,_,h1,by rw[df _ _ rfl];exact g6,Ro.piece (an.wc NC _ h4 (fun b i hp=>.inr ⟨r,bU.2 rfl,by have:=h5 b i;omega⟩)) g4 g5 g7 g8 g9⟩
   ·cases h1
  ·cases hk
 | ptr r p snap=>
  simp only[rj] at hk;split at hk
  ·rename_i bc;obtain ⟨hr,t',m',H',v',br,cr,F',h1,h2,h3,h4,h5,h6⟩:=mf h hk;obtain ⟨pl,b,o,g1,g2,g3,g4⟩:=hs.2 bc;rw[h3] at g1;injection g1 with g1;subst g1;split at h1
   ·rename_i hH;have hH:=bN.1 hH;subst hH;obtain ⟨e',h1⟩:=cv h1;subst e';simp only at g2;subst g2
    refine ⟨v',[tv],h1,(df _ _ rfl).symm,⟨b,o,none⟩,by rw[g3],rfl,br,an.length _ h4,fun j u hu=>⟨h6 b o rfl j u hu,?_⟩,
     an.wc NC _ h4 (fun b i hp=>.inr ⟨r,bU.2 rfl,by have:=h5 b i;omega⟩)⟩
    have hj:j < t'.sz:=an.length _ h4 ▸ (aM.1 hu).1;unfold place at h3
    cases hR:c_ w (tmp a r) (σ.get r) with
    | none=>rw[hR] at h3;cases h3
    | some R0=>
     rw[hR] at h3;obtain ⟨m0,v0,F1,q1,q2,q3,_⟩:=wg (h.im r hr) hR
     exact QB NC p R0.t q1 (fun b i hp=>.inr ⟨r,bU.2 rfl,by have:=q2 b i;omega⟩) (fun b' o' e' j hj=>.inr ⟨r,bU.2 rfl,by
      have:=(q3 b' o' e').2.1 b' (o'+j)
      simp[b_,hj] at *;omega⟩) h3 b o rfl j hj
   ·cases h1
  ·cases hk
 | _=>simp[rj] at hk
theorem Dc (h:Rel P C A X σ a w F) {s:Slot} {t:Ty} {K:t.den->Option R} (hk:rj σ s t K=some x):∀ r ∈ ne s,r < σ.n:=by
 intro r hr;cases s <;> simp only[ne,bU,List.not_mem_nil] at hr
 all_goals
  subst hr;simp only[rj] at hk;split at hk
  ·exact (mf h hk).1
  ·cases hk
theorem ND (h:Rel P C A X σ a w F) {s:Slot} {tv:Value} {G:FP} (hs:cu P A σ a w tv s G) {t:Ty} {K:t.den->Option R} (hk:rj σ s t K=some x) :
  ∃ (v:t.den) (cs:List Value),K v=some x/\tv=cg t cs/\Ro P w (AO A σ F) t v cs:=by
 obtain ⟨v,cs,h1,h2,h3⟩:=Iw h hs hk;refine ⟨v,cs,h1,h2,Ro.mono (fun _ _ _ _ h=>h) (fun b i ha=>?_) t h3⟩
 rcases ha with ha | ⟨r,hr,hp⟩
 ·exact .inl ha
 ·have:=c7 F (Dc h hk r hr) b i;exact .inr (by omega)
end
end OT
