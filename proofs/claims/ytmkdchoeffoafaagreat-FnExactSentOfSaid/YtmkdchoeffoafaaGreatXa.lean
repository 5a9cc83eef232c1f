/- The proof's parts, merged: The pure interpreter of the model s code over owned trees  definitions alone, nothing is claimed here.. No conditions but those that each states. -/
import GoSem.Core.Code
import GoSem.Core.View
import Derived.Laws.IdiomCopy
import Derived.Laws.Cells
import Derived.Laws.AppendOwn
import Derived.Calls
import Derived.Lib.LaidTab
import Derived.Lib.ItoaNum
namespace OT
open Go
set_option linter.defProp false
def aA:=@Option.bind_some
def aB:=@List.getElem?_eq_getElem
def aC:=@decide_false
def aD:=@decide_true
def aE:=@Bool.and_eq_true
def aF:=@Bool.false_eq_true
def aG:=@cond_false
def aH:=@Int.toNat_natCast
def aI:=@if_true
def aJ:=@cond_true
def aK:=@Int.natCast_nonneg
def aL:=@if_false
def aM:=@List.getElem?_eq_some_iff
def aN:=@Nat.le_refl
def aO:=@List.length_cons
def aP:=@Option.some.injEq
def aQ:=@Bool.not_true
def aR:=@List.length_append
def aS:=@List.getElem_mem
def aU:=@Eq.trans
def aV:=@if_pos
def aW:=@List.mem_cons_of_mem
def aX:=@List.mem_cons
def aY:=@Nat.zero_le
def aZ:=@Bool.not_false
def bA:=@List.length_nil
def bB:=@if_neg
def bC:=@Int.lt_irrefl
def bD:=@Nat.mul_le_mul_right
def bE:=@Nat.zero_add
def bF:=@Nat.eq_zero_or_pos
def bG:=@List.mem_cons_self
def bH:=@List.eq_nil_of_length_eq_zero
def bI:=@List.length_drop
def bJ:=@List.getElem?_take
def bK:=@List.append_assoc
def bL:=@List.getElem?_drop
def bM:=@decide_eq_true_eq
def bN:=@List.isEmpty_iff
def bO:=@Nat.le_trans
def bP:=@List.length_take
def bQ:=@Array.getElem?_eq_some_iff
def bR:=@List.mem_singleton
def bS:=@Prod.mk.injEq
def bT:=@List.nil_append
def bU:=@List.any_nil
def bV:=@List.getElem?_append_right
def bW:=@List.getElem?_append_left
def bX:=@List.length_range
def bZ:=@Nat.lt_or_ge
def cA:=@List.mem_of_getElem?
def cB:=@List.all_eq_true
def cC:=@Option.map_some
def cD:=@List.append_nil
def cE:=@Nat.add_assoc
def cG:=@decide_eq_true
def cH:=@decide_eq_false
def cI:=@Nat.add_mul
def cJ:=@List.mem_append
def cK:=@decide_eq_decide
def cL:=@Nat.eq_of_beq_eq_true
def cM:=@Bool.not_eq_true'
def cN:=@Array.getElem?_eq_getElem
def cO:=@List.cons_append
def cP:=@Nat.lt_of_lt_of_le
def cQ:=@and_self
def cR:=@List.take_append_drop
def cS:=@List.map_cons
def cT:=@List.isEmpty_nil
def cU:=@List.filterMap_append
def cV:=@List.cons.injEq
def cW:=@List.getElem?_eq_none
def cX:=@List.length_set
def cY:=@Bool.or_eq_true
def cZ:=@List.drop_eq_getElem_cons
def dA:=@List.drop_drop
def dB:=@List.filterMap_cons
def dC:=@List.mem_iff_getElem
def dD:=@Array.getElem?_toList
def dE:=@congrArg
def dF:=@List.mem_range
def dG:=@Nat.add_zero
def dH:=@List.mem_of_mem_drop
def dI:=@Array.getElem?_append_left
def dJ:=@Array.getElem?_modify
def dK:=@List.take_append_of_le_length
def dL:=@List.drop_append_of_le_length
def dM:=@Int.eq_ofNat_of_zero_le
def dN:=@Nat.not_lt
def dP:=@Array.getElem?_eq_none
def dQ:=@List.size_toArray
def dR:=@List.drop_of_length_le
def dU:=@Nat.ble_eq
def dV:=@List.length_replicate
def dW:=@List.nodup_cons
def dX:=@List.take_length
def dY:=@Bool.false_or
def dZ:=@true_and
def eA:=@List.mem_of_mem_take
def eB:=@List.pairwise_iff_getElem
def eC:=@List.pairwise_cons
def eD:=@List.getElem_range
def eE:=@and_true
def eF:=@List.drop_zero
def eG:=@List.foldl_cons
def eH:=@List.all_cons
def eI:=@List.mem_flatMap
def eJ:=@Nat.beq_eq
def eK:=@List.getElem?_map
def eL:=@List.flatMap_cons
def eM:=@List.take_succ_eq_append_getElem
def eN:=@List.getElem?_cons_zero
def eO:=@List.drop_take
def eP:=@Option.isSome_none
def eQ:=@List.filterMap_nil
def eR:=@List.count_pos_iff
def eS:=@List.getD_eq_getElem?_getD
def eU:=@not_true_eq_false
def eV:=@not_false_eq_true
def eW:=@List.getElem?_take_of_lt
def eX:=@Bool.true_and
def eY:=@Array.ext'
def eZ:=@decide_eq_false_iff_not
def fA:=@List.pairwise_append
def fB:=@Nat.succ_mul
def fD:=@Array.size_append
def fE:=@Bool.eq_iff_iff
def fF:=@Nat.min_eq_left
def fG:=@List.length_map
def fH:=@Nat.le_of_not_lt
def fI:=@Array.eq_empty_of_size_eq_zero
def fJ:=@List.set_set
def fK:=@List.take_take
def fL:=@List.getElem?_set
def fM:=@List.getElem?_cons_succ
def fN:=@List.take_left'
def fO:=@List.drop_left'
def fP:=@List.findIdx?_eq_some_iff_findIdx_eq
def fQ:=@Bool.true_or
def fR:=@Int.tdiv_eq_ediv_of_nonneg
def fS:=@List.ext_getElem?
def fT:=@Nat.mul_comm
def fU:=@List.map_nil
def fV:=@List.mem_map
def fW:=@Int.le_refl
def fX:=@List.nodup_append
def fY:=@List.any_cons
def fZ:=@Option.isSome_iff_exists
def gA:=@Bool.and_self
def gB:=@List.getElem?_replicate
def gC:=@beq_self_eq_true
def gD:=@List.any_eq_true
def gE:=@List.pairwise_singleton
def gF:=@false_and
def gG:=@List.perm_middle
def gH:=@Nat.sub_mul
def gI:=@getElem!_pos
def gJ:=@Nat.zero_mul
def gK:=@BitVec.toNat_ofInt
def gL:=@Nat.div_add_mod
def gM:=@List.map_append
def gN:=@Bool.and_eq_false_iff
def gO:=@Nat.div_lt_iff_lt_mul
def gP:=@List.mem_iff_getElem?
def gQ:=@List.getElem?_toArray
def gR:=@Bool.eq_false_iff
def gS:=@List.getElem_take
def gT:=@List.pairwise_map
def gU:=@Nat.blt_eq
def gV:=@Int.fdiv_eq_ediv_of_nonneg
def gW:=@Nat.mul_le_mul
def gX:=@List.Perm.refl
def gY:=@List.drop_append
def gZ:=@List.filter_cons
def hJ:=@List.mem_or_eq_of_mem_set
def hU:=@List.findIdx?_eq_none_iff
def hY:=@Option.map_none
def iA:=@List.zip_cons_cons
def iB:=@Nat.add_sub_cancel
def iC:=@Classical.axiomOfChoice
def iD:=@eq_of_heq
def iE:=@Nat.add_sub_cancel_left
def iG:=@Bool.or_self
def iH:=@List.take_of_length_le
def iI:=@congrFun
def iJ:=@List.nodup_nil
def iK:=@List.foldl_append
def iL:=@List.map_map
def iM:=@List.replicate_append_replicate
def iP:=@Array.getElem?_setIfInBounds_ne
def iQ:=@List.singleton_append
def iR:=@Nat.mod_lt
def iS:=@Bool.or_eq_false_iff
def iT:=@Nat.mul_one
def iU:=@Nat.min_def
def iV:=@Array.getElem?_setIfInBounds
def iW:=@List.getElem?_range
def iX:=@Array.length_toList
def iY:=@Array.getElem?_push
def iZ:=@List.flatMap_append
def jA:=@Nat.mul_le_mul_left
def jB:=@Array.getD_eq_getD_getElem?
def jC:=@Array.getElem_setIfInBounds
def jD:=@Nat.beq_refl
def jE:=@Nat.add_comm
def jF:=@Nat.le_of_eq
def jG:=@Nat.mul_lt_mul_of_pos_right
def jH:=@List.take_zero
def jI:=@List.mem_filterMap
def jJ:=@Int.tmod_eq_emod_of_nonneg
def jK:=@List.nodup_iff_pairwise_ne
def jL:=@List.extract_eq_take_drop
def jM:=@List.any_eq_false
def jN:=@List.getElem_drop
def jO:=@false_or
def jP:=@Nat.zero_lt_succ
def jQ:=@beq_iff_eq
def jR:=@true_or
def jS:=@UInt8.toNat_inj
def jT:=@Nat.min_le_left
def jU:=@List.find?_cons
def jV:=@UInt8.toNat_lt
def jW:=@Bool.false_and
def jX:=@Iff.rfl
inductive Ty where
 | int (k:IntKind)
 | bool
 | str
 | unit
 | pair (a b:Ty)
 | arr (n:Nat) (e:Ty)
 | U (e:Ty)
 | ptr (e:Ty)
 | fn
 | map (k v:Ty)
 deriving DecidableEq
@[reducible] def Bs:IntKind->Type
 | .u8=>UInt8
 | _=>Int
@[reducible] def Ty.den:Ty->Type
 | .int k=>Bs k
 | .bool=>Bool
 | .str=>List UInt8
 | .unit=>Unit
 | .pair a b=>a.den×b.den
 | .arr _ e=>List e.den
 | .U e=>List e.den
 | .ptr e=>e.den
 | .fn=>Nat×Int
 | .map k v=>List (k.den×v.den)
def Ty.sz:Ty->Nat
 | .unit=>0
 | .pair a b=>a.sz+b.sz
 | .arr n e=>n*e.sz
 | _=>1
def Ty.flat:Ty->Bool
 | .pair a b=>a.flat&&b.flat
 | .arr _ e=>e.flat
 | .U _ | .ptr _ | .map _ _=>false
 | _=>true
def pG:(k:IntKind)->Bs k->Int
 | .u8,n=>(n.toNat:Int)
 | .i8,n=>n
 | .i16,n=>n
 | .i32,n=>n
 | .i64,n=>n
 | .u16,n=>n
 | .u32,n=>n
 | .u64,n=>n
def CY:(k:IntKind)->Int->Bs k
 | .u8,n=>UInt8.ofInt n
 | .i8,n=>IntKind.wrap .i8 n
 | .i16,n=>IntKind.wrap .i16 n
 | .i32,n=>IntKind.wrap .i32 n
 | .i64,n=>IntKind.wrap .i64 n
 | .u16,n=>IntKind.wrap .u16 n
 | .u32,n=>IntKind.wrap .u32 n
 | .u64,n=>IntKind.wrap .u64 n
def VD:(k:IntKind)->Int->Bs k
 | .u8,n=>UInt8.ofInt n
 | .i8,n=>n
 | .i16,n=>n
 | .i32,n=>n
 | .i64,n=>n
 | .u16,n=>n
 | .u32,n=>n
 | .u64,n=>n
def Ty.zero:(t:Ty)->t.den
 | .int k=>VD k 0
 | .bool=>false
 | .str=>[]
 | .unit=>()
 | .pair a b=>(a.zero,b.zero)
 | .arr n e=>List.replicate n e.zero
 | .U _=>[]
 | .ptr e=>e.zero
 | .fn=>(0,0)
 | .map _ _=>[]
def Ty.ve:Ty->Bool
 | .pair a b=>a.ve&&b.ve
 | .arr _ e=>e.ve
 | .ptr _ | .fn | .map _ _=>false
 | _=>true
def Ty.eq:(t:Ty)->t.den->t.den->Bool
 | .int .u8,a,b=>a == b
 | .int .i8,a,b=>decide (a=b)
 | .int .i16,a,b=>decide (a=b)
 | .int .i32,a,b=>decide (a=b)
 | .int .i64,a,b=>decide (a=b)
 | .int .u16,a,b=>decide (a=b)
 | .int .u32,a,b=>decide (a=b)
 | .int .u64,a,b=>decide (a=b)
 | .bool,a,b=>a == b
 | .str,a,b=>decide (a=b)
 | .pair x y,a,b=>x.eq a.1 b.1&&y.eq a.2 b.2
 | .arr _ e,a,b=>(a.zip b).all λp=>e.eq p.1 p.2
 | _,_,_=>true
def Ty.n9:Ty->Bool
 | .int _ | .bool | .str | .unit=>true
 | .pair a b=>a.n9&&b.n9
 | .arr _ e=>e.n9
 | _=>false
def Ty.rC:Ty->Bool
 | .pair a b=>a.rC&&b.rC
 | .arr _ e | .U e | .ptr e=>e.rC
 | .map k v=>k.rC&&v.rC
 | .fn=>false
 | _=>true
inductive Md where
 | leaf
 | pair (a b:Md)
 | arr (e:Md)
 | U (own:Bool) (e:Md)
 | ptr (own:Bool) (e:Md)
 deriving DecidableEq
def sW (own:Bool):Ty->Md
 | .pair a b=>.pair (sW own a) (sW own b)
 | .arr _ e=>.arr (sW own e)
 | .U e=>.U own (sW own e)
 | .ptr e=>.ptr own (sW own e)
 | .map _ _=>.U own .leaf
 | _=>.leaf
abbrev ax:=sW false
abbrev an:=sW true
def Md.l:Md->Md
 | .pair a _=>a
 | _=>.leaf
def Md.r:Md->Md
 | .pair _ b=>b
 | _=>.leaf
def Md.e:Md->Md
 | .arr e | .U _ e | .ptr _ e=>e
 | _=>.leaf
def Md.own:Md->Bool
 | .U o _ | .ptr o _=>o
 | _=>false
def Md.kI:Md->Bool
 | .leaf=>true
 | .pair a b=>a.kI&&b.kI
 | .arr e=>e.kI
 | .U o e=>!o&&e.kI
 | .ptr o e=>!o&&e.kI
def fits:Md->Md->Bool
 | .leaf,.leaf=>true
 | .pair a b,.pair c d=>fits a c&&fits b d
 | .arr a,.arr b=>fits a b
 | .U o a,.U o' b=>(o||!o')&&(o'||b.kI)&&fits a b
 | .ptr o a,.ptr o' b=>(o||!o')&&(o'||b.kI)&&fits a b
 | _,_=>false
inductive Step where
 | fst
 | snd
 | idx (i:Nat)
 | o4 (i:Nat)
abbrev Path:=List Step
def dj:Path->Nat
 | []=>0
 | .idx _::p=>dj p+1
 | _::p=>dj p
structure Gj where
 t:Ty
 m:Md
 v:t.den
inductive Slot where
 | dead
 | wv
 | val (t:Ty) (v:t.den)
 | cp (t:Ty) (v:t.den)
 | own (t:Ty) (m:Md) (H:List Path) (v:t.den)
 | box (t:Ty) (m:Md) (H:List Path) (v:t.den)
 | ref (r:Nat) (p:Path) (snap:List Nat)
 | sub (r:Nat) (p:Path) (snap:List Nat) (lo hi:Nat)
 | ptr (r:Nat) (p:Path) (snap:List Nat)
 | rB (xs:List Gj)
structure St where
 n:Nat
 sl:List (Nat×Slot)
 vr:List (Nat×List Nat)
 az:List (Nat×Nat×Bool)
 gh:List (Nat×Nat×Path×List Nat):=[]
def m9 {α:Type}:List (Nat×α)->Nat->Option α
 | [],_=>none
 | (k,x)::l,i=>if Nat.beq k i then some x else m9 l i
def St.get (σ:St) (i:Nat):Slot:=if Nat.blt i σ.n then (match m9 σ.sl i with | some s=>s | none=>.dead) else .dead
def St.lw (σ:St) (i:Nat):List Nat:=match m9 σ.vr i with | some v=>v | none=>[0,0,0,0,0]
def sf:List Nat->List Nat:=λv=>v.map (·+1)
def tD (d:Nat):List Nat->List Nat
 | [b,x,y,z,w]=>match d with
  | 0=>[b,x+1,y,z,w+1]
  | 1=>[b,x,y+1,z,w+1]
  | 2=>[b,x,y,z+1,w+1]
  | _=>[b+1,x,y,z,w+1]
 | v=>sf v
def ww:List Nat->List Nat
 | [b,x,y,z,w]=>[b,x,y,z,w+1]
 | v=>sf v
def St.lP (σ:St) (i:Nat) (f:List Nat->List Nat):St:={ σ with vr:=(i,f (σ.lw i))::σ.vr }
def zr:List (Nat×Nat×Bool)->Nat->List (Nat×Nat×Bool)
 | [],_=>[]
 | (k,b)::l,i=>if Nat.beq k i then zr l i else (k,b)::zr l i
def Kj:List (Nat×Nat×Path×List Nat)->Nat->List (Nat×Nat×Path×List Nat)
 | [],_=>[]
 | (d,x)::l,i=>if Nat.beq d i then Kj l i else (d,x)::Kj l i
def zs:List (Nat×Nat×Bool)->Nat->List (Nat×Nat×Bool)
 | [],_=>[]
 | (k,n,b)::l,i=>if Nat.beq k i&&b then zs l i else (k,n,b)::zs l i
def Bt:List (Nat×Nat×Bool)->Nat->Nat->Bool->Bool
 | [],_,_,_=>false
 | (k,n,b)::l,i,j,c=>(Nat.beq k i&&Nat.beq n j&&(b == c))||Bt l i j c
def BK:List (Nat×Nat×Bool)->Nat->Bool
 | [],_=>false
 | (k,_,b)::l,i=>(Nat.beq k i&&!b)||BK l i
def Gk:List (Nat×Nat×Bool)->Nat->Option Nat
 | [],_=>none
 | (k,n,b)::l,i=>if Nat.beq k i&&b then some n else Gk l i
def St.put (σ:St) (i:Nat) (s:Slot):St:={ n:=σ.n,sl:=(i,s)::σ.sl,vr:=(i,sf (σ.lw i))::σ.vr,az:=zr σ.az i,gh:=Kj σ.gh i }
def St.head (σ:St) (r d:Nat):St:=match d with
 | 0=>{ σ with az:=zs σ.az r }
 | _=>σ
def St.Kk (σ:St) (i:Nat) (s:Slot):St:={ σ with sl:=(i,s)::σ.sl }
def St.b9 (σ:St) (d:Option Tmp) (s:Slot):St:=match d with
 | some i=>σ.put i s
 | none=>σ
def preB:List Nat->List Nat->Bool
 | [],_=>true
 | a::x,b::y=>Nat.beq a b&&preB x y
 | _::_,[]=>false
section
variable {R:Type}
def jy (t t':Ty) (v:t.den) (K:t'.den->Option R):Option R:=
 if h:t=t' then K (h ▸ v) else none
def vp:Path->Option Path
 | .fst::p=>some p
 | _=>none
def vq:Path->Option Path
 | .snd::p=>some p
 | _=>none
def xp (H:List Path) (i:Nat) (K:List Path->Option R):Option R:=
 match H with
 | []=>K []
 | [.idx j::q]=>if i=j then K [q] else none
 | _=>none
def n_:(p:Path)->(t:Ty)->Md->List Path->t.den->((t':Ty)->Md->List Path->t'.den->Option R)->Option R
 | [],t,m,H,v,K=>K t m H v
 | .fst::p,.pair a _,m,H,v,K=>if H.any (·.isEmpty) then none else n_ p a m.l (H.filterMap vp) v.1 K
 | .snd::p,.pair _ b,m,H,v,K=>if H.any (·.isEmpty) then none else n_ p b m.r (H.filterMap vq) v.2 K
 | .idx i::p,.U e,m,H,v,K=>xp H i λH'=>(v[i]?).bind λx=>n_ p e m.e H' x K
 | .o4 i::p,.arr _ e,m,H,v,K=>if H.isEmpty then (v[i]?).bind λx=>n_ p e m.e [] x K else none
 | _,_,_,_,_,_=>none
def q9:(p:Path)->(t:Ty)->Md->List Path->t.den ->
    ((t':Ty)->Md->List Path->t'.den->(Md->List Path->t'.den->Option R)->Option R)->(Md->List Path->t.den->Option R)->Option R
 | [],t,m,H,v,f,K=>f t m H v K
 | .fst::p,.pair a _,m,H,v,f,K=>
  if H.any (·.isEmpty) then none else
  q9 p a m.l (H.filterMap vp) v.1 f λm' H' x=>K (.pair m' m.r) (H'.map (.fst::·)++(H.filterMap vq).map (.snd::·)) (x,v.2)
 | .snd::p,.pair _ b,m,H,v,f,K=>
  if H.any (·.isEmpty) then none else
  q9 p b m.r (H.filterMap vq) v.2 f λm' H' x=>K (.pair m.l m') ((H.filterMap vp).map (.fst::·)++H'.map (.snd::·)) (v.1,x)
 | .idx i::p,.U e,m,H,v,f,K=>
  if m.own then
   xp H i λH0=>(v[i]?).bind λx=>
    q9 p e m.e H0 x f λm' H' y=>
     if m'=m.e then K (.U true m.e) (H'.map (.idx i::·)) (v.set i y)
     else if H'.isEmpty then K (.U true (ax e)) [] (v.set i y) else none
  else none
 | .o4 i::p,.arr _ e,m,H,v,f,K=>
  if H.isEmpty then (v[i]?).bind λx=>
   q9 p e m.e [] x f λ_ H' y=>if H'.isEmpty then K m [] (v.set i y) else none
  else none
 | _,_,_,_,_,_,_=>none
def A9:Path->Ty->Option Ty
 | [],t=>some t
 | .fst::p,.pair a _=>A9 p a
 | .snd::p,.pair _ b=>A9 p b
 | .idx _::p,.U e=>A9 p e
 | .o4 _::p,.arr _ e=>A9 p e
 | _,_=>none
def wx (σ:St) (r:Nat) (K:(t:Ty)->Md->List Path->t.den->Option R):Option R:=
 match σ.get r with
 | .own t m H v | .box t m H v=>K t m H v
 | _=>none
def St.kd (σ:St) (r:Nat) (t:Ty) (m:Md) (H:List Path) (v:t.den):St:=
 match σ.get r with
 | .box ..=>σ.Kk r (.box t m H v)
 | _=>σ.Kk r (.own t m H v)
def St.ok (σ:St) (r:Nat) (snap:List Nat):Bool:=preB snap (σ.lw r)
def pp (σ:St) (r:Nat) (p:Path) (K:(t:Ty)->Md->List Path->t.den->Option R):Option R:=
 wx σ r λt m H v=>n_ p t m H v K
def vj (σ:St) (r:Nat) (p:Path) (t:Ty) (m:Md) (v:t.den) (K:St->Option R):Option R:=
 wx σ r λt0 m0 H0 v0=>
  q9 p t0 m0 H0 v0 (λt' _ _ _ k=>jy t t' v λx=>k m [] x) λm' H' v'=>
   K (((σ.kd r t0 m' H' v').lP r (if t.flat then ww else tD (dj p))).head r (dj p))
def sA:Ty->List Path
 | .pair a b=>(sA a).map (.fst::·)++(sA b).map (.snd::·)
 | .U _ | .ptr _ | .map _ _=>[[]]
 | .arr _ e=>if e.flat then [] else [[]]
 | _=>[]
def yR (σ:St) (r:Nat) (p:Path) (K:St->Option R):Option R:=
 wx σ r λt0 m0 H0 v0=>
  q9 p t0 m0 H0 v0 (λt' m' _ x k=>k m' (sA t') x) λm' H' v'=>
   K (((σ.kd r t0 m' H' v').lP r (tD (dj p))).head r (dj p))
def xq (σ:St) (r:Nat) (p:Path) (K:St->Option R):Option R:=
 wx σ r λt0 m0 H0 v0=>
  q9 p t0 m0 H0 v0 (λt' m H x k=>if H.isEmpty&&fits m (ax t') then k (ax t') [] x else none) λm' H' v'=>
   K (σ.kd r t0 m' H' v')
def vX (σ:St) (r:Nat) (p:Path) (m1:Md) (K:St->Option R):Option R:=
 wx σ r λt0 m0 H0 v0=>
  q9 p t0 m0 H0 v0 (λ_ m H x k=>if H.isEmpty&&fits m m1 then k m1 [] x else none) λm' H' v'=>
   K (σ.kd r t0 m' H' v')
def vY (σ:St) (r:Nat) (p:Path):List Nat:=(σ.lw r).take (1+dj p)
def uN (σ:St) (r:Nat) (p:Path) (t:Ty):List Nat:=match t with
 | .U _ | .map _ _=>(σ.lw r).take (2+dj p)
 | _=>σ.lw r
def xW:Value->Slot
 | .int .u8 n=>if ((UInt8.ofInt n).toNat:Int)=n then .val (.int .u8) (UInt8.ofInt n) else .dead
 | .int .i64 n=>.val (.int .i64) n
 | .int .u64 n=>.val (.int .u64) n
 | .int .u32 n=>.val (.int .u32) n
 | .int .i32 n=>.val (.int .i32) n
 | .bool b=>.val .bool b
 | .string s=>.val .str s.data.toList
 | .slice none 0 0=>.wv
 | _=>.dead
def dq (σ:St):Operand->Slot
 | .tmp i=>match σ.get i with
  | .own t _ _ _=>.ref i [] (uN σ i [] t)
  | .box _ _ _ _=>.ptr i [] (vY σ i [])
  | s=>s
 | .const v=>xW v
 | .func f=>.val .fn (f,0)
 | .global _=>.dead
def mV (σ:St) (s:Slot) (mv:Bool) (t:Ty) (K:Md->t.den->St->Option R):Option R:=
 match s with
 | .val t' v=>jy t' t v λv=>K (ax t) v σ
 | .cp t' v=>jy (.ptr t') t v λv=>K (ax t) v σ
 | .wv=>match t with
  | .U e=>K (an (.U e)) [] σ
  | _=>none
 | .ref r p snap=>
  if σ.ok r snap then
   pp σ r p λt' m H v=>
    if H.isEmpty then jy t' t v λv=>
     if m=ax t then K m v σ
     else if mv then yR σ r p λσ=>K m v σ
     else xq σ r p λσ=>K (ax t) v σ
    else none
  else none
 | .sub r p snap lo hi=>
  if σ.ok r snap then
   pp σ r p λt' m H v=>
    if H.isEmpty then jy t' t v λv=>match t,v with
     | .U e,v=>
      if m=ax (.U e) then K m ((v.take hi).drop lo) σ
      else if mv then (if lo=0 then yR σ r p λσ=>K m ((v.take hi).drop lo) σ else none)
      else xq σ r p λσ=>K (ax (.U e)) ((v.take hi).drop lo) σ
     | _,_=>none
    else none
  else none
 | .ptr r [] snap=>
  if σ.ok r snap then
   match σ.get r with
   | .box t' m H v=>if H.isEmpty&&!BK σ.az r then jy (.ptr t') t v λv=>K (.ptr true m) v (σ.put r .dead) else none
   | _=>none
  else none
 | _=>none
def rx (σ:St) (s:Slot) (t:Ty) (K:t.den->Option R):Option R:=
 match s with
 | .val t' v=>jy t' t v K
 | .cp t' v=>jy (.ptr t') t v K
 | .wv=>match t with
  | .U _=>K []
  | _=>none
 | .ref r p snap=>
  if σ.ok r snap then pp σ r p λt' _ H v=>if H.isEmpty then jy t' t v K else none
  else none
 | .sub r p snap lo hi=>
  if σ.ok r snap then
   pp σ r p λt' _ H v=>if H.isEmpty then jy t' t v λv=>match t,v with
    | .U _,v=>K ((v.take hi).drop lo)
    | _,_=>none
   else none
  else none
 | .ptr r p snap=>
  if σ.ok r snap then pp σ r p λt' _ H v=>if H.isEmpty then jy (.ptr t') t v K else none
  else none
 | _=>none
def vP (s:Slot) (K:Int->Option R):Option R:=
 match s with
 | .val (.int k) n=>K (pG k n)
 | _=>none
def Gl (s:Slot) (K:Bool->Option R):Option R:=
 match s with
 | .val .bool b=>K b
 | _=>none
def laid (t:Ty) (m:Md) (v:t.den):Slot:=
 if m=ax t then .val t v else
 match t,m,v with
 | .ptr e,.ptr true m',v=>.box e m' [] v
 | t,m,v=>.own t m [] v
end
end OT
namespace OT
open Go
noncomputable section
inductive PM where
 | ro
 | pt (m m':Md)
 | kY (m:Md)
 | sP (m:Md)
 | nc (m:Md)
 | fix (f:Nat)
 deriving DecidableEq
def dn:List Ty->Ty
 | []=>.unit
 | t::ts=>.pair t (dn ts)
def lC:List (PM×Ty)->List Ty
 | []=>[]
 | (.pt _ _,t)::ps=>t::lC ps
 | (.kY _,t)::ps=>t::lC ps
 | _::ps=>lC ps
structure sQ where
 cap:Bool:=false
 ps:List (PM×Ty)
 rs:List (Ty×Md)
 F:(dn (ps.map (·.2))).den->Option (dn (rs.map (·.1)++lC ps)).den
 CZ:(dn (ps.map (·.2))).den->List Path->Bool:=λ_ H=>H.isEmpty
structure Env where
 TI:Nat->Option Ty
 G:Nat->Option sQ
 fz:List (Nat×Nat×Nat):=[]
 lv:List (Nat×List Nat):=[]
 lx:List (Nat×List Nat):=[]
 lf:List (Nat×List (Nat×Md)):=[]
 od:List (Nat×List Nat):=[]
 ar:List (Nat×List Nat):=[]
 bx:List (Nat×List Nat):=[]
 pd:List (Nat×List Nat):=[]
 er:List (Nat×List (Nat×Nat)):=[]
def TH:List (Nat×Nat×Nat)->Nat->Nat->Nat->Bool
 | [],_,_,_=>false
 | (a,b,c)::l,i,j,k=>(Nat.beq a i&&Nat.beq b j&&Nat.beq c k)||TH l i j k
def cc:Nat:=274877906944
section
variable {R:Type}
def pV (E:Env) (t:Nat) (K:Ty->Option R):Option R:=
 match E.TI t with
 | some t=>K t
 | none=>none
def oc:Nat->Path
 | 0=>[.fst]
 | n+1=>.snd::oc n
def t_:Nat->Ty->Option Ty
 | 0,.pair a _=>some a
 | n+1,.pair _ b=>t_ n b
 | _,_=>none
def O8:Nat->(t:Ty)->t.den->((t':Ty)->t'.den->Option R)->Option R
 | 0,.pair a _,v,K=>K a v.1
 | n+1,.pair _ b,v,K=>O8 n b v.2 K
 | _,_,_,_=>none
def Kl (σ:St) (r:Nat):Option Ty:=
 match σ.get r with
 | .own t _ _ _ | .box t _ _ _=>some t
 | _=>none
def Ft (σ:St) (r:Nat) (p:Path):Option Ty:=
 match Kl σ r with
 | some t=>A9 p t
 | none=>none
def BL (E:Env) (σ:St) (T:Nat) (a:Slot) (mv:Bool) (d:Option Tmp) (K:St->Option R):Option R:=
 pV E T λT=>
 match a with
 | .cp t v=>if t=T then K (σ.b9 d (.val t v)) else none
 | .ptr r p snap=>
  if σ.ok r snap then
   pp σ r p λt m H v=>
    if t=T then
     if t.flat then (if H.isEmpty then K (σ.b9 d (.val t v)) else none)
     else if m=ax t then (if H.isEmpty then (match mv with
      | true=>K (σ.b9 d (.ref r p (uN σ r p t)))
      | false=>K (σ.b9 d (.val t v))) else none)
     else match mv with
      | false=>K (σ.b9 d (.ref r p (uN σ r p t)))
      | true=>if H.isEmpty then yR σ r p λσ=>K (σ.b9 d (laid t m v)) else none
    else none
  else none
 | _=>none
def Gm (E:Env) (σ:St) (T:Nat) (a:Operand) (mv fr:Bool) (d:Option Tmp) (K:St->Option R):Option R:=
 match fr with
 | false=>BL E σ T (dq σ a) mv d K
 | true=>match dq σ a with
  | .ptr r p snap=>if σ.ok r snap then xq σ r p λσ=>BL E σ T (dq σ a) mv d K else none
  | _=>none
def Km (E:Env) (σ:St) (T:Nat) (a x:Slot) (mv:Bool) (K:St->Option R):Option R:=
 pV E T λT=>
 match a with
 | .ptr r p snap=>
  if σ.ok r snap then
   if Ft σ r p=some T then mV σ x mv T λm v σ=>vj σ r p T m v K else none
  else none
 | _=>none
def BM (E:Env) (σ:St) (S:Nat) (x:Slot) (j:Nat) (d:Option Tmp) (K:St->Option R):Option R:=
 pV E S λS=>
 match x with
 | .cp t v=>if t=S then O8 j t v λt' v'=>K (σ.b9 d (.cp t' v')) else none
 | .ptr r p snap=>if σ.ok r snap then (if Ft σ r p=some S then (if (t_ j S).isSome then K (σ.b9 d (.ptr r (p++oc j) snap)) else none) else none) else none
 | _=>none
def H6 (E:Env) (σ:St) (S:Nat) (x:Slot) (j:Nat) (d:Option Tmp) (K:St->Option R):Option R:=
 pV E S λS=>
 match x with
 | .val t v=>if t=S then O8 j t v λt' v'=>K (σ.b9 d (.val t' v')) else none
 | .ref r p snap=>
  if σ.ok r snap then
   if Ft σ r p=some S then
    pp σ r (p++oc j) λt m H v=>
     if t.flat||(m=ax t) then (if H.isEmpty then K (σ.b9 d (.val t v)) else none)
     else K (σ.b9 d (.ref r (p++oc j) (uN σ r (p++oc j) t)))
   else none
  else none
 | _=>none
def Rd (n:Int) (len:Nat) (K:Nat->Option R):Option R:=
 if 0<=n/\n < (len:Int) then K n.toNat else none
def BN (E:Env) (σ:St) (T:Nat) (x ix:Slot) (d:Option Tmp) (K:St->Option R):Option R:=
 pV E T λT=>vP ix λn=>
 match x with
 | .val (.U e) v=>if T=.U e then (if 0<=n then (v[n.toNat]?).bind λy=>K (σ.b9 d (.cp e y)) else none) else none
 | .cp (.arr m e) v=>if T=.arr m e then (if 0<=n then (v[n.toNat]?).bind λy=>K (σ.b9 d (.cp e y)) else none) else none
 | .ref r p snap=>
  if σ.ok r snap then
   pp σ r p λt m H v=>
    if H.any (·.isEmpty) then none else
    if t=T then
     match t,v with
     | .U e,v=>
      if m.own then Rd n v.length λi=>K (σ.b9 d (.ptr r (p++[.idx i]) (vY σ r (p++[.idx i]))))
      else if 0<=n then (v[n.toNat]?).bind λy=>K (σ.b9 d (.cp e y)) else none
     | _,_=>none
    else none
  else none
 | .sub r p snap lo hi=>
  if σ.ok r snap then
   pp σ r p λt _ H _=>if H.any (·.isEmpty) then none else if t=T then Rd n (hi - lo) λi=>K (σ.b9 d (.ptr r (p++[.idx (lo+i)]) (vY σ r (p++[.idx (lo+i)])))) else none
  else none
 | .ptr r p snap=>
  if σ.ok r snap then
   pp σ r p λt _ _ v=>
    if t=T then
     match t,v with
     | .arr _ _,v=>Rd n v.length λi=>K (σ.b9 d (.ptr r (p++[.o4 i]) snap))
     | _,_=>none
    else none
  else none
 | _=>none
def Kn (E:Env) (σ:St) (T:Nat) (x ix:Slot) (d:Option Tmp) (K:St->Option R):Option R:=
 pV E T λT=>vP ix λn=>
 match x with
 | .val .str s=>if T=.str then (if 0<=n then (s[n.toNat]?).bind λc=>K (σ.b9 d (.val (.int .u8) c)) else none) else none
 | .val (.arr m e) v=>if T=.arr m e then (if 0<=n then (v[n.toNat]?).bind λy=>K (σ.b9 d (.val e y)) else none) else none
 | _=>none
def tQ (len:Nat) (lo hi:Option Slot) (K:Nat->Nat->Option R):Option R:=
 match lo,hi with
 | none,none=>K 0 len
 | some l,none=>vP l λl=>if 0<=l/\l<=(len:Int) then K l.toNat len else none
 | none,some h=>vP h λh=>if 0<=h/\h<=(len:Int) then K 0 h.toNat else none
 | some l,some h=>vP l λl=>vP h λh=>if 0<=l/\l<=h/\h<=(len:Int) then K l.toNat h.toNat else none
def Ko (E:Env) (σ:St) (T:Nat) (x:Slot) (lo hi:Option Slot) (d:Option Tmp) (K:St->Option R):Option R:=
 pV E T λT=>
 match x with
 | .val .str s=>if T=.str then tQ s.length lo hi λl h=>K (σ.b9 d (.val .str ((s.take h).drop l))) else none
 | .val (.U e) v=>if T=.U e then tQ v.length lo hi λl h=>K (σ.b9 d (.val (.U e) ((v.take h).drop l))) else none
 | .ref r p snap=>
  if σ.ok r snap then
   pp σ r p λt m H v=>
    if H.any (·.isEmpty) then none else
    if t=T then
     match t,v with
     | .U e,v=>
      if m.own then tQ v.length lo hi λl h=>K (σ.b9 d (.sub r p snap l h))
      else tQ v.length lo hi λl h=>K (σ.b9 d (.val (.U e) ((v.take h).drop l)))
     | _,_=>none
    else none
  else none
 | .sub r p snap l0 h0=>
  if σ.ok r snap then
   pp σ r p λt _ H _=>if H.any (·.isEmpty) then none else if t=T then tQ (h0 - l0) lo hi λl h=>K (σ.b9 d (.sub r p snap (l0+l) (l0+h))) else none
  else none
 | _=>none
def TJ (E:Env) (σ:St) (t:Nat) (x:Slot) (K:Nat->Option R):Option R:=
 pV E t λT=>
 match T with
 | .str=>match x with
  | .val .str s=>K s.length
  | _=>none
 | .U _=>match x with
  | .val (.U _) v=>K v.length
  | .wv=>K 0
  | .ref r p snap=>
   if σ.ok r snap then
    pp σ r p λt _ H v=>if H.any (·.isEmpty) then none else match t,v with
     | .U _,v=>K v.length
     | _,_=>none
   else none
  | .sub r _ snap lo hi=>if σ.ok r snap then K (hi - lo) else none
  | _=>none
 | _=>none
def Aq (σ:St) (x:Slot) (e:Ty) (mv:Bool) (K:Md->List e.den->St->Option R):Option R:=
 match x with
 | .val .str s=>jy (.U (.int .u8)) (.U e) s λs=>K .leaf s σ
 | x=>mV σ x mv (.U e) λm v σ=>K m.e v σ
def H7 (E:Env) (σ:St) (T:Nat) (b:Slot) (x:Operand) (mv tf:Bool) (d:Option Tmp) (K:St->Option R):Option R:=
 pV E T λT=>
 match T with
 | .U e=>
  match tf&&(e.flat&&e.rC) with
  | true=>Aq σ (dq σ x) e false λ_ y _=>mV σ b true (.U e) λm v σ=>
   if m.own then
    if v.length+y.length<=cc then K (σ.b9 d (.own (.U e) (.U true (ax e)) [] (v++y))) else none
   else none
  | false=>
  mV σ b true (.U e) λm v σ=>
   if m.own then
    Aq σ (dq σ x) e mv λme y σ=>
     if v.length+y.length<=cc then
      K (σ.b9 d (.own (.U e) (.U true (if me=m.e then me else ax e)) [] (v++y)))
     else none
   else none
 | _=>none
def sg {α:Type} (v:List α) (lo n:Nat) (y:List α):List α:=v.take lo++y.take n++v.drop (lo+n)
def O9 (E:Env) (σ:St) (T:Nat) (b:Operand) (x:Slot) (d:Option Tmp) (K:St->Option R):Option R:=
 pV E T λT=>
 match T with
 | .U e=>
  if e.flat then
   Aq σ x e true λ_ y σ=>
    match dq σ b with
    | .sub r p snap lo hi=>
     if σ.ok r snap then
      pp σ r p λt m H v=>
       if m.own&&H.isEmpty then jy t (.U e) v λv=>
        vj σ r p (.U e) m (sg v lo (min y.length (hi - lo)) y) λσ'=>
         K (({ σ' with vr:=(σ.lP r ww).vr,az:=σ.az }).b9 d (.val (.int .i64) ((min y.length (hi - lo):Nat):Int)))
       else none
     else none
    | .ref r p snap=>
     if σ.ok r snap then
      pp σ r p λt m H v=>
       if m.own&&H.isEmpty then jy t (.U e) v λv=>
        vj σ r p (.U e) m (sg v 0 (min y.length v.length) y) λσ'=>
         K (({ σ' with vr:=(σ.lP r ww).vr,az:=σ.az }).b9 d (.val (.int .i64) ((min y.length v.length:Nat):Int)))
       else none
     else none
    | _=>none
  else none
 | _=>none
def Dk:Nat->(t:Ty)->Md->t.den->(t':Ty)->Md->t'.den->(Md->t.den->Option R)->Option R
 | 0,.pair a _,m,v,t',m',x,K=>jy t' a x λx=>K (.pair m' m.r) (x,v.2)
 | n+1,.pair _ b,m,v,t',m',x,K=>Dk n b m.r v.2 t' m' x λm'' y=>K (.pair m.l m'') (v.1,y)
 | _,_,_,_,_,_,_,_=>none
def Dl (E:Env) (σ:St) (t:Ty) (fz:Nat->Bool):List (Nat×Operand)->Nat->Md->t.den->(Md->t.den->St->Option R)->Option R
 | [],_,m,v,K=>K m v σ
 | (j,x)::ps,n,m,v,K=>
  match t_ j t with
  | some t'=>mV σ (dq σ x) (!fz n) t' λm' y σ'=>Dk j t m v t' m' y λm v=>Dl E σ' t fz ps (n+1) m v K
  | none=>none
def Fu (σ:St) (e:Ty) (fz:Nat->Bool):List (Nat×Operand)->Nat->Md->List e.den->(Md->List e.den->St->Option R)->Option R
 | [],_,m,v,K=>K m v σ
 | (j,x)::ps,n,m,v,K=>
  if Nat.beq j n then
   mV σ (dq σ x) (!fz n) e λm' y σ'=>Fu σ' e fz ps (n+1) (if m'=m then m else ax e) (v++[y]) K
  else none
def Kp (σ:St) (e:Ty) (fz:Nat->Bool):List (Nat×Operand)->Nat->List e.den->(List e.den->St->Option R)->Option R
 | [],_,v,K=>K v σ
 | (j,x)::ps,n,v,K=>
  mV σ (dq σ x) (!fz n) e λ_ y σ'=>if j < v.length then Kp σ' e fz ps (n+1) (v.set j y) K else none
def Kq (op:BinOp) (k:IntKind) (a b:Int) (K:(t:Ty)->t.den->Option R):Option R:=
 match op with
 | .add=>K (.int k) (CY k (a+b))
 | .sub=>K (.int k) (CY k (a - b))
 | .mul=>K (.int k) (CY k (a*b))
 | .quo=>if b=0 then none else K (.int k) (CY k (a.tdiv b))
 | .rem=>if b=0 then none else K (.int k) (VD k (a.tmod b))
 | .and=>K (.int k) (CY k ((BitVec.ofInt k.bits a &&& BitVec.ofInt k.bits b).toNat:Int))
 | .or=>K (.int k) (CY k ((BitVec.ofInt k.bits a ||| BitVec.ofInt k.bits b).toNat:Int))
 | .xor=>K (.int k) (CY k ((BitVec.ofInt k.bits a ^^^ BitVec.ofInt k.bits b).toNat:Int))
 | .shl=>if b < 0 then none else K (.int k) (CY k (a*2 ^ (min b.toNat k.bits)))
 | .shr=>if b < 0 then none else K (.int k) (VD k (a.fdiv (2 ^ (min b.toNat k.bits))))
 | .eql=>K .bool (decide (a=b))
 | .neq=>K .bool (!decide (a=b))
 | .lss=>K .bool (decide (a < b))
 | .leq=>K .bool (decide (a<=b))
 | .gtr=>K .bool (decide (b < a))
 | .geq=>K .bool (decide (b<=a))
 | _=>none
def TK (op:BinOp) (a b:List UInt8) (K:(t:Ty)->t.den->Option R):Option R:=
 match op with
 | .add=>if a.length+b.length<=cc then K .str (a++b) else none
 | .eql=>K .bool (decide (a=b))
 | .neq=>K .bool (!decide (a=b))
 | _=>none
def both (a b:Option R):Option R:=open Classical in if a=b then a else none
def BO {α:Type} (v:List α) (a b:Option R):Option R:=match v with
 | []=>both a b
 | _::_=>b
def XS {α:Type} (op:BinOp) (v:List α) (K:(t:Ty)->t.den->Option R):Option R:=match op with
 | .eql=>BO v (K .bool true) (K .bool false)
 | .neq=>BO v (K .bool false) (K .bool true)
 | _=>none
def Kr (E:Env) (tid:Nat) (op:BinOp) (x y:Slot) (K:(t:Ty)->t.den->Option R):Option R:=
 match x,y with
 | .val (.int k) a,.val (.int k') b=>
  match op with
  | .shl | .shr=>Kq op k (pG k a) (pG k' b) K
  | _=>if k=k' then Kq op k (pG k a) (pG k' b) K else none
 | .val .str a,.val .str b=>TK op a b K
 | .val t a,.val t' b=>
  match op with
  | .eql=>if t.n9 then pV E tid λT=>if T=t then jy t' t b λb=>K .bool (t.eq a b) else none else none
  | .neq=>if t.n9 then pV E tid λT=>if T=t then jy t' t b λb=>K .bool (!t.eq a b) else none else none
  | _=>none
 | .val (.U e) v,.wv=>pV E tid λT=>if T=.U e then XS op v K else none
 | _,_=>none
def BP (E:Env) (σ:St) (S T:Nat) (x:Slot) (d:Option Tmp) (K:St->Option R):Option R:=
 pV E S λS=>pV E T λT=>
 match T with
 | .int k=>match x with
  | .val (.int k') n=>if S=.int k' then K (σ.b9 d (.val (.int k) (CY k (pG k' n)))) else none
  | _=>none
 | .str=>match S with
  | .str=>match x with
   | .val .str s=>K (σ.b9 d (.val .str s))
   | _=>none
  | .U (.int .u8)=>rx σ x (.U (.int .u8)) λv=>K (σ.b9 d (.val .str v))
  | _=>none
 | .U (.int .u8)=>match x with
  | .val .str s=>if S=.str then (if s.length<=cc then K (σ.b9 d (.own (.U (.int .u8)) (an (.U (.int .u8))) [] s)) else none) else none
  | _=>none
 | _=>none
def Ks (σ:St) (s:Slot) (t:Ty) (K:t.den->Option R):Option R:=
 match s with
 | .val t' v=>jy t' t v K
 | .cp t' v=>jy (.ptr t') t v K
 | .wv=>match t with
  | .U _=>K []
  | _=>none
 | .ref r p snap=>
  if σ.ok r snap then pp σ r p λt' m H v=>if H.isEmpty&&(t'.flat||decide (m=ax t')) then jy t' t v K else none
  else none
 | .sub r p snap lo hi=>
  if σ.ok r snap then
   pp σ r p λt' m H v=>if H.isEmpty&&decide (m=ax t') then jy t' t v λv=>match t,v with
    | .U _,v=>K ((v.take hi).drop lo)
    | _,_=>none
   else none
  else none
 | _=>none
def zt (σ:St) (ow:Bool) (pm:PM) (t:Ty) (s:Slot) (K:t.den->Option (Nat×Path)->Option R):Option R:=
 match pm with
 | .ro=>match ow with
  | true=>rx σ s t λv=>K v none
  | false=>Ks σ s t λv=>K v none
 | .fix f=>match s with
  | .val .fn v=>if Nat.beq v.1 f then jy .fn t v λv=>K v none else none
  | _=>none
 | .pt m _=>match s with
  | .ptr r p snap=>
   if σ.ok r snap then pp σ r p λt' m' H v=>if H.isEmpty&&decide (m'=m) then jy t' t v λv=>K v (some (r,p)) else none
   else none
  | _=>none
 | .sP m=>match s with
  | .ptr r p snap=>
   if σ.ok r snap then pp σ r p λt' m' H v=>if H.isEmpty&&decide (m'=m) then jy t' t v λv=>K v (some (r,p)) else none
   else none
  | _=>none
 | .kY m=>match s with
  | .ref r p snap=>
   if σ.ok r snap then pp σ r p λt' m' H v=>if H.isEmpty&&decide (m'=m) then jy t' t v λv=>K v (some (r,p)) else none
   else none
  | _=>none
 | .nc m=>match s with
  | .ref r p snap=>
   if σ.ok r snap then pp σ r p λt' m' _ v=>if m'=m then jy t' t v λv=>K v (some (r,p)) else none
   else none
  | _=>none
def ne:Slot->List Nat
 | .ref r _ _ | .sub r _ _ _ _ | .ptr r _ _=>[r]
 | _=>[]
def J2 (σ:St) (ow:Bool):(ps:List (PM×Ty))->List Slot->((dn (ps.map (·.2))).den->List (Nat×Path)->Option R)->Option R
 | [],[],K=>K () []
 | (pm,t)::ps,s::ss,K=>zt σ ow pm t s λv w=>J2 σ ow ps ss λvs ws=>K (v,vs) (match w with | some x=>x::ws | none=>ws)
 | _,_,_=>none
def rL (σ:St):List (PM×Ty)->List Operand->(St->Option R)->Option R
 | (.pt m _,_)::ps,x::xs,K=>match dq σ x with
  | .ptr r p snap=>if σ.ok r snap then pp σ r p λ_ m' _ _=>if m'=m then rL σ ps xs K else vX σ r p m λσ=>rL σ ps xs K else none
  | _=>none
 | (.sP m,_)::ps,x::xs,K=>match dq σ x with
  | .ptr r p snap=>if σ.ok r snap then pp σ r p λ_ m' _ _=>if m'=m then rL σ ps xs K else vX σ r p m λσ=>rL σ ps xs K else none
  | _=>none
 | (.kY m,_)::ps,x::xs,K=>match dq σ x with
  | .ref r p snap=>if σ.ok r snap then pp σ r p λ_ m' _ _=>if m'=m then rL σ ps xs K else vX σ r p m λσ=>rL σ ps xs K else none
  | _=>none
 | (.nc m,_)::ps,x::xs,K=>match dq σ x with
  | .ref r p snap=>if σ.ok r snap then pp σ r p λ_ m' _ _=>if m'=m then rL σ ps xs K else vX σ r p m λσ=>rL σ ps xs K else none
  | _=>none
 | _::ps,_::xs,K=>rL σ ps xs K
 | _,_,K=>K σ
def XT (x:Operand) (r:Nat) (t:Ty) (v:t.den) (σ:St):St:=match x with
 | .tmp i=>match Nat.beq i r||!Nat.blt i σ.n with
  | true=>σ
  | false=>(σ.put i .dead).put i (.cp t v)
 | _=>σ
def zu (σ:St):List (PM×Ty)->List Operand->(St->Option R)->Option R
 | (.ro,t)::ps,x::xs,K=>
  if t.flat then zu σ ps xs K else
  match dq σ x with
  | .ref r p snap=>if σ.ok r snap then xq σ r p λσ=>zu σ ps xs K else none
  | .sub r p snap _ _=>if σ.ok r snap then xq σ r p λσ=>zu σ ps xs K else none
  | .ptr r p snap=>if σ.ok r snap then
    match p,σ.get r with
    | [],.box t m H v=>if H.isEmpty&&fits m (ax t) then zu (XT x r t v ((σ.put r .dead).put r (.cp t v))) ps xs K else none
    | _,_=>none
   else none
  | _=>zu σ ps xs K
 | _::ps,_::xs,K=>zu σ ps xs K
 | _,_,K=>K σ
def apart:List Nat->List (Nat×Path)->Bool
 | _,[]=>true
 | all,(r,_)::ws=>Nat.ble (all.count r) 1&&apart all ws
def rM (σ:St):(ps:List (PM×Ty))->List (Nat×Path)->(dn (lC ps)).den->(St->Option R)->Option R
 | [],[],_,K=>K σ
 | (.ro,_)::ps,ws,v,K=>rM σ ps ws v K
 | (.fix _,_)::ps,ws,v,K=>rM σ ps ws v K
 | (.pt _ m,t)::ps,(r,p)::ws,v,K=>vj σ r p t m v.1 λσ=>rM σ ps ws v.2 K
 | (.sP m,t)::ps,(r,p)::ws,v,K=>match vj σ r p t m t.zero (λ_=>some ()) with
  | some _=>rM (σ.put r .dead) ps ws v K
  | none=>none
 | (.nc _,_)::ps,(r,p)::ws,v,K=>yR σ r p λσ=>rM σ ps ws v K
 | (.kY m,t)::ps,(r,p)::ws,v,K=>vj σ r p t m v.1 λσ'=>rM { σ' with vr:=(σ.lP r (tD (dj p+1))).vr,az:=σ.az } ps ws v.2 K
 | _,_,_,_=>none
def lD:(rs:List (Ty×Md))->{ts:List Ty}->(dn (rs.map (·.1)++ts)).den->List Gj×(dn ts).den
 | [],_,v=>([],v)
 | (t,m)::rs,_,v=>(⟨t,m,v.1⟩::(lD rs v.2).1,(lD rs v.2).2)
def uO:List Gj->Slot
 | []=>.dead
 | [x]=>laid x.t x.m x.v
 | xs=>.rB xs
def zw:List (Ty×Md)->Bool
 | []=>true
 | (t,m)::rs=>(t.flat||decide (m=an t))&&t.rC&&zw rs
def ol:List (PM×Ty)->Bool
 | []=>true
 | (.pt m m',t)::ps=>(t.flat||decide (m=an t))&&t.rC&&((t.flat||decide (m'=an t))&&ol ps)
 | (.kY m,t)::ps=>(t.flat||decide (m=an t))&&t.rC&&ol ps
 | (.sP m,t)::ps=>(t.flat||decide (m=an t))&&t.rC&&ol ps
 | (.nc m,t)::ps=>(t.flat||decide (m=an t))&&t.rC&&ol ps
 | _::ps=>ol ps
def O_:List (PM×Ty)->Bool
 | []=>false
 | (.nc _,_)::_=>true
 | _::ps=>O_ ps
def TM (σ:St) (hv:Bool) (ho:List Path->Bool) (ws:List (Nat×Path)) (K:Option R):Option R:=
 match hv,ws with
 | true,(r,p)::_=>pp σ r p λ_ _ H _=>match ho H with
  | true=>K
  | false=>none
 | _,_=>K
def Gn (g:sQ) (ow:Bool) (σ:St) (xs:List Operand) (ex:List Slot) (d:Option Tmp) (K:St->Option R):Option R:=
 rL σ g.ps xs λσ=>
  J2 σ ow g.ps (xs.map (dq σ)++ex) λv ws=>
   if Nat.ble ws.length 1&&apart ((xs.map (dq σ)++ex).flatMap ne) ws then
    TM σ (O_ g.ps) (g.CZ v) ws ((g.F v).bind λout=>
     rM σ g.ps ws (lD g.rs out).2 λσ=>K (σ.b9 d (uO (lD g.rs out).1)))
   else none
def BQ (g:sQ) (σ:St) (xs:List Operand) (ex:List Slot) (d:Option Tmp) (K:St->Option R):Option R:=
 match zw g.rs&&ol g.ps with
 | true=>Gn g true σ xs ex d K
 | false=>zu σ g.ps xs λσ=>Gn g false σ xs ex d K
def H8 (E:Env) (σ:St) (T:Nat) (x:Operand) (mv:Bool) (d:Option Tmp) (K:St->Option R):Option R:=
 match dq σ x with
 | .dead=>K (σ.b9 d .dead)
 | .wv=>pV E T λT=>match T with
  | .U e=>K (σ.b9 d (.own (.U e) (an (.U e)) [] []))
  | _=>none
 | .rB []=>K (σ.b9 d (.rB []))
 | .rB _=>none
 | .ref r p snap=>
  if σ.ok r snap then
   match Ft σ r p with
   | some t=>mV σ (.ref r p snap) mv t λm v σ=>K (σ.b9 d (laid t m v))
   | none=>none
  else none
 | .sub r p snap lo hi=>
  if σ.ok r snap then
   match Ft σ r p with
   | some t=>mV σ (.sub r p snap lo hi) mv t λm v σ=>K (σ.b9 d (laid t m v))
   | none=>none
  else none
 | .ptr r p snap=>
  match p,σ.get r with
  | [],.box t m H v=>if σ.ok r snap&&mv&&!BK σ.az r then (match d with | some i=>K ((σ.put r .dead).put i (.box t m H v)) | none=>none) else K (σ.b9 d (.ptr r [] snap))
  | p,_=>K (σ.b9 d (.ptr r p snap))
 | s=>K (σ.b9 d s)
def Pa (σ:St) (x:Operand) (d:Option Tmp) (K:St->Option R):Option R:=
 match dq σ x,x with
 | .rB xs,.tmp i=>K ((σ.put i .dead).b9 d (.rB xs))
 | .rB _,_=>none
 | s,_=>K (σ.b9 d s)
def Kt (σ:St) (x:Operand) (d:Option Tmp) (σ':St):St:=
 match x,d with
 | .tmp i,some d=>match σ.get i with
  | .own _ _ _ _=>match Gk σ.az i with
   | some n=>{ σ' with az:=(d,n,true)::σ'.az }
   | none=>σ'
  | _=>σ'
 | _,_=>σ'
def Ku:Slot->Option (Nat×Int)
 | .val .fn f=>some f
 | _=>none
def jk {α:Type} (k:Ty) (m:List (k.den×α)) (x:k.den):Option α:=(m.find? λe=>k.eq x e.1).map (·.2)
def nN {α:Type} (k:Ty) (m:List (k.den×α)) (x:k.den) (y:α):List (k.den×α):=match m.findIdx? (λe=>k.eq x e.1) with
 | some i=>m.set i (x,y)
 | none=>m++[(x,y)]
def zx {α:Type} (o:Option α) (z:α):α:=match o with
 | some x=>x
 | none=>z
def H9 (E:Env) (σ:St) (T:Nat) (x ix:Slot) (ok:Bool) (d:Option Tmp) (K:St->Option R):Option R:=
 pV E T λT=>
 match T with
 | .map k v=>
  if v.ve then
   match x with
   | .ref r p snap=>
    if σ.ok r snap then
     pp σ r p λt _ H y=>
      if H.isEmpty then jy t (.map k v) y λy=>
       match ix with
       | .val t2 i=>jy t2 k i λi=>
        match ok with
        | true=>K (σ.b9 d (.rB [⟨v,ax v,zx (jk k y i) v.zero⟩,⟨.bool,.leaf,(jk k y i).isSome⟩]))
        | false=>K (σ.b9 d (.val v (zx (jk k y i) v.zero)))
       | _=>none
      else none
    else none
   | _=>none
  else none
 | _=>none
def H_ (E:Env) (σ:St) (T:Nat) (x ix y:Slot) (K:St->Option R):Option R:=
 pV E T λT=>
 match T with
 | .map k v=>
  match x with
  | .ref r p snap=>
   if σ.ok r snap then
    pp σ r p λt m H z=>
     if m.own&&H.isEmpty then jy t (.map k v) z λz=>
      match ix,y with
      | .val t2 i,.val t3 w=>jy t2 k i λi=>jy t3 v w λw=>
       vj σ r p (.map k v) m (nN k z i w) λσ'=>K { σ' with vr:=(σ.lP r ww).vr,az:=σ.az }
      | _,_=>none
     else none
   else none
  | _=>none
 | _=>none
def Re:Option Ty->Bool
 | some (.map _ _)=>true
 | _=>false
def Ia (E:Env) (σ:St) (T:Nat) (x:Slot) (K:Nat->Option R):Option R:=
 pV E T λT=>
 match T with
 | .map k v=>
  match x with
  | .ref r p snap=>
   if σ.ok r snap then
    pp σ r p λt _ H y=>if H.isEmpty then jy t (.map k v) y λy=>K (List.length y) else none
   else none
  | _=>none
 | _=>none
def ry (E:Env) (gn i:Nat) (o:Oper) (σ:St) (K:St->Option R):Option R:=
 let fz:=TH E.fz gn i
 let d:=o.dst
 match o.op with
 | .move x=>Pa σ x d K
 | .assign x=>H8 E σ o.type x (!fz 0) d K
 | .pick c a b=>Gl (dq σ c) λc=>match dq σ (bif c then a else b) with
  | .val .bool x=>K (σ.b9 d (.val .bool x))
  | _=>none
 | .alloc t=>pV E t λt=>if t.ve then K (σ.b9 d (.box t (an t) [] t.zero)) else none
 | .box t x=>pV E t λt=>mV σ (dq σ x) (!fz 0) t λm v σ'=>K (Kt σ x d (σ'.b9 d (.box t m [] v)))
 | .build t ps=>pV E t λt=>match t with
  | .arr n e=>if e.ve then Kp σ e fz ps.toList 0 (Ty.arr n e).zero λv σ=>K (σ.b9 d (laid (.arr n e) (an (.arr n e)) v)) else none
  | .pair t1 t2=>if (Ty.pair t1 t2).ve then Dl E σ (.pair t1 t2) fz ps.toList 0 (an (.pair t1 t2)) (Ty.pair t1 t2).zero λm v σ=>K (σ.b9 d (laid (.pair t1 t2) m v)) else none
  | _=>none
 | .buildSlice t n ps=>pV E t λt=>match t with
  | .U e=>if Nat.beq n ps.size&&e.ve&&Nat.ble (n*e.sz) 16777216 then Fu σ e fz ps.toList 0 (an e) [] λm v σ=>K (σ.b9 d (.own (.U e) (.U true m) [] v)) else none
  | _=>none
 | .load t a=>Gm E σ t a (fz 7) (fz 8) d K
 | .store t a x=>match d with
  | none=>Km E σ t (dq σ a) (dq σ x) (!fz 1) K
  | some _=>none
 | .nilCheck x=>match dq σ x with
  | .ptr r p snap=>if σ.ok r snap then K (σ.b9 d (.ptr r p snap)) else none
  | .cp t v=>K (σ.b9 d (.cp t v))
  | .val .fn f=>K (σ.b9 d (.val .fn f))
  | _=>none
 | .binOp op t x y _=>Kr E t op (dq σ x) (dq σ y) λt v=>K (σ.b9 d (.val t v))
 | .unOp op _ x=>match op,dq σ x with
  | .not,.val .bool b=>K (σ.b9 d (.val .bool (!b)))
  | .neg,.val (.int k) n=>K (σ.b9 d (.val (.int k) (CY k (0 - pG k n))))
  | _,_=>none
 | .convert s t x=>BP E σ s t (dq σ x) d K
 | .fieldAddr t x j=>BM E σ t (dq σ x) j d K
 | .field t x j=>H6 E σ t (dq σ x) j d K
 | .indexAddr t x ix=>BN E σ t (dq σ x) (dq σ ix) d K
 | .index t x ix=>Kn E σ t (dq σ x) (dq σ ix) d K
 | .slice t x lo hi none=>Ko E σ t (dq σ x) (lo.map (dq σ)) (hi.map (dq σ)) d K
 | .makeSlice t n c=>pV E t λt=>match t with
  | .U e=>vP (dq σ n) λn=>vP (dq σ c) λc=>
   if e.ve then (if 0<=n/\n<=c/\c<=(cc:Int) then K (σ.b9 d (.own (.U e) (an (.U e)) [] (List.replicate n.toNat e.zero))) else none) else none
  | _=>none
 | .extract x j=>match x with
  | .tmp i=>match σ.get i with
   | .rB xs=>match xs[j]? with
    | some x=>if x.t=.unit then none else K ((σ.put i (.rB (xs.set j ⟨.unit,.leaf,()⟩))).b9 d (laid x.t x.m x.v))
    | none=>none
   | _=>none
  | _=>none
 | .makeFunc (.func f) first cs=>
  if first.size=0 then
   match cs.toList with
   | []=>K (σ.b9 d (.val .fn (f,0)))
   | [.tmp i]=>match σ.get i with
    | .box (.int .i64) _ _ n=>K (((σ.put i .dead).put i (.cp (.int .i64) n)).b9 d (.val .fn (f,n)))
    | _=>none
   | _=>none
  else none
 | .makeMap t none=>pV E t λt=>match t with
  | .map k v=>if k.flat&&v.flat then K (σ.b9 d (.own (.map k v) (an (.map k v)) [] [])) else none
  | _=>none
 | .lookup t x ix ok=>H9 E σ t (dq σ x) (dq σ ix) ok d K
 | .mapUpdate t x ix y=>match d with
  | none=>H_ E σ t (dq σ x) (dq σ ix) (dq σ y) K
  | some _=>none
 | .call c=>match c.callee with
  | .builtin .len=>match c.args.toList,c.argTypes.toList with
   | [x],[t]=>match Re (E.TI t) with
    | false=>TJ E σ t (dq σ x) λn=>K (σ.b9 d (.val (.int .i64) (n:Int)))
    | true=>Ia E σ t (dq σ x) λn=>K (σ.b9 d (.val (.int .i64) (n:Int)))
   | _,_=>none
  | .builtin .append=>match c.args.toList,c.argTypes.toList with
   | [b,x],t::_=>H7 E σ t (dq σ b) x (!fz 1) (fz 2) d K
   | _,_=>none
  | .builtin .copy=>match c.args.toList,c.argTypes.toList with
   | [b,x],t::_=>O9 E σ t b (dq σ x) d K
   | _,_=>none
  | .value (.func f)=>match E.G f with
   | some g=>match g.cap with
    | false=>BQ g σ c.args.toList [] d K
    | true=>none
   | none=>none
  | .value (.tmp i)=>match Ku (σ.get i) with
   | some (f,n)=>match E.G f with
    | some g=>match g.cap with
     | true=>BQ g σ c.args.toList [.cp (.int .i64) n] d K
     | false=>BQ g σ c.args.toList [] d K
    | none=>none
   | none=>none
  | _=>none
 | _=>none
def om (l:List (Nat×List Nat)) (i:Nat):List Nat:=match m9 l i with | some x=>x | none=>[]
def Dm (ops:List Oper) (σ:St) (g:Option (Nat×Bool)) (K:Bool->St->Option R):Option R:=
 match g with
 | none=>K true σ
 | some (j,want)=>match (ops[j]?).bind (·.dst) with
  | none=>none
  | some t=>match σ.get t with
   | .val .bool b=>match b with
    | true=>K (want == true) (σ.Kk t (.val .bool true))
    | false=>K (want == false) (σ.Kk t (.val .bool false))
   | .rB []=>K false σ
   | _=>none
def Ib (E:Env) (gn:Nat) (ops:List Oper):List Oper->Nat->St->(St->Option R)->Option R
 | [],_,σ,K=>K σ
 | o::rest,i,σ,K=>Dm ops σ o.guard λb σ=>
  match b with
  | true=>ry E gn i o σ λσ=>Ib E gn ops rest (i+1) σ K
  | false=>Ib E gn ops rest (i+1) (σ.b9 o.dst (.rB [])) K
def Kv (σ:St) (o:Oper):Bool:=match o.op with
 | .load _ x=>match dq σ x with
  | .cp _ _=>true
  | _=>false
 | .convert _ _ x=>match dq σ x with
  | .val (.int _) _=>true
  | .val .str _=>true
  | .val (.U (.int .u8)) _=>true
  | _=>false
 | _=>false
def Kw (E:Env) (gn i:Nat):Bool:=(om E.ar gn).any (Nat.beq i)
def Ew:Op->Bool
 | .store .. | .mapUpdate .. | .call ..=>true
 | _=>false
def qg:Path->Path->Bool
 | [],[]=>true
 | .fst::p,.fst::q=>qg p q
 | .snd::p,.snd::q=>qg p q
 | .idx i::p,.idx j::q=>Nat.beq i j&&qg p q
 | .o4 i::p,.o4 j::q=>Nat.beq i j&&qg p q
 | _,_=>false
def VE (σ:St) (r:Nat) (p:Path) (v:Int):Bool:=
 match pp σ r p λt _ _ x=>jy t (.int .i64) x λy=>some (decide ((y:Int)=v)) with
 | some b=>b
 | none=>false
def TN (σ:St) (o:Oper):Bool:=match o.op,o.dst with
 | .load _ (.tmp i),some d=>match σ.get i with
  | .ptr r p s=>match σ.get d with
   | .ref r' p' s'=>Nat.beq r r'&&(σ.ok r s&&σ.ok r s')&&qg p p'
   | .val (.int .i64) v=>σ.ok r s&&VE σ r p v
   | _=>false
  | .box ..=>match σ.get d with
   | .ref r' p' s'=>Nat.beq i r'&&σ.ok i s'&&qg [] p'
   | _=>false
  | _=>false
 | _,_=>false
def Gp (l:List (Nat×List (Nat×Nat))) (i:Nat):List (Nat×Nat):=match m9 l i with | some x=>x | none=>[]
def Pb (E:Env) (gn i:Nat):Bool:=(Gp E.er gn).any λe=>Nat.beq i e.1
def Pc (E:Env) (gn:Nat) (ops:List Oper) (is:List Nat) (σ:St):Bool:=(Gp E.er gn).all λe=>is.any (Nat.beq e.1)||!(is.any (Nat.beq e.2)||Nat.ble ops.length e.2)||(match ops[e.1]? with
 | some o=>TN σ o
 | none=>false)
def Gq (E:Env) (gn:Nat) (ops:List Oper) (i:Nat) (o:Oper) (is:List Nat) (σ:St):Bool:=!(Ew o.op||Pb E gn i)||Pc E gn ops is σ
def N6 (σ:St):List Nat->(St->Option R)->Option R
 | [],K=>K σ
 | i::is,K=>match σ.get i with
  | .box t m H v=>if H.isEmpty&&fits m (ax t) then N6 ((σ.put i .dead).put i (.cp t v)) is K else none
  | _=>none
def Ic (σ:St) (d:Nat):Bool:=Nat.blt d σ.n&&(match σ.get d with
 | .dead=>true
 | _=>false)&&!BK σ.az d&&!σ.gh.any λe=>Nat.beq e.1 d
def Pd (E:Env) (gn:Nat) (ops:List Oper) (is:List Nat) (σ:St):Bool:=(om E.pd gn).all λj=>!is.any (Nat.beq j)||(match (ops[j]?).bind (·.dst) with
 | some d=>Ic σ d
 | none=>false)
def Rf (ops:List Oper) (σ:St):List Nat->(St->Option R)->Option R
 | [],K=>K σ
 | j::js,K=>match (ops[j]?).bind (·.dst) with
  | some d=>Rf ops (σ.put d .dead) js K
  | none=>none
def Dn (E:Env) (gn:Nat) (ops:List Oper):List Nat->St->(St->Option R)->Option R
 | [],σ,K=>K σ
 | i::is,σ,K=>
  match Pd E gn ops (i::is) σ with
  | false=>none
  | true=>
  match ops[i]? with
  | none=>none
  | some o=>Dm ops σ o.guard λb σ=>
   match b with
   | true=>match Kw E gn i&&!Kv σ o with
    | true=>none
    | false=>ry E gn i o σ λσ=>match Gq E gn ops i o is σ with
     | true=>Dn E gn ops is σ K
     | false=>none
   | false=>Dn E gn ops is (σ.b9 o.dst (.rB [])) K
def sh:Code->Nat
 | .region id _ _=>id
 | .seq a _=>sh a
 | .block _ b=>sh b
 | .loop b=>sh b
 | .scope b=>sh b
 | _=>0
def Do (live:List Nat) (fr:List (Nat×Md)) (r:Nat):Bool:=live.any (Nat.beq r)&&(match m9 fr r with
 | none=>true
 | some _=>false)
def jp (live:List Nat) (fr:List (Nat×Md)) (σ:St) (i:Nat):Slot:=
 match σ.get i with
 | .ptr r p snap=>if σ.ok r snap&&Do live fr r then .ptr r p (snap.map λ_=>0) else .dead
 | .ref r p snap=>if σ.ok r snap&&Do live fr r then .ref r p (snap.map λ_=>0) else .dead
 | .sub r p snap lo hi=>if σ.ok r snap&&Do live fr r then .sub r p (snap.map λ_=>0) lo hi else .dead
 | s=>s
def yr (live:List Nat) (σ:St):St:={ n:=σ.n,sl:=live.map λi=>(i,jp live [] σ i),vr:=[],az:=σ.az }
def zy (fr:List (Nat×Md)) (i:Nat) (s:Slot):Slot:=
 match m9 fr i with
 | none=>s
 | some m1=>
  match s with
  | .own t m H v=>if H.isEmpty&&fits m m1 then (if m1=ax t then .val t v else .own t m1 [] v) else .dead
  | .box t m H v=>if H.isEmpty&&fits m m1 then .box t m1 [] v else .dead
  | s=>s
def ff (live:List Nat) (fr:List (Nat×Md)) (σ:St):St:={ n:=σ.n,sl:=live.map λi=>(i,zy fr i (jp live fr σ i)),vr:=[],az:=σ.az }
def Pe (l:List (Nat×List (Nat×Md))) (i:Nat):List (Nat×Md):=match m9 l i with | some x=>x | none=>[]
inductive Ex where
 | normal
 | exit (id:Nat)
def i7 (rec:St->Option R) (kp:St->St) (K:Ex->St->Option R):Ex->St->Option R
 | .normal,σ=>rec (kp σ)
 | .exit j,σ=>K (.exit j) σ
def ay (B:St->(Ex->St->Option R)->Option R) (K:Ex->St->Option R):Ex->St->Option R
 | .normal,σ=>B σ K
 | .exit j,σ=>K (.exit j) σ
def ag (id:Nat) (K:Ex->St->Option R):Ex->St->Option R
 | .normal,σ=>K .normal σ
 | .exit j,σ=>if Nat.beq j id then K .normal σ else K (.exit j) σ
def BR (F:St->(Ex->St->Option R)->Option R) (kp:St->St) (K:Ex->St->Option R):Nat->St->Option R
 | 0,_=>none
 | k+1,σ=>F σ (i7 (BR F kp K k) kp K)
def ua (E:Env) (k:Nat) (fin:St->Option R):Code->St->(Ex->St->Option R)->Option R
 | .skip,σ,K=>K .normal σ
 | .region id ops d,σ,K=>match d with
  | false=>Ib E id ops.toList ops.toList 0 σ λσ=>N6 σ (om E.bx id) λσ=>K .normal σ
  | true=>N6 σ (om E.bx id) λσ=>Rf ops.toList σ (om E.pd id) λσ=>Dn E id ops.toList (om E.od id) σ λσ=>K .normal σ
 | .seq a b,σ,K=>ua E k fin a σ (ay (ua E k fin b) K)
 | .cond c a b,σ,K=>Gl (dq σ c) λc=>match c with
  | true=>ua E k fin a σ K
  | false=>ua E k fin b σ K
 | .block id b,σ,K=>ua E k fin b σ (ag id K)
 | .loop b,σ,K=>BR (ua E k fin b) (ff (om E.lv (sh b)) (Pe E.lf (sh b))) K k (ff (om E.lv (sh b)) (Pe E.lf (sh b)) σ)
 | .scope b,σ,K=>ua E k fin b σ K
 | .exit id,σ,K=>K (.exit id) (yr (om E.lx id) σ)
 | .ret,σ,_=>fin σ
 | _,_,_=>none
end
def sub:List Nat->Code->Code
 | [],c=>c
 | i::p,.seq a b=>match i with
  | 0=>sub p a
  | _=>sub p b
 | i::p,.cond _ a b=>match i with
  | 0=>sub p a
  | _=>sub p b
 | _::p,.block _ b=>sub p b
 | _::p,.loop b=>sub p b
 | _::p,.scope b=>sub p b
 | _,c=>c
def ak {V R:Type} (B:(V->Option R)->V->Option R):Nat->V->Option R
 | 0,_=>none
 | k+1,v=>B (ak B k) v
theorem av {V R:Type} (F:St->(Ex->St->Option R)->Option R) (kp:St->St) (K:Ex->St->Option R) (σ:V->St) (B:(V->Option R)->V->Option R)
  (h:∀ (rec:St->Option R) (v:V),F (σ v) (i7 rec kp K)=B (λv'=>rec (σ v')) v):∀ (n:Nat) (v:V),BR F kp K n (σ v)=ak B n v:=by
 intro n
 induction n with
 | zero=>intro v;rfl
 | succ n ih=>
  intro v;show F (σ v) (i7 (BR F kp K n) kp K)=B (ak B n) v;rw[h];have e:(λv'=>BR F kp K n (σ v'))=ak B n:=funext ih;rw[e]
end
end OT
namespace OT
open Go
noncomputable section
def iq:(ps:List (PM×Ty))->(dn (ps.map (·.2))).den->List Slot
 | [],_=>[]
 | (.ro,.ptr e)::ps,v=>.cp e v.1::iq ps v.2
 | (.fix f,.fn)::ps,v=>.val .fn (f,v.1.2)::iq ps v.2
 | (.fix _,_)::ps,v=>.dead::iq ps v.2
 | (.ro,t)::ps,v=>.val t v.1::iq ps v.2
 | (.pt m _,t)::ps,v=>.box t m [] v.1::iq ps v.2
 | (.kY m,t)::ps,v=>.own t m [] v.1::iq ps v.2
 | (.nc m,t)::ps,v=>.own t m [] v.1::iq ps v.2
 | (.sP m,t)::ps,v=>.box t m [] v.1::iq ps v.2
def zA:Nat->List Slot->List (Nat×Slot)
 | _,[]=>[]
 | i,s::ss=>(i,s)::zA (i+1) ss
def ui:Nat->List (PM×Ty)->List (Nat×Nat×Bool)
 | _,[]=>[]
 | i,(.pt _ _,_)::ps=>(i,i,false)::ui (i+1) ps
 | i,(.kY _,_)::ps=>(i,i,true)::ui (i+1) ps
 | i,(.sP _,_)::ps=>(i,i,false)::ui (i+1) ps
 | i,_::ps=>ui (i+1) ps
def Bu (ps:List (PM×Ty)) (v:(dn (ps.map (·.2))).den) (n:Nat):St:={ n:=n,sl:=zA 0 (iq ps v),vr:=[],az:=ui 0 ps }
section
variable {R:Type}
def wy (σ:St):Nat->(ps:List (PM×Ty))->List Nat->((dn (lC ps)).den->Option R)->Option R
 | _,[],_,K=>K ()
 | j,(.ro,_)::ps,es,K=>wy σ (j+1) ps es K
 | j,(.fix _,_)::ps,es,K=>wy σ (j+1) ps es K
 | j,(.sP _,_)::ps,es,K=>wy σ (j+1) ps es K
 | j,(.nc _,_)::ps,es,K=>wy σ (j+1) ps es K
 | j,(.pt _ m,t)::ps,i::es,K=>match σ.get i with
  | .box t' m' H v=>if H.isEmpty&&(decide (m'=m)||fits m' m)&&Bt σ.az i j false then jy t' t v λv=>wy σ (j+1) ps es λvs=>K (v,vs) else none
  | _=>none
 | j,(.kY m,t)::ps,i::es,K=>match σ.get i with
  | .own t' m' H v | .box t' m' H v=>if H.isEmpty&&(decide (m'=m)||fits m' m)&&Bt σ.az i j true then jy t' t v λv=>wy σ (j+1) ps es λvs=>K (v,vs) else none
  | _=>none
 | _,_,_,_=>none
def Gr (σ:St):ResultVar->Slot
 | .tmp i=>dq σ (.tmp i)
 | .cell a _=>match σ.get a with
  | .box _ _ _ _=>.ref a [] (σ.lw a)
  | _=>.dead
def Pf (σ:St) (ts:List Ty) (mv:Nat->Bool) (fin:St->((dn ts).den->Option R)->Option R) :
    (rs:List (Ty×Md))->List ResultVar->Nat->((dn (rs.map (·.1)++ts)).den->Option R)->Option R
 | [],[],_,K=>fin σ K
 | (t,m)::rs,x::xs,j,K=>mV σ (Gr σ x) (mv j) t λm' v σ'=>
  if m'=m\/fits m' m=true then Pf σ' ts mv fin rs xs (j+1) λvs=>K (v,vs) else none
 | _,_,_,_=>none
end
def Kx (ps:List (PM×Ty)) (rs:List (Ty×Md)) (es:List Nat) (Bv:List ResultVar) (mv:Nat->Bool) (σ:St):Option (dn (rs.map (·.1)++lC ps)).den:=
 Pf σ (lC ps) mv (λσ K=>wy σ 0 ps es K) rs Bv 0 some
def VF (fr:List Nat) (j:Nat):Bool:=!(fr.any (Nat.beq j))
def XU {R:Type} (fin:St->Option R):Ex->St->Option R
 | .normal,σ=>fin σ
 | .exit _,_=>none
def Dp (fn:Func):Code:=match fn.body with
 | some c=>c
 | none=>.refuse ""
abbrev PQ:Type:=List (PM×Ty)
abbrev RQ:Type:=List (Ty×Md)
abbrev TL:Type:=List (Nat×Ty)
abbrev GL:Type:=List (Nat×sQ)
abbrev KT (R:Type):Type:=Ex->St->Option R
abbrev RT (R:Type):Type:=St->Option R
def J3 (E:Env) (k:Nat) (fn:Func) (ps:List (PM×Ty)) (rs:List (Ty×Md)) (es fr:List Nat) (v:(dn (ps.map (·.2))).den):Option (dn (rs.map (·.1)++lC ps)).den:=
 ua E k (Kx ps rs es fn.results.toList (VF fr)) (Dp fn) (Bu ps v fn.ntmps) (XU (Kx ps rs es fn.results.toList (VF fr)))
def lift {R:Type} (f:Nat->Option R):Option R:=open Classical in if h:∃ out,∃ k,∀ k',k<=k'->f k'=some out then some h.choose else none
theorem ah {R:Type} {f:Nat->Option R} {out:R} {k:Nat} (h:∀ k',k<=k'->f k'=some out):lift f=some out:=by
 have hex:∃ out,∃ k,∀ k',k<=k'->f k'=some out:=⟨out,k,h⟩
 unfold lift;rw[dif_pos hex];obtain ⟨k2,h2⟩:=hex.choose_spec;have e1:=h (max k k2) (Nat.le_max_left _ _);have e2:=h2 (max k k2) (Nat.le_max_right _ _);rw[e1] at e2;exact e2.symm
theorem Rg {R:Type} {f:Nat->Option R} {out:R} (h:lift f=some out):∃ k,f k=some out:=by
 unfold lift at h;split at h
 ·rename_i hex;obtain ⟨k,hk⟩:=hex.choose_spec;injection h with h;exact ⟨k,by rw[<-h];exact hk k (aN _)⟩
 ·cases h
abbrev i64:Ty:=.int .i64
abbrev u8:Ty:=.int .u8
def af (n:Int):Int:=IntKind.wrap .i64 n
end
end OT
set_option linter.unusedVariables false
set_option linter.unusedSimpArgs false
namespace OT
open Go
abbrev FP:=Nat->Nat->Nat
abbrev Cells:=Nat->Nat->Prop
def isAgg:Ty->Bool
 | .unit | .pair _ _ | .arr _ _=>true
 | _=>false
def ci (t:Ty) (cs:List Value):Value:=if isAgg t then .agg cs.toArray else cs.headD undef
def BS (qJ:List (Value×Value)):Value:=.tuple (qJ.map λkv=>Value.tuple #[kv.1,kv.2]).toArray
def entriesOf (es:Array MapEntry):List (Value×Value):=es.toList.map λe=>(e.key,e.val)
def Pg (u:Value):Option Value:=if u.oneCell' then some u else none
def ce (w:World) (b i:Nat):Option Value:=match w.heap[b]? with
 | some (.map es _)=>if i=0 then some (BS (entriesOf es)) else none
 | _=>(w.cell? ⟨b,i,none⟩).bind Pg
theorem xr {w w2:World} {b:Nat} (h:w2.heap[b]?=w.heap[b]?) (i:Nat):ce w2 b i=ce w b i:=by simp only[ce,World.cell?,h]
theorem Dq {u v:Value} (h:Pg u=some v):v=u/\u.oneCell'=true:=by
 unfold Pg at h;split at h
 ·rename_i hu;injection h with h;exact ⟨h.symm,hu⟩
 ·cases h
theorem qU {w:World} {b i:Nat} {u:Value} (h:ce w b i=some u) (hu:u.oneCell'=true):w.cell? ⟨b,i,none⟩=some u:=by
 unfold ce at h;split at h
 ·split at h
  ·injection h with h;subst h;cases hu
  ·cases h
 ·cases hc:w.cell? ⟨b,i,none⟩ with
  | none=>rw[hc] at h;cases h
  | some v=>
   rw[hc] at h;have:=Dq h;rw[this.1]
theorem Ey {w:World} {b i:Nat} {u:Value} (h:w.cell? ⟨b,i,none⟩=some u) (hu:u.oneCell'=true):ce w b i=some u:=by
 have h':=h;unfold World.cell? at h;unfold ce;split at h
 ·rename_i heq;simp only at heq;simp only[heq,h',aA,Pg,hu,aI]
 ·cases h
theorem TO:∀ {a b:List (Value×Value)},BS a=BS b->a=b:=by
 have main:∀ (a b:List (Value×Value)),(a.map λkv=>Value.tuple #[kv.1,kv.2])=(b.map λkv=>Value.tuple #[kv.1,kv.2])->a=b:=by
  intro a
  induction a with
  | nil=>intro b h;cases b with
   | nil=>rfl
   | cons _ _=>cases h
  | cons x a ih=>
   intro b h
   cases b with
   | nil=>cases h
   | cons y b=>
    simp only[cS,cV] at h;obtain ⟨h1,h2⟩:=h;injection h1 with h1;have h3:=dE Array.toList h1;simp only[cV,eE] at h3;rw[ih b h2,Prod.ext h3.1 h3.2]
 intro a b h;unfold BS at h;injection h with h;exact main a b (by simpa using dE Array.toList h)
theorem Rh {w:World} {r:Nat} {qJ:List (Value×Value)} (h:ce w r 0=some (BS qJ)):∃ es clock,w.heap[r]?=some (.map es clock)/\entriesOf es=qJ:=by
 unfold ce at h;split at h
 ·rename_i es clock heq;simp only[aI] at h;injection h with h;exact ⟨es,clock,heq,TO h⟩
 ·cases hc:w.cell? ⟨r,0,none⟩ with
  | none=>rw[hc] at h;cases h
  | some v=>
   rw[hc] at h;have:=Dq h;have h2:=this.2;rw[<-this.1] at h2;cases h2
theorem Ri {w:World} {r:Nat} {es:Array MapEntry} {clock:Nat} (h:w.heap[r]?=some (.map es clock)):ce w r 0=some (BS (entriesOf es)):=by
 simp only[ce,h,aI]
def Has (w:World) (b o:Nat) (L:List Value):Prop:=∀ j u,L[j]?=some u->ce w b (o+j)=some u
def xt:Ty->Bool
 | .int .u8=>true
 | _=>false
def ge (w:World) (b:Nat) (n:Nat×Bool):Prop:=∃ c e fr,w.heap[b]?=some (.cells c e fr)/\c.size=n.1/\(∀ i,i < n.1->¬ (fr.1<=i/\i < fr.2))/\(n.2=false->¬ (fr.1<=n.1/\n.1 < fr.2))
def b_ (b o n:Nat):FP:=λb' i=>if b'=b/\o<=i/\i < o+n then 1 else 0
def a_:Nat->(Nat->FP)->FP
 | 0,_=>λ_ _=>0
 | n+1,f=>λb i=>a_ n f b i+f n b i
def fb (f:Nat->FP) (j:Nat) (g:FP):Nat->FP:=λi=>if i=j then g else f i
theorem qv {n:Nat} {f g:Nat->FP} (h:∀ j,j < n->f j=g j):a_ n f=a_ n g:=by
 induction n with
 | zero=>rfl
 | succ n ih=>
  funext b i;simp only[a_];rw[ih (λj hj=>h j (by omega)),h n (by omega)]
theorem sX {n:Nat} (f:Nat->FP) {j:Nat} (hj:j < n) (g:FP) (b i:Nat):a_ n (fb f j g) b i+f j b i=a_ n f b i+g b i:=by
 induction n with
 | zero=>omega
 | succ n ih=>
  simp only[a_];by_cases h:j=n
  ·subst h;have:a_ j (fb f j g)=a_ j f:=qv λk hk=>by simp[fb];omega
   rw[this];simp[fb];omega
  ·have:=ih (by omega);have e:fb f j g n=f n:=by simp[fb];omega
   rw[e];omega
theorem Ky {n:Nat} (f:Nat->FP) {j:Nat} (hj:n<=j) (g:FP):a_ n (fb f j g)=a_ n f:=
 qv λk hk=>by simp[fb];omega
theorem cy {n:Nat} (f:Nat->FP) {j:Nat} (hj:j < n) (b i:Nat):f j b i<=a_ n f b i:=by
 induction n with
 | zero=>omega
 | succ n ih=>
  simp only[a_];by_cases h:j=n
  ·subst h;omega
  ·have:=ih (by omega);omega
theorem uj {n:Nat} (f:Nat->FP) {j k:Nat} (hj:j < n) (hk:k < n) (fq:j≠k) (b i:Nat):f j b i+f k b i<=a_ n f b i:=by
 have h1:=sX f hj (λ_ _=>0) b i;have h2:=cy (fb f j λ_ _=>0) hk b i;have e:fb f j (λ_ _=>0) k=f k:=by simp[fb];omega
 rw[e] at h2;simp at h1;omega
theorem mK (n:Nat) (b i:Nat):a_ n (λ_ _ _=>0) b i=0:=by
 induction n with
 | zero=>rfl
 | succ n ih=>simp[a_,ih]
theorem sY (n m:Nat) (f:Nat->FP) (b i:Nat):a_ (n+m) f b i=a_ n f b i+a_ m (λj=>f (n+j)) b i:=by
 induction m with
 | zero=>simp[a_]
 | succ m ih=>rw[<-cE];simp only[a_];rw[ih];omega
theorem Id {n:Nat} {f g:Nat->FP} (b i:Nat) (h:∀ j,j < n->f j b i<=g j b i):a_ n f b i<=a_ n g b i:=by
 induction n with
 | zero=>exact aN _
 | succ n ih=>
  simp only[a_];have:=ih λj hj=>h j (by omega);have:=h n (by omega);omega
theorem IZ (n:Nat) (f:Nat->FP) (k m:Nat) (h:k+m<=n) (b i:Nat):a_ m (λj=>f (k+j)) b i<=a_ n f b i:=by
 have e:n=k+(m+(n - k - m)):=by omega
 rw[e,sY,sY];omega
theorem Kz {n:Nat} {f:Nat->FP} {b i:Nat} (h:1<=a_ n f b i):∃ j,j < n/\1<=f j b i:=by
 induction n with
 | zero=>simp[a_] at h
 | succ n ih=>
  simp only[a_] at h;by_cases h1:1<=a_ n f b i
  ·obtain ⟨j,hj,hh⟩:=ih h1;exact ⟨j,by omega,hh⟩
  ·exact ⟨n,by omega,by omega⟩
section
variable (P:Program) (w:World) (A:Cells)
def Ro:(t:Ty)->t.den->List Value->Prop
 | .int k,v,cs=>cs=[.int k (pG k v)]
 | .bool,v,cs=>cs=[.bool v]
 | .str,v,cs=>cs=[.string ⟨List.toArray v⟩]
 | .unit,_,cs=>cs=[]
 | .pair a b,v,cs=>Ro a v.1 (cs.take a.sz)/\Ro b v.2 (cs.drop a.sz)
 | .arr n e,v,cs=>e.flat=true/\List.length v=n/\cs.length=n*e.sz/\∀ (i:Nat) (x:e.den),v[i]?=some x->Ro e x ((cs.drop (i*e.sz)).take e.sz)
 | .U e,v,cs=>∃ a cap,cs=[.slice a (List.length v) cap]/\List.length v<=cap/\(a=none->List.length v=0)/\∀ ad,a=some ad->(0 < cap->ad.spot=none) /\
   ∀ (i:Nat) (x:e.den),v[i]?=some x->∃ L:List Value,L.length=e.sz/\(∀ j u,L[j]?=some u->ce w ad.block (ad.off+i*e.sz+j)=some u/\A ad.block (ad.off+i*e.sz+j))/\Ro e x L
 | .ptr e,v,cs=>∃ ad,cs=[.pointer (some ad)]/\ad.spot=none /\
   ∃ L:List Value,L.length=e.sz/\(∀ j u,L[j]?=some u->ce w ad.block (ad.off+j)=some u/\A ad.block (ad.off+j))/\Ro e v L
 | .fn,v,cs=>∃ yt,cs=[.func (.func v.1) #[] yt]/\∃ fn,P.funcs[v.1]?=some fn /\
   ((fn.nfree=0/\yt=#[])\/(fn.nfree=1/\∃ ad:Addr,yt=#[.pointer (some ad)]/\ad.spot=none/\ce w ad.block ad.off=some (.int .i64 v.2)/\A ad.block ad.off))
 | .map k v,x,cs=>k.flat=true/\v.flat=true/\∃ (r:Nat) (qJ:List (Value×Value)),cs=[.map (some r)]/\ce w r 0=some (BS qJ)/\A r 0/\qJ.length=List.length x /\
   ∀ (i:Nat) (y:k.den×v.den),x[i]?=some y->∃ (kc vc:List Value),qJ[i]?=some (ci k kc,ci v vc)/\Ro k y.1 kc/\Ro v y.2 vc
def hole (H:List Path):Bool:=H.any (·.isEmpty)
def ld (i:Nat):Path->Option Path
 | .idx j::p=>if i=j then some p else none
 | _=>none
def ap:(t:Ty)->Md->List Path->t.den->List Value->FP->Prop
 | .pair a b,m,H,v,cs,F=>hole H=false/\∃ F1 F2:FP,(∀ x i,F1 x i+F2 x i<=F x i) /\
   ap a m.l (H.filterMap vp) v.1 (cs.take a.sz) F1/\ap b m.r (H.filterMap vq) v.2 (cs.drop a.sz) F2
 | .U e,m,H,v,cs,F=>
   if hole H then ∃ x:Value,cs=[x]/\x.oneCell'=true
   else if m.own then ∃ a cap,cs=[.slice a (List.length v) cap]/\List.length v<=cap/\cap<=maxLen/\(a=none->cap=0)/\∀ ad,a=some ad->ad.off=0/\ad.spot=none /\
    ge w ad.block (cap*e.sz,xt e)/\∃ Fi:Nat->FP,(∀ x i,b_ ad.block 0 (cap*e.sz) x i+a_ (List.length v) Fi x i<=F x i) /\
    ∀ (i:Nat) (x:e.den),v[i]?=some x->∃ L:List Value,L.length=e.sz/\Has w ad.block (i*e.sz) L/\ap e m.e (H.filterMap (ld i)) x L (Fi i)
   else H=[]/\m.e.kI=true/\Ro P w A (.U e) v cs
 | .ptr e,m,H,v,cs,F=>
   if hole H then ∃ x:Value,cs=[x]/\x.oneCell'=true
   else if m.own then ∃ b,cs=[.pointer (some ⟨b,0,none⟩)]/\ge w b (e.sz,false)/\∃ (L:List Value) (F1:FP),L.length=e.sz/\Has w b 0 L /\
    (∀ x i,b_ b 0 e.sz x i+F1 x i<=F x i)/\ap e m.e [] v L F1
   else H=[]/\m.e.kI=true/\Ro P w A (.ptr e) v cs
 | .int k,_,_,v,cs,_=>Ro P w A (.int k) v cs
 | .bool,_,_,v,cs,_=>Ro P w A .bool v cs
 | .str,_,_,v,cs,_=>Ro P w A .str v cs
 | .unit,_,_,v,cs,_=>Ro P w A .unit v cs
 | .arr n e,_,H,v,cs,_=>H=[]/\Ro P w A (.arr n e) v cs
 | .fn,_,_,v,cs,_=>Ro P w A .fn v cs
 | .map k v,m,H,x,cs,F=>
   if hole H then ∃ x:Value,cs=[x]/\x.oneCell'=true
   else if m.own then k.flat=true/\v.flat=true/\∃ (r:Nat) (qJ:List (Value×Value)),cs=[.map (some r)]/\ce w r 0=some (BS qJ)/\1<=F r 0/\qJ.length=List.length x /\
    ∀ (i:Nat) (y:k.den×v.den),x[i]?=some y->∃ (kc vc:List Value),qJ[i]?=some (ci k kc,ci v vc)/\Ro P w A k y.1 kc/\Ro P w A v y.2 vc
   else H=[]/\m.e.kI=true/\Ro P w A (.map k v) x cs
end
theorem Ro.length {P:Program} {w:World} {A:Cells}:∀ (t:Ty) {v:t.den} {cs:List Value},Ro P w A t v cs->cs.length=t.sz:=by
 intro t
 induction t with
 | pair a b kO kD=>
  intro v cs h;have h1:=kO h.1;have h2:=kD h.2;simp only[bP,bI] at h1 h2;simp only[Ty.sz];omega
 | arr n e ih=>intro v cs h;exact h.2.2.1
 | U e ih=>rintro v cs ⟨a,cap,rfl,_⟩;rfl
 | ptr e ih=>rintro v cs ⟨a,rfl,_⟩;rfl
 | fn=>rintro v cs ⟨a,rfl,_⟩;rfl
 | map k v=>rintro v cs ⟨_,_,r,qJ,rfl,_⟩;rfl
 | unit=>intro v cs h;simp only[Ro] at h;subst h;rfl
 | _=>intro v cs h;simp only[Ro] at h;subst h;rfl
theorem ap.length {P:Program} {w:World} {A:Cells}:∀ (t:Ty) {m:Md} {H:List Path} {v:t.den} {cs:List Value} {F:FP},ap P w A t m H v cs F->cs.length=t.sz:=by
 intro t
 induction t with
 | pair a b kO kD=>
  intro m H v cs F h;obtain ⟨_,F1,F2,_,h1,h2⟩:=h;have h1:=kO h1;have h2:=kD h2;simp only[bP,bI] at h1 h2;simp only[Ty.sz];omega
 | U e ih=>
  intro m H v cs F h;simp only[ap] at h;split at h
  ·obtain ⟨x,rfl,_⟩:=h;rfl
  ·split at h
   ·obtain ⟨a,cap,rfl,_⟩:=h;rfl
   ·exact Ro.length _ h.2.2
 | ptr e ih=>
  intro m H v cs F h;simp only[ap] at h;split at h
  ·obtain ⟨x,rfl,_⟩:=h;rfl
  ·split at h
   ·obtain ⟨a,rfl,_⟩:=h;rfl
   ·exact Ro.length _ h.2.2
 | arr n e ih=>intro m H v cs F h;exact Ro.length _ h.2
 | map k v=>
  intro m H v cs F h;simp only[ap] at h;split at h
  ·obtain ⟨x,rfl,_⟩:=h;rfl
  ·split at h
   ·obtain ⟨_,_,r,qJ,rfl,_⟩:=h;rfl
   ·exact Ro.length _ h.2.2
 | _=>intro m H v cs F h;exact Ro.length _ h
structure Agr (w w':World) (S:Nat->Nat->Prop):Prop where
 cell:∀ b i,S b i->∀ u,ce w b i=some u->ce w' b i=some u
 ub:∀ b n,ge w b n->ge w' b n
theorem Ro.mono {P:Program} {w w':World} {A A':Cells} (hc:∀ b i,A b i->∀ u,ce w b i=some u->ce w' b i=some u) (hA:∀ b i,A b i->A' b i) :
  ∀ (t:Ty) {v:t.den} {cs:List Value},Ro P w A t v cs->Ro P w' A' t v cs:=by
 intro t
 induction t with
 | pair a b kO kD=>intro v cs h;exact ⟨kO h.1,kD h.2⟩
 | arr n e ih=>intro v cs h;exact ⟨h.1,h.2.1,h.2.2.1,λi x hx=>ih (h.2.2.2 i x hx)⟩
 | U e ih=>
  rintro v cs ⟨a,cap,h1,h2,h3,h4⟩;refine ⟨a,cap,h1,h2,h3,λad fk=>⟨(h4 ad fk).1,λi x hx=>?_⟩⟩
  obtain ⟨L,hl,hL,hr⟩:=(h4 ad fk).2 i x hx;exact ⟨L,hl,λj u hu=>⟨hc _ _ (hL j u hu).2 u (hL j u hu).1,hA _ _ (hL j u hu).2⟩,ih hr⟩
 | ptr e ih=>
  rintro v cs ⟨ad,h1,h2,L,hl,hL,hr⟩;exact ⟨ad,h1,h2,L,hl,λj u hu=>⟨hc _ _ (hL j u hu).2 u (hL j u hu).1,hA _ _ (hL j u hu).2⟩,ih hr⟩
 | fn=>
  rintro v cs ⟨yt,h1,fn,h2,h3⟩;refine ⟨yt,h1,fn,h2,?_⟩
  rcases h3 with h3 | ⟨h3,ad,h4,h5,h6,h7⟩
  ·exact .inl h3
  ·exact .inr ⟨h3,ad,h4,h5,hc _ _ h7 _ h6,hA _ _ h7⟩
 | map k v VG VH=>
  rintro x cs ⟨h1,h2,r,qJ,h3,h4,h5,h6,h7⟩;refine ⟨h1,h2,r,qJ,h3,hc _ _ h5 _ h4,hA _ _ h5,h6,λi y hy=>?_⟩
  obtain ⟨kc,vc,g1,g2,g3⟩:=h7 i y hy;exact ⟨kc,vc,g1,VG g2,VH g3⟩
 | _=>intro v cs h;exact h
theorem ap.mono {P:Program} {w w':World} {A A':Cells} (hA:∀ b i,A b i->A' b i) (hc:∀ b i,A b i->∀ u,ce w b i=some u->ce w' b i=some u) (hb:∀ b n,ge w b n->ge w' b n) :
  ∀ (t:Ty) {m:Md} {H:List Path} {v:t.den} {cs:List Value} {F F':FP},ap P w A t m H v cs F->(∀ b i,F b i<=F' b i)->(∀ b i,1<=F b i->∀ u,ce w b i=some u->ce w' b i=some u)->ap P w' A' t m H v cs F':=by
 intro t
 induction t with
 | pair a b kO kD=>
  intro m H v cs F F' h hF wz;obtain ⟨h0,F1,F2,hs,h1,h2⟩:=h
  exact ⟨h0,F1,F2,λx i=>bO (hs x i) (hF x i),kO h1 (λ_ _=>aN _) (λb i hp=>wz b i (by have:=hs b i;omega)),
   kD h2 (λ_ _=>aN _) (λb i hp=>wz b i (by have:=hs b i;omega))⟩
 | U e ih=>
  intro m H v cs F F' h hF wz;simp only[ap] at h ⊢;split at h
  ·rename_i hh;rw[aV hh];exact h
  ·rename_i hh;rw[bB hh];split at h
   ·rename_i hm;rw[aV hm];obtain ⟨a,cap,h1,h2,h3,h4,h5⟩:=h;refine ⟨a,cap,h1,h2,h3,h4,λad fk=>?_⟩
    obtain ⟨g1,g2,g3,Fi,g4,g5⟩:=h5 ad fk;refine ⟨g1,g2,hb _ _ g3,Fi,λx i=>bO (g4 x i) (hF x i),λi x hx=>?_⟩
    obtain ⟨L,hl,hL,hr⟩:=g5 i x hx;have hi:i < List.length v:=(aM.1 hx).1;refine ⟨L,hl,λj u hu=>wz _ _ ?_ u (hL j u hu),ih hr (λ_ _=>aN _) (λb k hp=>wz b k ?_)⟩
    ·have:=g4 ad.block (i*e.sz+j);have hj:j < e.sz:=hl ▸ (aM.1 hu).1
     have:i*e.sz+j < cap*e.sz:=by
      have h1:(i+1)*e.sz<=cap*e.sz:=bD _ (by omega);rw[cI] at h1;omega
     simp[b_,this] at *;omega
    ·have h1:=g4 b k;have h2:=cy Fi hi b k;omega
   ·rename_i hm;rw[bB hm];exact ⟨h.1,h.2.1,Ro.mono hc hA _ h.2.2⟩
 | ptr e ih=>
  intro m H v cs F F' h hF wz;simp only[ap] at h ⊢;split at h
  ·rename_i hh;rw[aV hh];exact h
  ·rename_i hh;rw[bB hh];split at h
   ·rename_i hm;rw[aV hm];obtain ⟨b,h1,h2,L,F1,h3,h4,h5,h6⟩:=h;refine ⟨b,h1,hb _ _ h2,L,F1,h3,λj u hu=>wz _ _ ?_ u (h4 j u hu),λx i=>bO (h5 x i) (hF x i),ih h6 (λ_ _=>aN _) (λb' k hp=>wz b' k ?_)⟩
    ·have:=h5 b (0+j);have hj:j < e.sz:=h3 ▸ (aM.1 hu).1;simp[b_,hj] at *;omega
    ·have:=h5 b' k;omega
   ·rename_i hm;rw[bB hm];exact ⟨h.1,h.2.1,Ro.mono hc hA _ h.2.2⟩
 | arr n e ih=>intro m H v cs F F' h hF wz;exact ⟨h.1,Ro.mono hc hA _ h.2⟩
 | map k v VG VH=>
  intro m H x cs F F' h hF wz;simp only[ap] at h ⊢;split at h
  ·rename_i hh;rw[aV hh];exact h
  ·rename_i hh;rw[bB hh];split at h
   ·rename_i hm;rw[aV hm];obtain ⟨h1,h2,r,qJ,h3,h4,h5,h6,h7⟩:=h;refine ⟨h1,h2,r,qJ,h3,wz _ _ h5 _ h4,bO h5 (hF r 0),h6,λi y hy=>?_⟩
    obtain ⟨kc,vc,g1,g2,g3⟩:=h7 i y hy;exact ⟨kc,vc,g1,Ro.mono hc hA k g2,Ro.mono hc hA v g3⟩
   ·rename_i hm;rw[bB hm];exact ⟨h.1,h.2.1,Ro.mono hc hA _ h.2.2⟩
 | _=>intro m H v cs F F' h hF wz;exact Ro.mono hc hA _ h
theorem ap.le {P:Program} {w:World} {A:Cells} {t:Ty} {m:Md} {H:List Path} {v:t.den} {cs:List Value} {F F':FP} (h:ap P w A t m H v cs F) (hF:∀ b i,F b i<=F' b i):ap P w A t m H v cs F':=
 ap.mono (λ_ _ h=>h) (λ_ _ _ _ h=>h) (λ_ _ h=>h) t h hF (λ_ _ _ _ h=>h)
theorem ap.wA {P:Program} {w:World} {A A':Cells} (hA:∀ b i,A b i->A' b i) :
  ∀ (t:Ty) {m:Md} {v:t.den} {cs:List Value} {F:FP},ap P w A t m [] v cs F->(∀ b i,1<=F b i->A' b i)->Ro P w A' t v cs:=by
 intro t
 induction t with
 | pair a b kO kD=>
  intro m v cs F h hF;obtain ⟨h0,F1,F2,hs,h1,h2⟩:=h;exact ⟨kO h1 (λb i hp=>hF b i (by have:=hs b i;omega)),kD h2 (λb i hp=>hF b i (by have:=hs b i;omega))⟩
 | U e ih=>
  intro m v cs F h hF;simp only[ap,hole,bU,aF,aL] at h;split at h
  ·obtain ⟨a,cap,h1,h2,h3,h4,h5⟩:=h;refine ⟨a,cap,h1,h2,λhn=>by have:=h4 hn;omega,λad fk=>?_⟩
   obtain ⟨g1,g2,g3,Fi,g4,g5⟩:=h5 ad fk;refine ⟨λ_=>g2,λi x hx=>?_⟩
   obtain ⟨L,hl,hL,hr⟩:=g5 i x hx;have hi:i < List.length v:=(aM.1 hx).1;refine ⟨L,hl,λj u hu=>?_,ih hr λb k hp=>hF b k ?_⟩
   ·rw[g1,bE];refine ⟨hL j u hu,hF _ _ ?_⟩
    have:=g4 ad.block (i*e.sz+j);have hj:j < e.sz:=hl ▸ (aM.1 hu).1
    have:i*e.sz+j < cap*e.sz:=by
     have h1:(i+1)*e.sz<=cap*e.sz:=bD _ (by omega);rw[cI] at h1;omega
    simp[b_,this] at *;omega
   ·have h1:=g4 b k;have h2:=cy Fi hi b k;omega
  ·exact Ro.mono (λ_ _ _ _ h=>h) hA _ h.2.2
 | ptr e ih=>
  intro m v cs F h hF;simp only[ap,hole,bU,aF,aL] at h;split at h
  ·obtain ⟨b,h1,h2,L,F1,h3,h4,h5,h6⟩:=h;refine ⟨_,h1,rfl,L,h3,λj u hu=>⟨h4 j u hu,hF _ _ ?_⟩,ih h6 λb' k hp=>hF _ _ ?_⟩
   ·have:=h5 b (0+j);have hj:j < e.sz:=h3 ▸ (aM.1 hu).1;simp[b_,hj] at *;omega
   ·have:=h5 b' k;omega
  ·exact Ro.mono (λ_ _ _ _ h=>h) hA _ h.2.2
 | arr n e ih=>intro m v cs F h hF;exact Ro.mono (λ_ _ _ _ h=>h) hA _ h.2
 | map k v VG VH=>
  intro m x cs F h hF;simp only[ap,hole,bU,aF,aL] at h;split at h
  ·obtain ⟨h1,h2,r,qJ,h3,h4,h5,h6,h7⟩:=h;refine ⟨h1,h2,r,qJ,h3,h4,hF _ _ h5,h6,λi y hy=>?_⟩
   obtain ⟨kc,vc,g1,g2,g3⟩:=h7 i y hy;exact ⟨kc,vc,g1,Ro.mono (λ_ _ _ _ h=>h) hA k g2,Ro.mono (λ_ _ _ _ h=>h) hA v g3⟩
  ·exact Ro.mono (λ_ _ _ _ h=>h) hA _ h.2.2
 | _=>intro m v cs F h hF;exact Ro.mono (λ_ _ _ _ h=>h) hA _ h
end OT
set_option linter.unusedVariables false
set_option linter.unusedSimpArgs false
namespace OT
open Go
theorem N7 {m:Md} (h:m.kI=true):m.l.kI=true:=by cases m <;> simp_all [Md.kI,Md.l]
theorem N8 {m:Md} (h:m.kI=true):m.r.kI=true:=by cases m <;> simp_all [Md.kI,Md.r]
theorem Ie {m:Md} (h:m.kI=true):m.e.kI=true:=by cases m <;> simp_all [Md.kI,Md.e]
theorem vZ {m:Md} (h:m.kI=true):m.own=false:=by cases m <;> simp_all [Md.kI,Md.own]
theorem f_ (t:Ty):(ax t).kI=true:=by
 induction t <;> simp_all [ax,sW,Md.kI]
theorem XV {m m1:Md} (h:fits m m1=true):fits m.l m1.l=true:=by cases m <;> cases m1 <;> simp_all [fits,Md.l]
theorem XW {m m1:Md} (h:fits m m1=true):fits m.r m1.r=true:=by cases m <;> cases m1 <;> simp_all [fits,Md.r]
theorem Rj {m m1:Md} (h:fits m m1=true):fits m.e m1.e=true:=by cases m <;> cases m1 <;> simp_all [fits,Md.e]
theorem Fx {m m1:Md} (h:fits m m1=true):m1.own=true->m.own=true:=by
 intro h1;cases m <;> cases m1 <;> simp_all [fits,Md.own]
theorem If {m m1:Md} (h:fits m m1=true) (h1:m1.own=false):m1.e.kI=true\/∃ e,m1=.arr e:=by
 cases m <;> cases m1 <;> simp_all [fits,Md.own,Md.e,Md.kI]
theorem BT:∀ {m m1:Md},fits m m1=true->m.kI=true->m1.kI=true:=by
 intro m
 induction m with
 | leaf=>intro m1 h hn;cases m1 <;> simp_all [fits,Md.kI]
 | pair a b kO kD=>
  intro m1 h hn
  cases m1 with
  | pair c d=>simp only[fits,Md.kI,aE] at *;exact ⟨kO h.1 hn.1,kD h.2 hn.2⟩
  | _=>simp[fits] at h
 | arr e ih=>
  intro m1 h hn
  cases m1 with
  | arr d=>simp only[fits,Md.kI] at *;exact ih h hn
  | _=>simp[fits] at h
 | U o e ih=>
  intro m1 h hn
  cases m1 with
  | U o' d=>
   simp only[fits,Md.kI,aE,cY,cM] at *;rw[hn.1] at h;exact ⟨by rcases h.1.1 with h | h;exact absurd h (by simp);exact h,ih h.2 hn.2⟩
  | _=>simp[fits] at h
 | ptr o e ih=>
  intro m1 h hn
  cases m1 with
  | ptr o' d=>
   simp only[fits,Md.kI,aE,cY,cM] at *;rw[hn.1] at h;exact ⟨by rcases h.1.1 with h | h;exact absurd h (by simp);exact h,ih h.2 hn.2⟩
  | _=>simp[fits] at h
section
variable {P:Program} {w:World} {A:Cells}
theorem Ro.rep:∀ (t:Ty) {m:Md} {v:t.den} {cs:List Value} (F:FP),m.kI=true->Ro P w A t v cs->ap P w A t m [] v cs F:=by
 intro t
 induction t with
 | pair a b kO kD=>
  intro m v cs F hm h;exact ⟨rfl,λ_ _=>0,λ_ _=>0,λ_ _=>aY _,kO _ (N7 hm) h.1,kD _ (N8 hm) h.2⟩
 | U e ih=>intro m v cs F hm h;simp only[ap,hole,bU,aF,aL,vZ hm];exact ⟨trivial,Ie hm,h⟩
 | ptr e ih=>intro m v cs F hm h;simp only[ap,hole,bU,aF,aL,vZ hm];exact ⟨trivial,Ie hm,h⟩
 | arr n e ih=>intro m v cs F hm h;exact ⟨rfl,h⟩
 | map k v=>intro m x cs F hm h;simp only[ap,hole,bU,aF,aL,vZ hm];exact ⟨trivial,Ie hm,h⟩
 | _=>intro m v cs F hm h;exact h
theorem ap.ro:∀ (t:Ty) {m:Md} {v:t.den} {cs:List Value} {F:FP},m.kI=true->ap P w A t m [] v cs F->Ro P w A t v cs:=by
 intro t
 induction t with
 | pair a b kO kD=>
  intro m v cs F hm h;obtain ⟨_,F1,F2,_,h1,h2⟩:=h;exact ⟨kO (N7 hm) h1,kD (N8 hm) h2⟩
 | U e ih=>intro m v cs F hm h;simp only[ap,hole,bU,aF,aL,vZ hm] at h;exact h.2.2
 | ptr e ih=>intro m v cs F hm h;simp only[ap,hole,bU,aF,aL,vZ hm] at h;exact h.2.2
 | arr n e ih=>intro m v cs F hm h;exact h.2
 | map k v=>intro m x cs F hm h;simp only[ap,hole,bU,aF,aL,vZ hm] at h;exact h.2.2
 | _=>intro m v cs F hm h;exact h
theorem Ro.flat:∀ (t:Ty) {m:Md} {v:t.den} {cs:List Value} (F:FP),t.flat=true->Ro P w A t v cs->ap P w A t m [] v cs F:=by
 intro t
 induction t with
 | pair a b kO kD=>
  intro m v cs F hm h;simp only[Ty.flat,aE] at hm;exact ⟨rfl,λ_ _=>0,λ_ _=>0,λ_ _=>aY _,kO _ hm.1 h.1,kD _ hm.2 h.2⟩
 | U e ih=>intro m v cs F hm;simp[Ty.flat] at hm
 | ptr e ih=>intro m v cs F hm;simp[Ty.flat] at hm
 | arr n e ih=>intro m v cs F hm h;exact ⟨rfl,h⟩
 | map k v=>intro m v cs F hm;simp[Ty.flat] at hm
 | _=>intro m v cs F hm h;exact h
theorem ap.flat:∀ (t:Ty) {m:Md} {H:List Path} {v:t.den} {cs:List Value} {F:FP},t.flat=true->ap P w A t m H v cs F->Ro P w A t v cs:=by
 intro t
 induction t with
 | pair a b kO kD=>
  intro m H v cs F hm h;simp only[Ty.flat,aE] at hm;obtain ⟨_,F1,F2,_,h1,h2⟩:=h;exact ⟨kO hm.1 h1,kD hm.2 h2⟩
 | U e ih=>intro m H v cs F hm;simp[Ty.flat] at hm
 | ptr e ih=>intro m H v cs F hm;simp[Ty.flat] at hm
 | arr n e ih=>intro m H v cs F hm h;exact h.2
 | map k v=>intro m H v cs F hm;simp[Ty.flat] at hm
 | _=>intro m H v cs F hm h;exact h
theorem ap.fits:∀ (t:Ty) {m m1:Md} {v:t.den} {cs:List Value} {F:FP},fits m m1=true->ap P w A t m [] v cs F->(∀ b i,F b i<=1) ->
  ∃ F1:FP,(∀ b i,F1 b i<=F b i)/\∀ A':Cells,(∀ b i,A b i->A' b i)->(∀ b i,1<=F b i->F1 b i=0->A' b i)->ap P w A' t m1 [] v cs F1:=by
 intro t
 induction t with
 | pair a b kO kD=>
  intro m m1 v cs F hf h hF;obtain ⟨_,Fa,Fb,hs,h1,h2⟩:=h;obtain ⟨G1,hG1,k1⟩:=kO (XV hf) h1 (λb i=>by have:=hs b i;have:=hF b i;omega);obtain ⟨G2,hG2,k2⟩:=kD (XW hf) h2 (λb i=>by have:=hs b i;have:=hF b i;omega);refine ⟨λb i=>G1 b i+G2 b i,λb i=>by have:=hs b i;have:=hG1 b i;have:=hG2 b i;show G1 b i+G2 b i<=_;omega,λA' hA nZ=>⟨rfl,G1,G2,λ_ _=>aN _,k1 A' hA λb i hp hz=>?_,k2 A' hA λb i hp hz=>?_⟩⟩
  ·have:=hs b i;have:=hF b i;have:=hG2 b i
   exact nZ b i (by omega) (by show G1 b i+G2 b i=0;omega)
  ·have:=hs b i;have:=hF b i;have:=hG1 b i
   exact nZ b i (by omega) (by show G1 b i+G2 b i=0;omega)
 | U e ih=>
  intro m m1 v cs F hf h hF;by_cases Ar:m1.own=true
  ·have hm:=Fx hf Ar;simp only[ap,hole,bU,aF,aL,hm,aI] at h;obtain ⟨a,cap,h1,h2,h3,h4,h5⟩:=h
   cases a with
   | none=>
    refine ⟨λ_ _=>0,λ_ _=>aY _,λA' hA nZ=>?_⟩
    simp only[ap,hole,bU,aF,aL,Ar,aI];exact ⟨none,cap,h1,h2,h3,h4,λad fk=>by cases fk⟩
   | some ad=>
    obtain ⟨g1,g2,g3,Fi,g4,g5⟩:=h5 ad rfl
    have each:∀ i,∃ Gi:FP,(∀ b k,Gi b k<=Fi i b k)/\∀ A':Cells,(∀ b i,A b i->A' b i)->(∀ b k,1<=Fi i b k->Gi b k=0->A' b k) ->
      ∀ x,v[i]?=some x->∃ L:List Value,L.length=e.sz/\Has w ad.block (i*e.sz) L/\ap P w A' e m1.e (([]:List Path).filterMap (ld i)) x L Gi:=by
     intro i
     cases hx:(v:List e.den)[i]? with
     | none=>exact ⟨λ_ _=>0,λ_ _=>aY _,λA' _ _ x Gs=>by cases Gs⟩
     | some x=>
      obtain ⟨L,hl,hL,hr⟩:=g5 i x hx;have hi:i < List.length v:=(aM.1 hx).1;obtain ⟨G,hG,k⟩:=ih (Rj hf) hr (λb k=>by have:=cy Fi hi b k;have:=g4 b k;have:=hF b k;omega);exact ⟨G,hG,λA' hA nZ x' Gs=>by injection Gs with Gs;subst Gs;exact ⟨L,hl,hL,k A' hA nZ⟩⟩
    have ⟨Gi,VI⟩:=iC each;refine ⟨λb k=>b_ ad.block 0 (cap*e.sz) b k+a_ (List.length v) Gi b k,λb k=>?_,λA' hA nZ=>?_⟩
    ·have:=g4 b k;have:=Id b k (f:=Gi) (g:=Fi) (n:=List.length v) λj _=>(VI j).1 b k
     show b_ ad.block 0 (cap*e.sz) b k+a_ (List.length v) Gi b k<=_;omega
    ·simp only[ap,hole,bU,aF,aL,Ar,aI];refine ⟨some ad,cap,h1,h2,h3,h4,λcr Fy=>?_⟩
     injection Fy with Fy;subst Fy;refine ⟨g1,g2,g3,Gi,λ_ _=>aN _,λi x hx=>(VI i).2 A' hA (λb k hp hz=>?_) x hx⟩
     have hi:i < List.length v:=(aM.1 hx).1;have h1:=g4 b k;have h2:=hF b k;have h3:=cy Fi hi b k
     refine nZ b k (by omega) ?_;show b_ ad.block 0 (cap*e.sz) b k+a_ (List.length v) Gi b k=0
     have:a_ (List.length v) Gi b k=0:=by
      rcases bF (a_ (List.length v) Gi b k) with h0 | h0
      ·exact h0
      ·obtain ⟨j,hj,hp'⟩:=Kz h0;have:=(VI j).1 b k;by_cases mZ:j=i
       ·subst mZ;omega
       ·have:=uj Fi hj hi mZ b k;omega
     omega
  ·have Dr:m1.own=false:=by simpa using Ar
   have qt:m1.e.kI=true:=by
    rcases If hf Dr with h | ⟨e',rfl⟩
    ·exact h
    ·cases m <;> simp[OT.fits] at hf;simp only[ap,hole,bU,aF,aL,Md.own] at h;exact BT hf h.2.1
   refine ⟨λ_ _=>0,λ_ _=>aY _,λA' hA nZ=>?_⟩
   have sB:=ap.wA hA _ h (λb i hp=>nZ b i hp rfl);simp only[ap,hole,bU,aF,aL,Dr];exact ⟨trivial,qt,sB⟩
 | ptr e ih=>
  intro m m1 v cs F hf h hF;by_cases Ar:m1.own=true
  ·have hm:=Fx hf Ar;simp only[ap,hole,bU,aF,aL,hm,aI] at h;obtain ⟨b,h1,h2,L,F1,h3,h4,h5,h6⟩:=h;obtain ⟨G,hG,k⟩:=ih (Rj hf) h6 (λb' i=>by have:=h5 b' i;have:=hF b' i;omega);refine ⟨λb' k=>b_ b 0 e.sz b' k+G b' k,λb' k=>by have:=h5 b' k;have:=hG b' k;show b_ b 0 e.sz b' k+G b' k<=_;omega,λA' hA nZ=>?_⟩
   simp only[ap,hole,bU,aF,aL,Ar,aI];refine ⟨b,h1,h2,L,G,h3,h4,λ_ _=>aN _,k A' hA λb' i hp hz=>nZ b' i ?_ ?_⟩
   ·have:=h5 b' i;omega
   ·have:=h5 b' i;have:=hF b' i
    show b_ b 0 e.sz b' i+G b' i=0;omega
  ·have Dr:m1.own=false:=by simpa using Ar
   have qt:m1.e.kI=true:=by
    rcases If hf Dr with h | ⟨e',rfl⟩
    ·exact h
    ·cases m <;> simp[OT.fits] at hf;simp only[ap,hole,bU,aF,aL,Md.own] at h;exact BT hf h.2.1
   refine ⟨λ_ _=>0,λ_ _=>aY _,λA' hA nZ=>?_⟩
   have sB:=ap.wA hA _ h (λb i hp=>nZ b i hp rfl);simp only[ap,hole,bU,aF,aL,Dr];exact ⟨trivial,qt,sB⟩
 | arr n e ih=>intro m m1 v cs F hf h hF;exact ⟨λ_ _=>0,λ_ _=>aY _,λA' hA nZ=>⟨rfl,Ro.mono (λ_ _ _ _ h=>h) hA _ h.2⟩⟩
 | map k v VG VH=>
  intro m m1 x cs F hf h hF;by_cases Ar:m1.own=true
  ·have hm:=Fx hf Ar;simp only[ap,hole,bU,aF,aL,hm,aI] at h;obtain ⟨h1,h2,r,qJ,h3,h4,h5,h6,h7⟩:=h;refine ⟨F,λ_ _=>aN _,λA' hA nZ=>?_⟩
   simp only[ap,hole,bU,aF,aL,Ar,aI];refine ⟨h1,h2,r,qJ,h3,h4,h5,h6,λi y hy=>?_⟩
   obtain ⟨kc,vc,g1,g2,g3⟩:=h7 i y hy;exact ⟨kc,vc,g1,Ro.mono (λ_ _ _ _ h=>h) hA k g2,Ro.mono (λ_ _ _ _ h=>h) hA v g3⟩
  ·have Dr:m1.own=false:=by simpa using Ar
   have qt:m1.e.kI=true:=by
    rcases If hf Dr with h | ⟨e',rfl⟩
    ·exact h
    ·cases m <;> simp[OT.fits] at hf;simp only[ap,hole,bU,aF,aL,Md.own] at h;exact BT hf h.2.1
   refine ⟨λ_ _=>0,λ_ _=>aY _,λA' hA nZ=>?_⟩
   have sB:=ap.wA hA _ h (λb i hp=>nZ b i hp rfl);simp only[ap,hole,bU,aF,aL,Dr];exact ⟨trivial,qt,sB⟩
 | _=>intro m m1 v cs F hf h hF;exact ⟨λ_ _=>0,λ_ _=>aY _,λA' hA nZ=>Ro.mono (λ_ _ _ _ h=>h) hA _ h⟩
end
end OT
set_option linter.unusedVariables false
set_option linter.unusedSimpArgs false
namespace OT
open Go
def rd (w:World) (b o n:Nat):List Value:=(List.range n).map λj=>(ce w b (o+j)).getD undef
theorem xX (w:World) (b o n:Nat):(rd w b o n).length=n:=by simp[rd]
theorem dx {w:World} {b o:Nat} {L:List Value} {n:Nat} (h:Has w b o L) (hn:L.length=n):rd w b o n=L:=by
 subst hn;apply fS;intro j;unfold rd;rw[eK];by_cases hj:j < L.length
 ·rw[iW hj];have:=h j L[j] (aB hj);simp[this,aB hj]
 ·simp[cW (fH hj),cW (l:=List.range L.length) (by simpa using fH hj)]
structure Pl where
 t:Ty
 H:List Path
 cs:List Value
 ad:Option (Nat×Nat)
def gf (ad:Option (Nat×Nat)) (k:Nat):Option (Nat×Nat):=ad.map λx=>(x.1,x.2+k)
def bk (w:World):Path->Ty->List Path->List Value->Option (Nat×Nat)->Option Pl
 | [],t,H,cs,ad=>some ⟨t,H,cs,ad⟩
 | .fst::p,.pair a _,H,cs,ad=>if hole H then none else bk w p a (H.filterMap vp) (cs.take a.sz) ad
 | .snd::p,.pair a b,H,cs,ad=>if hole H then none else bk w p b (H.filterMap vq) (cs.drop a.sz) (gf ad a.sz)
 | .idx i::p,.U e,H,cs,_=>if hole H then none else match cs with
  | [.slice (some a) n _]=>if i < n then bk w p e (H.filterMap (ld i)) (rd w a.block (a.off+i*e.sz) e.sz) (some (a.block,a.off+i*e.sz)) else none
  | _=>none
 | .o4 i::p,.arr n e,H,cs,ad=>if H.isEmpty then (if i < n then bk w p e [] ((cs.drop (i*e.sz)).take e.sz) (gf ad (i*e.sz)) else none) else none
 | _,_,_,_,_=>none
def vF:Ty->Bool
 | .U _ | .map _ _=>true
 | _=>false
def rD (d:Nat) (full:Prop) (w:World) (t:Ty) (H:List Path) (cs:List Value) (ad:Option (Nat×Nat)) (w2:World) (H2:List Path) (cz:List Value):Prop:=
 ∀ q pl,dj q<=d->bk w q t H cs ad=some pl->∃ H' br,bk w2 q t H2 cz ad=some ⟨pl.t,H',br,pl.ad⟩/\((dj q < d/\vF pl.t=true)\/full->br=pl.cs)
theorem Ds {R:Type} {H:List Path} {i:Nat} {K:List Path->Option R} {r:R} (h:xp H i K=some r) :
  K (H.filterMap (ld i))=some r/\(∀ j,j≠i->H.filterMap (ld j)=[])/\hole H=false:=by
 unfold xp at h;split at h
 ·exact ⟨h,λ_ _=>rfl,rfl⟩
 ·rename_i j q;split at h
  ·rename_i oE;subst oE;refine ⟨by simpa [ld] using h,λj hj=>by simp[ld,hj],rfl⟩
  ·cases h
 ·cases h
theorem BU {R S:Type} {H:List Path} {i:Nat} {K:List Path->Option R} {r:R} (h:xp H i K=some r) (K2:List Path->Option S) :
  xp H i K2=K2 (H.filterMap (ld i)):=by
 unfold xp at h ⊢;split at h
 ·rfl
 ·rename_i j q;split at h
  ·rename_i oE;subst oE;simp[ld]
  ·cases h
 ·cases h
theorem tE (H:List Path):(H.map (.fst::·)).filterMap vp=H:=by
 induction H with
 | nil=>rfl
 | cons a H ih=>simp only[cS,dB,vp,ih]
theorem tF (H:List Path):(H.map (.snd::·)).filterMap vq=H:=by
 induction H with
 | nil=>rfl
 | cons a H ih=>simp only[cS,dB,vq,ih]
theorem uk (H:List Path):(H.map (.snd::·)).filterMap vp=[]:=by
 induction H with
 | nil=>rfl
 | cons a H ih=>simp[vp] at *
theorem ul (H:List Path):(H.map (.fst::·)).filterMap vq=[]:=by
 induction H with
 | nil=>rfl
 | cons a H ih=>simp[vq] at *
theorem C0 (i:Nat) (H:List Path):(H.map (.idx i::·)).filterMap (ld i)=H:=by
 induction H with
 | nil=>rfl
 | cons a H ih=>simp only[cS,dB,ld,aI,ih]
theorem zB {i j:Nat} (h:j≠i) (H:List Path):(H.map (.idx i::·)).filterMap (ld j)=[]:=by
 induction H with
 | nil=>rfl
 | cons a H ih=>simp[ld,h] at *
theorem qo (s:Step) (H:List Path):hole (H.map (s::·))=false:=by
 induction H with
 | nil=>rfl
 | cons a H ih=>simp[hole] at *
theorem si (H1 H2:List Path):hole (H1++H2)=(hole H1||hole H2):=by simp[hole]
theorem Z1 {w:World}:∀ (q:Path) (t:Ty) {H H2:List Path} {cs:List Value} {ad:Option (Nat×Nat)} {pl Gt:Pl},bk w q t H cs ad=some pl->bk w q t H2 cs ad=some Gt->Gt.t=pl.t/\Gt.cs=pl.cs/\Gt.ad=pl.ad:=by
 intro q
 induction q with
 | nil=>intro t H H2 cs ad pl Gt h h2;simp only[bk,aP] at h h2;subst h;subst h2;exact ⟨rfl,rfl,rfl⟩
 | cons s q ih=>
  intro t H H2 cs ad pl Gt h h2
  cases t with
  | pair a b=>
   cases s with
   | fst=>simp only[bk] at h h2;split at h;cases h;split at h2;cases h2;exact ih a h h2
   | snd=>simp only[bk] at h h2;split at h;cases h;split at h2;cases h2;exact ih b h h2
   | _=>simp[bk] at h
  | U e=>
   cases s with
   | idx i=>
    simp only[bk] at h h2;split at h
    ·cases h
    ·split at h2
     ·cases h2
     ·split at h
      ·split at h
       ·rename_i hi;simp only[hi,aI] at h2;exact ih e h h2
       ·cases h
      ·cases h
   | _=>simp[bk] at h
  | arr n e=>
   cases s with
   | o4 i=>
    simp only[bk] at h h2;split at h
    ·split at h
     ·split at h2
      ·exact ih e h h2
      ·cases h2
     ·cases h
    ·cases h
   | _=>simp[bk] at h
  | _=>cases s <;> simp[bk] at h
section
variable {P:Program}
theorem v6 {w w2:World} {A:Cells} (hA:∀ b i,A b i->∀ u,ce w b i=some u->ce w2 b i=some u) :
  ∀ (q:Path) (t:Ty) {m:Md} {H:List Path} {v:t.den} {cs:List Value} {F:FP} {ad:Option (Nat×Nat)} {pl:Pl},ap P w A t m H v cs F->(∀ b i,1<=F b i->∀ u,ce w b i=some u->ce w2 b i=some u) ->
  bk w q t H cs ad=some pl->bk w2 q t H cs ad=some pl:=by
 intro q
 induction q with
 | nil=>intro t m H v cs F ad pl _ _ h;exact h
 | cons s q ih=>
  intro t m H v cs F ad pl hr hF h
  cases t with
  | pair a b=>
   obtain ⟨h0,F1,F2,hs,h1,h2⟩:=hr
   cases s with
   | fst=>simp only[bk,h0,aL] at h ⊢;exact ih a h1 (λb i hp=>hF b i (by have:=hs b i;omega)) h
   | snd=>simp only[bk,h0,aL] at h ⊢;exact ih b h2 (λb i hp=>hF b i (by have:=hs b i;omega)) h
   | idx i=>simp[bk] at h
   | o4 i=>simp[bk] at h
  | U e=>
   cases s with
   | fst=>simp[bk] at h
   | snd=>simp[bk] at h
   | o4 i=>simp[bk] at h
   | idx i=>
    simp only[ap] at hr;simp only[bk] at h ⊢;split at h
    ·cases h
    ·rename_i hh;rw[bB hh];rw[bB hh] at hr;split at hr
     ·obtain ⟨a,cap,rfl,h2,h3,h4,h5⟩:=hr
      cases a with
      | none=>cases h
      | some fh=>
       obtain ⟨g1,g2,g3,Fi,g4,g5⟩:=h5 fh rfl;simp only at h ⊢;split at h
       ·rename_i hi;rw[aV hi];obtain ⟨L,hl,hL,e_⟩:=g5 i _ (aB hi);have am:(i+1)*e.sz<=cap*e.sz:=bD _ (by omega);rw[cI] at am
        have hL2:Has w2 fh.block (i*e.sz) L:=λj u hu=>by
         have hj:j < e.sz:=hl ▸ (aM.1 hu).1;refine hF _ _ ?_ u (hL j u hu);have:=g4 fh.block (i*e.sz+j);have h0:i*e.sz+j < cap*e.sz:=by omega
         simp[b_,h0] at this;omega
        rw[g1,bE,dx hL hl] at h;rw[g1,bE,dx hL2 hl];exact ih e e_ (λb k hp=>hF b k (by have:=g4 b k;have:=cy Fi hi b k;omega)) h
       ·cases h
     ·obtain ⟨rfl,qt,a,cap,rfl,h2,h3,h4⟩:=hr
      cases a with
      | none=>cases h
      | some fh=>
       simp only at h ⊢;split at h
       ·rename_i hi;rw[aV hi];obtain ⟨L,hl,hL,e_⟩:=(h4 fh rfl).2 i _ (aB hi);rw[dx (λj u hu=>(hL j u hu).1) hl] at h;rw[dx (λj u hu=>hA _ _ (hL j u hu).2 u (hL j u hu).1) hl];exact ih e (Ro.rep e (λ_ _=>0) qt e_) (λb k hp=>by simp at hp) h
       ·cases h
  | arr n e=>
   cases s with
   | fst=>simp[bk] at h
   | snd=>simp[bk] at h
   | idx i=>simp[bk] at h
   | o4 i=>
    obtain ⟨rfl,hf,hl,hlen,hr⟩:=hr;simp only[bk,cT,aI] at h ⊢;split at h
    ·rename_i hi;rw[aV hi];exact ih e (Ro.flat e (m:=.leaf) (λ_ _=>0) hf (hr i _ (aB (by rw[hl];exact hi)))) (λb k hp=>by simp at hp) h
    ·cases h
  | _=>cases s <;> simp[bk] at h
theorem Rk {w:World} {A:Cells} {S:Nat->Nat->Prop} (hA:∀ b i,A b i->S b i) :
  ∀ (q:Path) (t:Ty) {m:Md} {H:List Path} {v:t.den} {cs:List Value} {F:FP} {ad:Option (Nat×Nat)} {pl:Pl},ap P w A t m H v cs F->(∀ b i,1<=F b i->S b i) ->
  (∀ b o,ad=some (b,o)->∀ j,j < t.sz->S b (o+j))->bk w q t H cs ad=some pl->∀ b o,pl.ad=some (b,o)->∀ j,j < pl.t.sz->S b (o+j):=by
 intro q
 induction q with
 | nil=>intro t m H v cs F ad pl _ _ fk h;simp only[bk,aP] at h;subst h;exact fk
 | cons s q ih=>
  intro t m H v cs F ad pl hr hF fk h
  cases t with
  | pair a b=>
   obtain ⟨h0,F1,F2,hs,h1,h2⟩:=hr
   cases s with
   | fst=>simp only[bk,h0,aL] at h;exact ih a h1 (λb i hp=>hF b i (by have:=hs b i;omega)) (λb' o e j hj=>fk b' o e j (by simp only[Ty.sz];omega)) h
   | snd=>
    simp only[bk,h0,aL] at h;refine ih b h2 (λb i hp=>hF b i (by have:=hs b i;omega)) (λb' o e j hj=>?_) h
    cases ad with
    | none=>cases e
    | some y=>
     simp only[gf,cC,aP,bS] at e;obtain ⟨rfl,rfl⟩:=e;have:=fk y.1 y.2 rfl (a.sz+j) (by simp only[Ty.sz];omega)
     rwa [cE]
   | idx i=>simp[bk] at h
   | o4 i=>simp[bk] at h
  | U e=>
   cases s with
   | fst=>simp[bk] at h
   | snd=>simp[bk] at h
   | o4 i=>simp[bk] at h
   | idx i=>
    simp only[ap] at hr;simp only[bk] at h;split at h
    ·cases h
    ·rename_i hh;rw[bB hh] at hr;split at hr
     ·obtain ⟨a,cap,rfl,h2,h3,h4,h5⟩:=hr
      cases a with
      | none=>cases h
      | some fh=>
       obtain ⟨g1,g2,g3,Fi,g4,g5⟩:=h5 fh rfl;simp only at h;split at h
       ·rename_i hi;obtain ⟨L,hl,hL,e_⟩:=g5 i _ (aB hi);have am:(i+1)*e.sz<=cap*e.sz:=bD _ (by omega);rw[cI] at am;rw[g1,bE,dx hL hl] at h;refine ih e e_ (λb k hp=>hF b k (by have:=g4 b k;have:=cy Fi hi b k;omega)) (λb' o e' j hj=>?_) h;simp only[aP,bS] at e';obtain ⟨rfl,rfl⟩:=e';refine hF _ _ ?_;have:=g4 fh.block (i*e.sz+j);have h0:i*e.sz+j < cap*e.sz:=by omega
        simp[b_,h0] at this;omega
       ·cases h
     ·obtain ⟨rfl,qt,a,cap,rfl,h2,h3,h4⟩:=hr
      cases a with
      | none=>cases h
      | some fh=>
       simp only at h;split at h
       ·rename_i hi;obtain ⟨L,hl,hL,e_⟩:=(h4 fh rfl).2 i _ (aB hi);rw[dx (λj u hu=>(hL j u hu).1) hl] at h;refine ih e (Ro.rep e (λ_ _=>0) qt e_) (λb k hp=>by simp at hp) (λb' o e' j hj=>?_) h;simp only[aP,bS] at e';obtain ⟨rfl,rfl⟩:=e';exact hA _ _ (hL j _ (aB (by omega))).2
       ·cases h
  | arr n e=>
   cases s with
   | fst=>simp[bk] at h
   | snd=>simp[bk] at h
   | idx i=>simp[bk] at h
   | o4 i=>
    obtain ⟨rfl,hf,hl,hlen,hr⟩:=hr;simp only[bk,cT,aI] at h;split at h
    ·rename_i hi;refine ih e (Ro.flat e (m:=.leaf) (λ_ _=>0) hf (hr i _ (aB (by rw[hl];exact hi)))) (λb k hp=>by simp at hp) (λb' o e' j hj=>?_) h
     cases ad with
     | none=>cases e'
     | some y=>
      simp only[gf,cC,aP,bS] at e';obtain ⟨rfl,rfl⟩:=e';have am:(i+1)*e.sz<=n*e.sz:=bD _ hi;rw[cI] at am;have:=fk y.1 y.2 rfl (i*e.sz+j) (by simp only[Ty.sz];omega)
      rwa [cE]
    ·cases h
  | _=>cases s <;> simp[bk] at h
theorem N9 {w:World} {A:Cells} :
  ∀ (q:Path) (t:Ty) {m:Md} {H:List Path} {v:t.den} {cs:List Value} {F:FP} {ad:Option (Nat×Nat)} {pl:Pl},ap P w A t m H v cs F ->
  (∀ b o,ad=some (b,o)->Has w b o cs)->bk w q t H cs ad=some pl->(∀ b o,pl.ad=some (b,o)->Has w b o pl.cs)/\∃ (m':Md) (v':pl.t.den) (F':FP),ap P w A pl.t m' pl.H v' pl.cs F':=by
 intro q
 induction q with
 | nil=>intro t m H v cs F ad pl hr fk h;simp only[bk,aP] at h;subst h;exact ⟨fk,m,v,F,hr⟩
 | cons s q ih=>
  intro t m H v cs F ad pl hr fk h
  cases t with
  | pair a b=>
   obtain ⟨h0,F1,F2,hs,h1,h2⟩:=hr
   cases s with
   | fst=>
    simp only[bk,h0,aL] at h;exact ih a h1 (λb' o e j u hu=>fk b' o e j u (by rw[bJ] at hu;split at hu;exact hu;cases hu)) h
   | snd=>
    simp only[bk,h0,aL] at h;refine ih b h2 (λb' o e j u hu=>?_) h
    cases ad with
    | none=>cases e
    | some y=>
     simp only[gf,cC,aP,bS] at e;obtain ⟨rfl,rfl⟩:=e;rw[bL] at hu;have:=fk y.1 y.2 rfl (a.sz+j) u hu
     rwa [cE]
   | idx i=>simp[bk] at h
   | o4 i=>simp[bk] at h
  | U e=>
   cases s with
   | fst=>simp[bk] at h
   | snd=>simp[bk] at h
   | o4 i=>simp[bk] at h
   | idx i=>
    simp only[ap] at hr;simp only[bk] at h;split at h
    ·cases h
    ·rename_i hh;rw[bB hh] at hr;split at hr
     ·obtain ⟨a,cap,rfl,h2,h3,h4,h5⟩:=hr
      cases a with
      | none=>cases h
      | some fh=>
       obtain ⟨g1,g2,g3,Fi,g4,g5⟩:=h5 fh rfl;simp only at h;split at h
       ·rename_i hi;obtain ⟨L,hl,hL,e_⟩:=g5 i _ (aB hi);rw[g1,bE,dx hL hl] at h;refine ih e e_ (λb' o e'=>?_) h;simp only[aP,bS] at e';obtain ⟨rfl,rfl⟩:=e';exact hL
       ·cases h
     ·obtain ⟨rfl,qt,a,cap,rfl,h2,h3,h4⟩:=hr
      cases a with
      | none=>cases h
      | some fh=>
       simp only at h;split at h
       ·rename_i hi;obtain ⟨L,hl,hL,e_⟩:=(h4 fh rfl).2 i _ (aB hi);rw[dx (λj u hu=>(hL j u hu).1) hl] at h;refine ih e (Ro.rep e (λ_ _=>0) qt e_) (λb' o e'=>?_) h;simp only[aP,bS] at e';obtain ⟨rfl,rfl⟩:=e';exact λj u hu=>(hL j u hu).1
       ·cases h
  | arr n e=>
   cases s with
   | fst=>simp[bk] at h
   | snd=>simp[bk] at h
   | idx i=>simp[bk] at h
   | o4 i=>
    obtain ⟨rfl,hf,hl,hlen,hr⟩:=hr;simp only[bk,cT,aI] at h;split at h
    ·rename_i hi;refine ih e (Ro.flat e (m:=.leaf) (λ_ _=>0) hf (hr i _ (aB (by rw[hl];exact hi)))) (λb' o e' j u hu=>?_) h
     cases ad with
     | none=>cases e'
     | some y=>
      simp only[gf,cC,aP,bS] at e';obtain ⟨rfl,rfl⟩:=e';rw[bJ] at hu;split at hu
      ·rw[bL] at hu;have:=fk y.1 y.2 rfl (i*e.sz+j) u hu
       rwa [cE]
      ·cases hu
    ·cases h
  | _=>cases s <;> simp[bk] at h
theorem As {w w2:World} {A A2:Cells} :
  ∀ (q:Path) (t:Ty) {m m2:Md} {H H2:List Path} {v v2:t.den} {cs cz:List Value} {F F2:FP} {ad:Option (Nat×Nat)} {pl:Pl},
  ap P w2 A2 t m2 H2 v2 cz F2->(dj q=0\/t.flat=true) ->
  bk w q t H cs ad=some pl->∃ H' br,bk w2 q t H2 cz ad=some ⟨pl.t,H',br,pl.ad⟩/\(t.flat=true->vF pl.t=false):=by
 intro q
 induction q with
 | nil=>
  intro t m m2 H H2 v v2 cs cz F F2 ad pl hr hq h;simp only[bk,aP] at h;subst h;exact ⟨_,_,rfl,λhf=>by cases t <;> simp_all [Ty.flat,vF]⟩
 | cons s q ih=>
  intro t m m2 H H2 v v2 cs cz F F2 ad pl hr hq h
  cases t with
  | pair a b=>
   obtain ⟨h0,F1,F2,hs,h1,h2⟩:=hr;simp only[Ty.flat,aE] at hq ⊢
   cases s with
   | fst=>
    simp only[bk,h0,aL] at h ⊢;split at h
    ·cases h
    ·obtain ⟨H',br,h3,h4⟩:=ih a (v:=v.1) (m:=.leaf) (F:=F) h1 (hq.imp (λh=>by simpa [dj] using h) (·.1)) h;exact ⟨H',br,by simpa using h3,λhf=>h4 hf.1⟩
   | snd=>
    simp only[bk,h0,aL] at h ⊢;split at h
    ·cases h
    ·obtain ⟨H',br,h3,h4⟩:=ih b (v:=v.2) (m:=.leaf) (F:=F) h2 (hq.imp (λh=>by simpa [dj] using h) (·.2)) h;exact ⟨H',br,by simpa using h3,λhf=>h4 hf.2⟩
   | idx i=>simp[bk] at h
   | o4 i=>simp[bk] at h
  | U e=>
   cases s with
   | fst=>simp[bk] at h
   | snd=>simp[bk] at h
   | o4 i=>simp[bk] at h
   | idx i=>simp[dj,Ty.flat] at hq
  | arr n e=>
   cases s with
   | fst=>simp[bk] at h
   | snd=>simp[bk] at h
   | idx i=>simp[bk] at h
   | o4 i=>
    obtain ⟨rfl,hf,hl,hlen,hr⟩:=hr;simp only[bk,cT,aI] at h ⊢;split at h
    ·split at h
     ·rename_i hi;rw[aV hi];obtain ⟨H',br,h3,h4⟩:=ih e (v:=e.zero) (m:=.leaf) (F:=F) (Ro.flat e (m:=.leaf) (λ_ _=>0) hf (hr i _ (aB (by rw[hl];exact hi)))) (.inr hf) h;exact ⟨H',br,h3,λ_=>h4 hf⟩
     ·cases h
    ·cases h
  | _=>cases s <;> simp[bk] at h
theorem rD.zero {w w2:World} {A A2:Cells} {t:Ty} {m2:Md} {H H2:List Path} {v2:t.den} {cs cz:List Value} {F2:FP} (ad:Option (Nat×Nat)) (h:ap P w2 A2 t m2 H2 v2 cz F2):rD 0 False w t H cs ad w2 H2 cz:=by
 intro q pl hq hp;obtain ⟨H',br,h1,_⟩:=As (A:=A) (m:=m2) (v:=v2) (F:=F2) q t h (.inl (by omega)) hp;exact ⟨H',br,h1,λh=>by rcases h with h | h;omega;exact h.elim⟩
theorem rD.flat {w w2:World} {A A2:Cells} {t:Ty} {m2:Md} {H H2:List Path} {v2:t.den} {cs cz:List Value} {F2:FP} (ad:Option (Nat×Nat)) (h:ap P w2 A2 t m2 H2 v2 cz F2) (hf:t.flat=true) (d:Nat):rD d False w t H cs ad w2 H2 cz:=by
 intro q pl hq hp;obtain ⟨H',br,h1,h2⟩:=As (A:=A) (m:=m2) (v:=v2) (F:=F2) q t h (.inr hf) hp;exact ⟨H',br,h1,λh=>by rcases h with ⟨_,hs⟩ | h;rw[h2 hf] at hs;cases hs;exact h.elim⟩
theorem rD.same {w w2:World} {A:Cells} {t:Ty} {m:Md} {H:List Path} {v:t.den} {cs:List Value} {F:FP} (ad:Option (Nat×Nat)) (h:ap P w A t m H v cs F)
  (hA:∀ b i,A b i->∀ u,ce w b i=some u->ce w2 b i=some u) (hF:∀ b i,1<=F b i->∀ u,ce w b i=some u->ce w2 b i=some u) (d:Nat) (full:Prop):rD d full w t H cs ad w2 H cs:=by
 intro q pl hq hp;exact ⟨pl.H,pl.cs,v6 hA q t h hF hp,λ_=>rfl⟩
end
end OT
set_option linter.unusedVariables false
set_option linter.unusedSimpArgs false
namespace OT
open Go
def zC (cs:List Value) (off:Nat) (n:Nat) (c2:List Value):List Value:=cs.take off++c2++cs.drop (off+n)
def lF (loc:Option Nat) (cs:List Value) (n:Nat) (c2:List Value):List Value:=match loc with
 | some off=>zC cs off n c2
 | none=>cs
theorem uP {cs c2:List Value} {off n:Nat} (h:off+n<=cs.length) (h2:c2.length=n):(zC cs off n c2).length=cs.length:=by
 simp[zC];omega
theorem zD {cs:List Value} {off n:Nat} (h:off+n<=cs.length):zC cs off n ((cs.drop off).take n)=cs:=by
 unfold zC;rw[bK]
 have:(cs.drop off).take n++cs.drop (off+n)=cs.drop off:=by
  rw[<-dA];exact cR n (cs.drop off)
 rw[this];exact cR off cs
theorem Bw {cs c2:List Value} {off n:Nat} (h:off+n<=cs.length) (h2:c2.length=n) (j:Nat):(zC cs off n c2)[j]?=if off<=j/\j < off+n then c2[j - off]? else cs[j]?:=by
 unfold zC;rw[List.getElem?_append,List.getElem?_append];simp only[aR,bP];have h1:min off cs.length=off:=by omega
 rw[h1,h2];split
 ·split
  ·rw[bB (by omega),bJ,aV (by omega)]
  ·rw[aV (by omega)]
 ·rw[bB (by omega),bL];congr 1;omega
theorem WZ {cs c2:List Value} {k n' off n:Nat} (h:off+n<=n') (h':k+n'<=cs.length) (h2:c2.length=n) :
  zC cs k n' (zC ((cs.drop k).take n') off n c2)=zC cs (k+off) n c2:=by
 have hl:((cs.drop k).take n').length=n':=by simp;omega
 apply fS;intro j;rw[Bw h' (by rw[uP (by omega) h2,hl]),Bw (by omega) h2,Bw (by omega) h2];by_cases h3:k<=j/\j < k+n'
 ·rw[aV h3];by_cases h4:off<=j - k/\j - k < off+n
  ·rw[aV h4,aV (by omega)];congr 1;omega
  ·rw[bB h4,bB (by omega),bJ,aV (by omega),bL];congr 1;omega
 ·rw[bB h3,bB (by omega)]
theorem N_ {w2:World} {b o:Nat} {cs c2:List Value} {off n:Nat} (h:off+n<=cs.length) (h2:c2.length=n)
  (hc:Has w2 b (o+off) c2) (hk:∀ j u,cs[j]?=some u->¬ (off<=j/\j < off+n)->ce w2 b (o+j)=some u):Has w2 b o (zC cs off n c2):=by
 intro j u hu;rw[Bw h h2] at hu;split at hu
 ·have:=hc _ u hu;rw[show o+off+(j - off)=o+j by omega] at this;exact this
 ·exact hk j u hu (by assumption)
section
variable {P:Program} {R:Type}
theorem XX {w:World} {A:Cells} {r:R}:∀ (p:Path) (t:Ty) {m:Md} {H:List Path} {v:t.den} {cs:List Value} {F:FP} {ad:Option (Nat×Nat)} {K:(t':Ty)->Md->List Path->t'.den->Option R},
  n_ p t m H v K=some r->ap P w A t m H v cs F->(∀ b o,ad=some (b,o)->Has w b o cs) ->
  ∃ (t':Ty) (m':Md) (H':List Path) (v':t'.den) (br:List Value) (cr:Option (Nat×Nat)) (F':FP),K t' m' H' v'=some r/\(∀ {S:Type} (K0:(t:Ty)->Md->List Path->t.den->Option S),n_ p t m H v K0=K0 t' m' H' v')/\bk w p t H cs ad=some ⟨t',H',br,cr⟩/\ap P w A t' m' H' v' br F' /\
   (∀ b i,F' b i<=F b i)/\(∀ b o,cr=some (b,o)->Has w b o br)/\(ad.isSome=true->cr.isSome=true):=by
 intro p
 induction p with
 | nil=>intro t m H v cs F ad K h hr fk;exact ⟨t,m,H,v,cs,ad,F,h,λ_=>rfl,rfl,hr,λ_ _=>aN _,fk,λh=>h⟩
 | cons s p ih=>
  intro t m H v cs F ad K h hr fk
  cases t with
  | pair a b=>
   obtain ⟨h0,F1,F2,hs,h1,h2⟩:=hr;have hle:=ap.length a h1;have KA:=ap.length b h2;simp only[bP,bI] at hle KA
   cases s with
   | fst=>
    have sR:H.any (·.isEmpty)=false:=h0;simp only[n_,sR] at h
    obtain ⟨t',m',H',v',br,cr,F',k1,kn,k2,k3,k4,k5,k6⟩:=ih a h h1 (ad:=ad) (λb o hb j u hu=>by
     rw[bJ] at hu;split at hu;exact fk b o hb j u hu;cases hu)
    exact ⟨t',m',H',v',br,cr,F',k1,λK0=>by simp only[n_,sR];exact kn K0,by simp only[bk,h0];exact k2,k3,λb i=>by have:=hs b i;have:=k4 b i;omega,k5,k6⟩
   | snd=>
    have sR:H.any (·.isEmpty)=false:=h0;simp only[n_,sR] at h
    obtain ⟨t',m',H',v',br,cr,F',k1,kn,k2,k3,k4,k5,k6⟩:=ih b h h2 (ad:=gf ad a.sz) (λb' o hb j u hu=>by
     cases ad with
     | none=>cases hb
     | some x=>
      simp only[gf,cC,aP,bS] at hb;obtain ⟨rfl,rfl⟩:=hb;rw[bL] at hu;have:=fk x.1 x.2 rfl _ u hu
      rwa [cE])
    exact ⟨t',m',H',v',br,cr,F',k1,λK0=>by simp only[n_,sR];exact kn K0,by simp only[bk,h0];exact k2,k3,λb i=>by have:=hs b i;have:=k4 b i;omega,k5,λh=>k6 (by cases ad <;> simp_all [gf])⟩
   | idx i=>simp[n_] at h
   | o4 i=>simp[n_] at h
  | U e=>
   cases s with
   | fst=>simp[n_] at h
   | snd=>simp[n_] at h
   | o4 i=>simp[n_] at h
   | idx i=>
    simp only[n_] at h;obtain ⟨h1,h2,h3⟩:=Ds h
    cases hx:(v:List e.den)[i]? with
    | none=>rw[hx] at h1;cases h1
    | some x=>
     rw[hx] at h1;simp only[aA] at h1;have hi:i < List.length v:=(aM.1 hx).1;simp only[ap,h3,aF,aL] at hr;split at hr
     ·obtain ⟨a,cap,rfl,g2,g3,g4,g5⟩:=hr
      cases a with
      | none=>have:=g4 rfl;omega
      | some fh=>
       obtain ⟨q1,q2,q3,Fi,q4,q5⟩:=g5 fh rfl;obtain ⟨L,hl,hL,e_⟩:=q5 i x hx
       obtain ⟨t',m',H',v',br,cr,F',k1,kn,k2,k3,k4,k5,k6⟩:=ih e h1 e_ (ad:=some (fh.block,i*e.sz)) (λb o hb=>by
        simp only[aP,bS] at hb;obtain ⟨rfl,rfl⟩:=hb;exact hL)
       refine ⟨t',m',H',v',br,cr,F',k1,λK0=>by simp only[n_];rw[BU h,hx];exact kn K0,?_,k3,λb k=>?_,k5,λ_=>k6 rfl⟩
       ·simp only[bk,h3,aF,aL,hi,aI,q1,bE,dx hL hl];exact k2
       ·have:=k4 b k;have:=q4 b k;have:=cy Fi hi b k;omega
     ·obtain ⟨rfl,qt,a,cap,rfl,g2,g3,g4⟩:=hr
      cases a with
      | none=>have:=g3 rfl;omega
      | some fh=>
       obtain ⟨L,hl,hL,e_⟩:=(g4 fh rfl).2 i x hx;have VJ:Has w fh.block (fh.off+i*e.sz) L:=λj u hu=>(hL j u hu).1
       obtain ⟨t',m',H',v',br,cr,F',k1,kn,k2,k3,k4,k5,k6⟩:=ih e h1 (Ro.rep e (λ_ _=>0) qt e_) (ad:=some (fh.block,fh.off+i*e.sz)) (λb o hb=>by
        simp only[aP,bS] at hb;obtain ⟨rfl,rfl⟩:=hb;exact VJ)
       refine ⟨t',m',H',v',br,cr,F',k1,λK0=>by simp only[n_];rw[BU h,hx];exact kn K0,?_,k3,λb k=>?_,k5,λ_=>k6 rfl⟩
       ·simp only[bk,h3,aF,aL,hi,aI,dx VJ hl];exact k2
       ·have:=k4 b k;omega
  | arr n e=>
   cases s with
   | fst=>simp[n_] at h
   | snd=>simp[n_] at h
   | idx i=>simp[n_] at h
   | o4 i=>
    obtain ⟨rfl,hf,hl,hlen,hr⟩:=hr;simp only[n_,cT,aI] at h
    cases hx:(v:List e.den)[i]? with
    | none=>rw[hx] at h;cases h
    | some x=>
     rw[hx] at h;simp only[aA] at h;have hi:i < n:=hl ▸ (aM.1 hx).1
     obtain ⟨t',m',H',v',br,cr,F',k1,kn,k2,k3,k4,k5,k6⟩:=ih e h (Ro.flat e (λ_ _=>0) hf (hr i x hx)) (ad:=gf ad (i*e.sz)) (λb' o hb j u hu=>by
      cases ad with
      | none=>cases hb
      | some y=>
       simp only[gf,cC,aP,bS] at hb;obtain ⟨rfl,rfl⟩:=hb;rw[bJ] at hu;split at hu
       ·rw[bL] at hu;have:=fk y.1 y.2 rfl _ u hu
        rwa [cE]
       ·cases hu)
     exact ⟨t',m',H',v',br,cr,F',k1,λK0=>by simp only[n_,cT,aI,hx,aA];exact kn K0,by simp only[bk,cT,aI,hi];exact k2,k3,λb k=>by have:=k4 b k;omega,k5,λh=>k6 (by cases ad <;> simp_all [gf])⟩
  | _=>cases s <;> simp[n_] at h
structure Z2 (P:Program) (w:World) (A:Cells) {R:Type} (r:R) (p:Path) (t:Ty) (m:Md) (H:List Path) (v:t.den) (cs:List Value) (F:FP) (ad:Option (Nat×Nat))
  (f:(t':Ty)->Md->List Path->t'.den->(Md->List Path->t'.den->Option R)->Option R) (K:Md->List Path->t.den->Option R)
  (t':Ty) (m':Md) (H':List Path) (v':t'.den) (br:List Value) (cr:Option (Nat×Nat)) (F' G:FP) (kk:Md->List Path->t'.den->Option R) (loc:Option Nat):Prop where
 run:f t' m' H' v' kk=some r
 Rl:∀ {S:Type} (K0:(t':Ty)->Md->List Path->t'.den->Option S),n_ p t m H v K0=K0 t' m' H' v'
 place:bk w p t H cs ad=some ⟨t',H',br,cr⟩
 rep:ap P w A t' m' H' v' br F'
 sum:∀ b i,F' b i+G b i<=F b i
 has:∀ b o,cr=some (b,o)->Has w b o br
 tG:∀ off,loc=some off->off+t'.sz<=t.sz/\br=(cs.drop off).take t'.sz/\cr=gf ad off
 Ph:1<=dj p->loc=none
 out:loc=none->∃ b o,cr=some (b,o)/\∀ j,j < t'.sz->1<=G b (o+j)/\w.frozen? ⟨b,o+j,none⟩=false
 back:∀ m2 H2 (v2:t'.den),kk m2 H2 v2=some r->∀ (w2:World) (A2:Cells) (cz:List Value) (F2:FP),
  (∀ b n,ge w b n->ge w2 b n)->(∀ b i,A b i->A2 b i)->(∀ b i,A b i->∀ u,ce w b i=some u->ce w2 b i=some u) ->
  (∀ b i,1<=G b i->(∀ o,cr=some (b,o)->¬ (o<=i/\i < o+t'.sz))->∀ u,ce w b i=some u->ce w2 b i=some u) ->
  (∀ b o,cr=some (b,o)->Has w2 b o cz)->ap P w2 A2 t' m2 H2 v2 cz F2->(∀ b i,F2 b i+G b i<=1) ->
  ∃ m3 H3 v3 F3,K m3 H3 v3=some r/\(∀ b i,F3 b i<=F2 b i+G b i) /\
   (∀ A3:Cells,(∀ b i,A2 b i->A3 b i)->(∀ b i,1<=F2 b i+G b i->F3 b i=0->A3 b i)->ap P w2 A3 t m3 H3 v3 (lF loc cs t'.sz cz) F3) /\
   (∀ d full,rD d full w t' H' br cr w2 H2 cz->rD (d+dj p) full w t H cs ad w2 H3 (lF loc cs t'.sz cz))
theorem ge.frozen {w:World} {b:Nat} {n:Nat×Bool} (h:ge w b n) {i:Nat} (hi:i < n.1):w.frozen? ⟨b,i,none⟩=false:=by
 obtain ⟨c,e,fr,h1,h2,h3,_⟩:=h;obtain ⟨lo,lg⟩:=fr;have:=h3 i hi;simp only[World.frozen?,h1];simp only[gN,eZ];simp only at this;omega
theorem XY {w:World} {A:Cells} {r:R}:∀ (p:Path) (t:Ty) {m:Md} {H:List Path} {v:t.den} {cs:List Value} {F:FP} {ad:Option (Nat×Nat)}
  {f:(t':Ty)->Md->List Path->t'.den->(Md->List Path->t'.den->Option R)->Option R} {K:Md->List Path->t.den->Option R},
  q9 p t m H v f K=some r->ap P w A t m H v cs F->(∀ b i,F b i<=1)->(∀ b o,ad=some (b,o)->Has w b o cs)->(∀ b o,ad=some (b,o)->∀ j,j < t.sz->F b (o+j)=0) ->
  ∃ t' m' H' v' br cr F' G kk loc,Z2 P w A r p t m H v cs F ad f K t' m' H' v' br cr F' G kk loc:=by
 intro p
 induction p with
 | nil=>
  intro t m H v cs F ad f K h hr hF fk um;have hlen:=ap.length t hr;refine ⟨t,m,H,v,cs,ad,F,λ_ _=>0,K,some 0,h,λ_=>rfl,rfl,hr,λ_ _=>by simp,fk,?_,(λh=>by simp[dj] at h),(λh=>by cases h),?_⟩
  ·intro off ho;injection ho with ho;subst ho;refine ⟨by omega,?_,?_⟩
   ·rw[eF,<- hlen,dX]
   ·cases ad <;> simp[gf]
  ·intro m2 H2 v2 hk w2 A2 cz F2 hb hA sC hG BV vt hs;have tH:=ap.length t vt
   have aa4:lF (some 0) cs t.sz cz=cz:=by
    simp[lF,zC,List.drop_eq_nil_of_le (show cs.length<=t.sz by omega)]
   rw[aa4];refine ⟨m2,H2,v2,F2,hk,λ_ _=>by simp,λA3 qK _=>ap.mono qK (λ_ _ _ _ h=>h) (λ_ _ h=>h) t vt (λ_ _=>aN _) (λ_ _ _ _ h=>h),λd full hd=>hd⟩
 | cons s p ih=>
  intro t m H v cs F ad f K h hr hF fk um
  cases t with
  | pair a b=>
   obtain ⟨h0,F1,F2,hs,h1,h2⟩:=hr;have hle:=ap.length a h1;have KA:=ap.length b h2;simp only[bP,bI] at hle KA;have sR:H.any (·.isEmpty)=false:=h0
   have Z3:∀ b o,ad=some (b,o)->Has w b o (cs.take a.sz):=λb o hb j u hu=>by
    rw[bJ] at hu;split at hu;exact fk b o hb j u hu;cases hu
   have Z4:∀ b' o,gf ad a.sz=some (b',o)->Has w b' o (cs.drop a.sz):=λb' o hb j u hu=>by
    cases ad with
    | none=>cases hb
    | some x=>
     simp only[gf,cC,aP,bS] at hb;obtain ⟨rfl,rfl⟩:=hb;rw[bL] at hu;have:=fk x.1 x.2 rfl _ u hu
     rwa [cE]
   cases s with
   | fst=>
    simp only[q9,sR] at h
    obtain ⟨t',m',H',v',br,cr,F',G,kk,loc,M⟩:=ih a h h1 (λb i=>by have:=hs b i;have:=hF b i;omega) Z3 (λb' o hb j hj=>by
     have:=um b' o hb j (by simp only[Ty.sz];omega);have:=hs b' (o+j);omega)
    refine ⟨t',m',H',v',br,cr,F',λb i=>G b i+F2 b i,kk,loc,M.run,λK0=>by simp only[n_,sR];exact M.Rl K0,by simp only[bk,h0];exact M.place,M.rep,λb i=>by have:=hs b i;have:=M.sum b i;omega,M.has,?_,(λh=>M.Ph (by simpa [dj] using h)),?_,?_⟩
    ·intro off ho;obtain ⟨q1,q2,q3⟩:=M.tG off ho;refine ⟨by simp only[Ty.sz];omega,?_,q3⟩
     rw[q2,eO,fK];congr 1;omega
    ·intro ho;obtain ⟨b',o,q1,q2⟩:=M.out ho;exact ⟨b',o,q1,λj hj=>⟨by have:=(q2 j hj).1;omega,(q2 j hj).2⟩⟩
    ·intro m2 H2 v2 hk w2 A2 cz I0 hb hA sC hG BV vt mc;obtain ⟨m3,H3,v3,F3,k1,k2,k3,k4⟩:=M.back m2 H2 v2 hk w2 A2 cz I0 hb hA sC (λb' i hp hn=>hG b' i (by omega) hn) BV vt (λb' i=>by have:=mc b' i;omega);have tH:=ap.length t' vt
     have oH:lF loc cs t'.sz cz=lF loc (cs.take a.sz) t'.sz cz++cs.drop a.sz:=by
      cases loc with
      | none=>simp[lF]
      | some off=>
       have:=(M.tG off rfl).1;simp only[lF,zC];rw[fK,show min off a.sz=off by omega,bK,bK,bK];congr 2;rw[eO];have e:cs.drop a.sz=(cs.drop (off+t'.sz)).drop (a.sz - (off+t'.sz)):=by rw[dA];congr 1;omega
       rw[e,cR]
     have v7:(lF loc (cs.take a.sz) t'.sz cz).length=a.sz:=by
      cases loc with
      | none=>simp[lF];omega
      | some off=>have:=(M.tG off rfl).1;simp only[lF];rw[uP (by simp;omega) tH];simp;omega
     have wB:∀ d full,rD d full w t' H' br cr w2 H2 cz->full->lF loc cs t'.sz cz=cs:=λd full hd wC=>by
      obtain ⟨H5,c5,e1,e2⟩:=hd [] ⟨t',H',br,cr⟩ (aY _) rfl;simp only[bk,aP,Pl.mk.injEq] at e1;have e3:cz=br:=e1.2.2.1.trans (e2 (.inr wC))
      cases loc with
      | none=>rfl
      | some off=>
       have:=M.tG off rfl;rw[e3,this.2.1,eO,fK,show min t'.sz (a.sz - off)=t'.sz by omega];exact zD (by omega)
     have nf:(lF loc cs t'.sz cz).take a.sz=lF loc (cs.take a.sz) t'.sz cz:=by rw[oH];exact fN v7
     have Au:(lF loc cs t'.sz cz).drop a.sz=cs.drop a.sz:=by rw[oH];exact fO v7
     have I1:∀ b' i,1<=F2 b' i->∀ u,ce w b' i=some u->ce w2 b' i=some u:=λb' i hp u hu=>by
      refine hG b' i (by omega) (λo mu zE=>?_) u hu;have KB:=hs b' i;have hFb:=hF b' i
      cases loc with
      | none=>
       obtain ⟨b0,o0,q1,q2⟩:=M.out rfl;rw[q1] at mu;simp only[aP,bS] at mu;obtain ⟨rfl,rfl⟩:=mu;have:=(q2 (i - o0) (by omega)).1;rw[show o0+(i - o0)=i by omega] at this;have:=M.sum b0 i;omega
      | some off=>
       obtain ⟨q1,q2,q3⟩:=M.tG off rfl
       cases ad with
       | none=>rw[q3] at mu;cases mu
       | some x=>
        rw[q3] at mu;simp only[gf,cC,aP,bS] at mu;obtain ⟨rfl,rfl⟩:=mu;have:=um x.1 x.2 rfl (i - x.2) (by simp only[Ty.sz];omega);rw[show x.2+(i - x.2)=i by omega] at this;omega
     refine ⟨_,_,_,λb' i=>F3 b' i+F2 b' i,k1,λb' i=>by have:=k2 b' i;show F3 b' i+F2 b' i<=_;omega,λA3 qK nZ=>?_,λd full hd=>?_⟩
     ·refine ⟨by rw[si,qo,qo];rfl,F3,F2,λ_ _=>aN _,?_,?_⟩
      ·rw[nf,cU,tE,uk,cD];refine k3 A3 qK λb' i hp hz=>nZ b' i (by omega) ?_;have:=mc b' i;show F3 b' i+F2 b' i=0;omega
      ·rw[Au,cU,ul,tF,bT];exact ap.mono (λb' i ha=>qK b' i (hA b' i ha)) sC hb b h2 (λ_ _=>aN _) I1
     ·intro q pl hq hp
      cases q with
      | nil=>
       simp only[bk,aP] at hp;subst hp;refine ⟨_,_,rfl,λh=>?_⟩
       rcases h with ⟨_,hs⟩ | wC
       ·simp[vF] at hs
       ·exact wB d full hd wC
      | cons s q=>
       cases s with
       | fst=>
        simp only[bk,h0,aF,aL] at hp;obtain ⟨H4,VK,e1,e2⟩:=k4 d full hd q pl (by simpa [dj] using hq) hp;refine ⟨H4,VK,?_,λsD=>e2 (by simpa [dj] using sD)⟩
        simp only[bk,si,qo,iG,aF,aL];rw[nf,cU,tE,uk,cD];exact e1
       | snd=>
        simp only[bk,h0,aF,aL] at hp;refine ⟨pl.H,pl.cs,?_,λ_=>rfl⟩
        simp only[bk,si,qo,iG,aF,aL];rw[Au,cU,ul,tF,bT];exact v6 sC q b h2 I1 hp
       | idx i=>simp[bk] at hp
       | o4 i=>simp[bk] at hp
   | snd=>
    simp only[q9,sR] at h
    obtain ⟨t',m',H',v',br,cr,F',G,kk,loc,M⟩:=ih b h h2 (λb i=>by have:=hs b i;have:=hF b i;omega) Z4 (λb' o hb j hj=>by
     cases ad with
     | none=>cases hb
     | some x=>
      simp only[gf,cC,aP,bS] at hb;obtain ⟨rfl,rfl⟩:=hb;have:=um x.1 x.2 rfl (a.sz+j) (by simp only[Ty.sz];omega);have:=hs x.1 (x.2+(a.sz+j))
      rw[cE];omega)
    refine ⟨t',m',H',v',br,cr,F',λb i=>G b i+F1 b i,kk,loc.map (a.sz+·),M.run,λK0=>by simp only[n_,sR];exact M.Rl K0,by simp only[bk,h0];exact M.place,M.rep,λb i=>by have:=hs b i;have:=M.sum b i;omega,M.has,?_,(λh=>by rw[M.Ph (by simpa [dj] using h)];rfl),?_,?_⟩
    ·intro XZ ho;obtain ⟨off,X0,rfl⟩:=Option.map_eq_some_iff.1 ho;obtain ⟨q1,q2,q3⟩:=M.tG off X0;refine ⟨by simp only[Ty.sz];omega,by rw[q2,dA],?_⟩
     rw[q3];cases ad <;> simp[gf,cE]
    ·intro ho;obtain ⟨b',o,q1,q2⟩:=M.out (by simpa using ho);exact ⟨b',o,q1,λj hj=>⟨by have:=(q2 j hj).1;omega,(q2 j hj).2⟩⟩
    ·intro m2 H2 v2 hk w2 A2 cz I0 hb hA sC hG BV vt mc;obtain ⟨m3,H3,v3,F3,k1,k2,k3,k4⟩:=M.back m2 H2 v2 hk w2 A2 cz I0 hb hA sC (λb' i hp hn=>hG b' i (by omega) hn) BV vt (λb' i=>by have:=mc b' i;omega);have tH:=ap.length t' vt
     have oH:lF (loc.map (a.sz+·)) cs t'.sz cz=cs.take a.sz++lF loc (cs.drop a.sz) t'.sz cz:=by
      cases loc with
      | none=>simp[lF]
      | some off=>
       have:=(M.tG off rfl).1;simp only[lF,zC,cC];rw[List.take_add,dA,bK,bK,bK,cE]
     have v7:(cs.take a.sz).length=a.sz:=by simp;omega
     have wB:∀ d full,rD d full w t' H' br cr w2 H2 cz->full->lF (loc.map (a.sz+·)) cs t'.sz cz=cs:=λd full hd wC=>by
      obtain ⟨H5,c5,e1,e2⟩:=hd [] ⟨t',H',br,cr⟩ (aY _) rfl;simp only[bk,aP,Pl.mk.injEq] at e1;have e3:cz=br:=e1.2.2.1.trans (e2 (.inr wC))
      cases loc with
      | none=>rfl
      | some off=>
       have:=M.tG off rfl;rw[e3,this.2.1,dA];exact zD (show a.sz+off+t'.sz<=cs.length by omega)
     have nf:(lF (loc.map (a.sz+·)) cs t'.sz cz).take a.sz=cs.take a.sz:=by rw[oH];exact fN v7
     have Au:(lF (loc.map (a.sz+·)) cs t'.sz cz).drop a.sz=lF loc (cs.drop a.sz) t'.sz cz:=by rw[oH];exact fO v7
     have I1:∀ b' i,1<=F1 b' i->∀ u,ce w b' i=some u->ce w2 b' i=some u:=λb' i hp u hu=>by
      refine hG b' i (by omega) (λo mu zE=>?_) u hu;have KB:=hs b' i;have hFb:=hF b' i
      cases loc with
      | none=>
       obtain ⟨b0,o0,q1,q2⟩:=M.out rfl;rw[q1] at mu;simp only[aP,bS] at mu;obtain ⟨rfl,rfl⟩:=mu;have:=(q2 (i - o0) (by omega)).1;rw[show o0+(i - o0)=i by omega] at this;have:=M.sum b0 i;omega
      | some off=>
       obtain ⟨q1,q2,q3⟩:=M.tG off rfl
       cases ad with
       | none=>rw[q3] at mu;cases mu
       | some x=>
        rw[q3] at mu;simp only[gf,cC,aP,bS] at mu;obtain ⟨rfl,rfl⟩:=mu;have:=um x.1 x.2 rfl (i - x.2) (by simp only[Ty.sz];omega);rw[show x.2+(i - x.2)=i by omega] at this;omega
     refine ⟨_,_,_,λb' i=>F3 b' i+F1 b' i,k1,λb' i=>by have:=k2 b' i;show F3 b' i+F1 b' i<=_;omega,λA3 qK nZ=>?_,λd full hd=>?_⟩
     ·refine ⟨by rw[si,qo,qo];rfl,F1,F3,λb' i=>by show F1 b' i+F3 b' i<=F3 b' i+F1 b' i;omega,?_,?_⟩
      ·rw[nf,cU,tE,uk,cD];exact ap.mono (λb' i ha=>qK b' i (hA b' i ha)) sC hb a h1 (λ_ _=>aN _) I1
      ·rw[Au,cU,ul,tF,bT];refine k3 A3 qK λb' i hp hz=>nZ b' i (by omega) ?_;have:=mc b' i;show F3 b' i+F1 b' i=0;omega
     ·intro q pl hq hp
      cases q with
      | nil=>
       simp only[bk,aP] at hp;subst hp;refine ⟨_,_,rfl,λh=>?_⟩
       rcases h with ⟨_,hs⟩ | wC
       ·simp[vF] at hs
       ·exact wB d full hd wC
      | cons s q=>
       cases s with
       | snd=>
        simp only[bk,h0,aF,aL] at hp;obtain ⟨H4,VK,e1,e2⟩:=k4 d full hd q pl (by simpa [dj] using hq) hp;refine ⟨H4,VK,?_,λsD=>e2 (by simpa [dj] using sD)⟩
        simp only[bk,si,qo,iG,aF,aL];rw[Au,cU,ul,tF,bT];exact e1
       | fst=>
        simp only[bk,h0,aF,aL] at hp;refine ⟨pl.H,pl.cs,?_,λ_=>rfl⟩
        simp only[bk,si,qo,iG,aF,aL];rw[nf,cU,tE,uk,cD];exact v6 sC q a h1 I1 hp
       | idx i=>simp[bk] at hp
       | o4 i=>simp[bk] at hp
   | idx i=>simp[q9] at h
   | o4 i=>simp[q9] at h
  | U e=>
   cases s with
   | fst=>simp[q9] at h
   | snd=>simp[q9] at h
   | o4 i=>simp[q9] at h
   | idx i=>
    simp only[q9] at h;split at h
    ·rename_i fa;obtain ⟨h1,h2,h3⟩:=Ds h
     cases hx:(v:List e.den)[i]? with
     | none=>rw[hx] at h1;cases h1
     | some x=>
      rw[hx] at h1;simp only[aA] at h1;have hi:i < List.length v:=(aM.1 hx).1;simp only[ap,h3,aF,aL,fa,aI] at hr;obtain ⟨a,cap,rfl,g2,g3,g4,g5⟩:=hr
      cases a with
      | none=>have:=g4 rfl;omega
      | some fh=>
       obtain ⟨q1,q2,q3,Fi,q4,q5⟩:=g5 fh rfl;obtain ⟨L,hl,hL,e_⟩:=q5 i x hx
       have am:∀ k,k < List.length v->∀ j,j < e.sz->k*e.sz+j < cap*e.sz:=λk hk j hj=>by
        have am:(k+1)*e.sz<=cap*e.sz:=bD _ (by omega);rw[cI] at am;omega
       have KC:∀ k,k < cap*e.sz->b_ fh.block 0 (cap*e.sz) fh.block k=1:=λk hk=>by simp[b_,hk]
       obtain ⟨t',m',H',v',br,cr,F',G,kk,loc,M⟩:=ih e h1 e_ (λb k=>by have:=q4 b k;have:=hF b k;have:=cy Fi hi b k;omega)
        (ad:=some (fh.block,i*e.sz)) (λb o hb=>by simp only[aP,bS] at hb;obtain ⟨rfl,rfl⟩:=hb;exact hL)
        (λb o hb j hj=>by
         simp only[aP,bS] at hb;obtain ⟨rfl,rfl⟩:=hb;have:=q4 fh.block (i*e.sz+j);have:=hF fh.block (i*e.sz+j);have:=cy Fi hi fh.block (i*e.sz+j)
         have:=KC _ (am i hi j hj);omega)
       have yu:∀ b k,a_ (List.length v) (fb Fi i G) b k+Fi i b k=a_ (List.length v) Fi b k+G b k:=sX Fi hi G
       have A_:∀ b k,G b k<=a_ (List.length v) (fb Fi i G) b k:=λb k=>by
        have:=cy (fb Fi i G) hi b k;simpa [fb] using this
       refine ⟨t',m',H',v',br,cr,F',λb k=>b_ fh.block 0 (cap*e.sz) b k+a_ (List.length v) (fb Fi i G) b k,kk,none,M.run,λK0=>by simp only[n_];rw[BU h,hx];exact M.Rl K0,?_,M.rep,λb k=>by have:=yu b k;have:=M.sum b k;have:=q4 b k;omega,M.has,(λoff ho=>by cases ho),(λ_=>rfl),?_,?_⟩
       ·simp only[bk,h3,aF,aL,hi,aI,q1,bE,dx hL hl];exact M.place
       ·intro _
        cases loc with
        | none=>
         obtain ⟨b',o,e1,e2⟩:=M.out rfl;exact ⟨b',o,e1,λj hj=>⟨by have:=(e2 j hj).1;have:=A_ b' (o+j);omega,(e2 j hj).2⟩⟩
        | some off=>
         obtain ⟨e1,e2,e3⟩:=M.tG off rfl;refine ⟨fh.block,i*e.sz+off,e3,λj hj=>?_⟩
         have v_:=am i hi (off+j) (by omega);rw[<-cE] at v_;exact ⟨by have:=KC _ v_;omega,q3.frozen v_⟩
       ·intro m2 H2 v2 hk w2 A2 cz I0 hb hA sC hG BV vt mc
        obtain ⟨m3,H3,v3,F3,k1,k2,k3,k4⟩:=M.back m2 H2 v2 hk w2 A2 cz I0 hb hA sC (λb' i hp hn=>hG b' i (by have:=A_ b' i;omega) hn) BV vt
         (λb' i=>by have:=mc b' i;have:=A_ b' i;omega)
        have tH:=ap.length t' vt
        have apart:∀ b' k,(∀ o,cr=some (b',o)->o<=k/\k < o+t'.sz->1<=Fi i b' k\/(b'=fh.block/\i*e.sz<=k/\k < i*e.sz+e.sz)):=λb' k o mu zE=>by
         cases loc with
         | none=>
          obtain ⟨b0,o0,e1,e2⟩:=M.out rfl;rw[e1] at mu;simp only[aP,bS] at mu;obtain ⟨rfl,rfl⟩:=mu;have:=(e2 (k - o0) (by omega)).1;rw[show o0+(k - o0)=k by omega] at this;have:=M.sum b0 k;left;omega
         | some off=>
          obtain ⟨e1,e2,e3⟩:=M.tG off rfl;rw[e3] at mu;simp only[gf,cC,aP,bS] at mu;obtain ⟨rfl,rfl⟩:=mu;exact .inr ⟨rfl,by omega,by omega⟩
        have I1:∀ j,j < List.length v->j≠i->∀ b' k,1<=Fi j b' k->∀ u,ce w b' k=some u->ce w2 b' k=some u:=λj hj mZ b' k hp u hu=>by
         have h1:=cy (fb Fi i G) hj b' k;have e1:fb Fi i G j=Fi j:=by simp[fb,mZ]
         rw[e1] at h1;refine hG b' k (by omega) (λo mu zE=>?_) u hu;have h2:=q4 b' k;have h3:=hF b' k;have h4:=uj Fi hj hi mZ b' k
         rcases apart b' k o mu zE with h | ⟨rfl,Rm,Oa⟩
         ·omega
         ·have:=KC (i*e.sz+(k - i*e.sz)) (am i hi _ (by omega));rw[show i*e.sz+(k - i*e.sz)=k by omega] at this;omega
        have cell:∀ j,j < List.length v->j≠i->∀ k,k < e.sz->∀ u,ce w fh.block (j*e.sz+k)=some u->ce w2 fh.block (j*e.sz+k)=some u:=λj hj mZ k hk u hu=>by
         have un:=KC _ (am j hj k hk);refine hG _ _ (by omega) (λo mu zE=>?_) u hu;have h2:=q4 fh.block (j*e.sz+k);have h3:=hF fh.block (j*e.sz+k)
         rcases apart _ _ o mu zE with h | ⟨_,Rm,Oa⟩
         ·have:=cy Fi hi fh.block (j*e.sz+k);omega
         ·have fq:j < i\/i < j:=by omega
          rcases fq with sZ | sZ
          ·have:(j+1)*e.sz<=i*e.sz:=bD _ sZ;rw[cI] at this;omega
          ·have:(i+1)*e.sz<=j*e.sz:=bD _ sZ;rw[cI] at this;omega
        have X4:Has w2 fh.block (i*e.sz) (lF loc L t'.sz cz):=by
         have yr:∀ j u,L[j]?=some u->(∀ off,loc=some off->¬ (off<=j/\j < off+t'.sz))->ce w2 fh.block (i*e.sz+j)=some u:=λj u hu hn=>by
          have hj:j < e.sz:=hl ▸ (aM.1 hu).1;have un:=KC _ (am i hi j hj);refine hG _ _ (by omega) (λo mu zE=>?_) u (hL j u hu)
          cases loc with
          | none=>
           obtain ⟨b0,o0,e1,e2⟩:=M.out rfl;rw[e1] at mu;simp only[aP,bS] at mu;obtain ⟨rfl,rfl⟩:=mu;have:=(e2 (i*e.sz+j - o0) (by omega)).1;rw[show o0+(i*e.sz+j - o0)=i*e.sz+j by omega] at this;have h2:=q4 fh.block (i*e.sz+j);have h3:=hF fh.block (i*e.sz+j);have:=A_ fh.block (i*e.sz+j);have:=yu fh.block (i*e.sz+j);have:=M.sum fh.block (i*e.sz+j)
           have:=cy Fi hi fh.block (i*e.sz+j);omega
          | some off=>
           obtain ⟨e1,e2,e3⟩:=M.tG off rfl;rw[e3] at mu;simp only[gf,cC,aP,bS] at mu;obtain ⟨_,rfl⟩:=mu;exact hn off rfl (by omega)
         cases loc with
         | none=>exact λj u hu=>yr j u hu (λoff ho=>by cases ho)
         | some off=>
          obtain ⟨e1,e2,e3⟩:=M.tG off rfl;exact N_ (by omega) tH (BV _ _ e3) (λj u hu hn=>yr j u hu (λXZ ho=>by injection ho with ho;subst ho;exact hn))
        have Ob:(lF loc L t'.sz cz).length=e.sz:=by
         cases loc with
         | none=>exact hl
         | some off=>have:=(M.tG off rfl).1;simp only[lF];rw[uP (by omega) tH,hl]
        have Dt:∀ (j:Nat) (y:e.den),(List.set v i v3)[j]?=some y->(j=i/\y=v3)\/(j≠i/\(v:List e.den)[j]?=some y):=λj y hy=>by
         rw[fL] at hy;split at hy
         ·rename_i oE;subst oE;injection hy with hy;exact .inl ⟨rfl,hy.symm⟩
         ·rename_i oE;exact .inr ⟨λh=>oE h.symm,hy⟩
        have others:∀ A3:Cells,(∀ b i,A2 b i->A3 b i)->∀ (j:Nat) (y:e.den),j≠i->(v:List e.den)[j]?=some y->∃ L:List Value,L.length=e.sz/\Has w2 fh.block (j*e.sz) L/\Has w fh.block (j*e.sz) L/\ap P w A e m.e [] y L (Fi j)/\ap P w2 A3 e m.e [] y L (Fi j):=λA3 qK j y mZ hy=>by
         have hj:j < List.length v:=(aM.1 hy).1;obtain ⟨Lj,Gu,VL,Rn⟩:=q5 j y hy;rw[h2 j mZ] at Rn;exact ⟨Lj,Gu,λk u hu=>cell j hj mZ k (Gu ▸ (aM.1 hu).1) u (VL k u hu),VL,Rn,ap.mono (λb' i ha=>qK b' i (hA b' i ha)) sC hb e Rn (λ_ _=>aN _) (I1 j hj mZ)⟩
        have X5:∀ H4:List Path,hole H4=false->H4.filterMap (ld i)=H3->(∀ j,j≠i->H4.filterMap (ld j)=[])->∀ d full,rD d full w t' H' br cr w2 H2 cz->rD (d+dj (.idx i::p)) full w (.U e) H [.slice (some fh) (List.length v) cap] ad w2 H4 [.slice (some fh) (List.length v) cap]:=by
         intro H4 hH4 hHi hHj d full hd q pl hq hp
         cases q with
         | nil=>
          simp only[bk,aP] at hp;subst hp;exact ⟨_,_,rfl,λ_=>rfl⟩
         | cons s q=>
          cases s with
          | fst=>simp[bk] at hp
          | snd=>simp[bk] at hp
          | o4 j=>simp[bk] at hp
          | idx j=>
           simp only[bk,h3,aF,aL] at hp;split at hp
           ·rename_i hj;by_cases mZ:j=i
            ·subst mZ;rw[q1,bE,dx hL hl] at hp;obtain ⟨H5,X6,e1,e2⟩:=k4 d full hd q pl (by simp only[dj] at hq;omega) hp;refine ⟨H5,X6,?_,λsD=>e2 (sD.imp (λh=>⟨by have:=h.1;simp only[dj] at this;omega,h.2⟩) id)⟩
             simp only[bk,hH4,aF,aL,hj,aI,q1,bE,dx X4 Ob,hHi];exact e1
            ·obtain ⟨Lj,Gu,KD,VL,Rn,_⟩:=others A2 (λ_ _ h=>h) j _ mZ (aB hj);rw[q1,bE,dx VL Gu,h2 j mZ] at hp;refine ⟨pl.H,pl.cs,?_,λ_=>rfl⟩
             simp only[bk,hH4,aF,aL,hj,aI,q1,bE,dx KD Gu,hHj j mZ];exact v6 sC q e Rn (I1 j hj mZ) hp
           ·cases hp
        simp only[lF];by_cases C3:m3=m.e
        ·rw[aV C3] at k1;subst C3;refine ⟨_,_,_,λb' k=>b_ fh.block 0 (cap*e.sz) b' k+a_ (List.length v) (fb Fi i F3) b' k,k1,λb' k=>?_,λA3 qK nZ=>?_,X5 _ (qo _ _) (C0 _ _) (λj hj=>zB hj _)⟩
         ·have:=sX Fi hi F3 b' k;have:=yu b' k;have:=k2 b' k
          show b_ fh.block 0 (cap*e.sz) b' k+a_ (List.length v) (fb Fi i F3) b' k<=_;omega
         ·simp only[ap,qo,aF,aL,Md.own,aI];refine ⟨some fh,cap,by simp,by simpa using g2,g3,(λhn=>by cases hn),λAv Fz=>?_⟩
          injection Fz with Fz;subst Fz;refine ⟨q1,q2,hb _ _ q3,fb Fi i F3,λb' k=>by simp,λj y hy=>?_⟩
          rcases Dt j y hy with ⟨rfl,rfl⟩ | ⟨mZ,Bx⟩
          ·refine ⟨_,Ob,X4,?_⟩
           rw[C0];simp only[Md.e,fb,aI];refine k3 A3 qK λb' k hp hz=>nZ b' k ?_ ?_
           ·have:=A_ b' k;omega
           ·have h5:=mc b' k;have h6:=sX Fi hi F3 b' k;have h7:=yu b' k;have:=A_ b' k
            have h8:=q4 b' k;have h9:=M.sum b' k
            have:=k2 b' k;show b_ fh.block 0 (cap*e.sz) b' k+a_ (List.length v) (fb Fi j F3) b' k=0;omega
          ·obtain ⟨Lj,Gu,KD,_,_,TP⟩:=others A3 qK j y mZ Bx;refine ⟨Lj,Gu,KD,?_⟩
           rw[zB mZ];simp only[fb,bB mZ];exact TP
        ·rw[bB C3] at k1;split at k1
         ·rename_i Du;have Du:H3=[]:=bN.1 Du;refine ⟨_,_,_,λb' k=>b_ fh.block 0 (cap*e.sz) b' k,k1,λb' k=>by show b_ fh.block 0 (cap*e.sz) b' k<=_;omega,λA3 qK nZ=>?_,X5 _ rfl (by rw[Du];rfl) (λj hj=>rfl)⟩
          simp only[ap,hole,bU,aF,aL,Md.own,aI];refine ⟨some fh,cap,by simp,by simpa using g2,g3,(λhn=>by cases hn),λAv Fz=>?_⟩
          injection Fz with Fz;subst Fz;refine ⟨q1,q2,hb _ _ q3,λ_ _ _=>0,λb' k=>by rw[mK];simp,λj y hy=>?_⟩
          have fz:∀ b' k,1<=I0 b' k+(b_ fh.block 0 (cap*e.sz) b' k+a_ (List.length v) (fb Fi i G) b' k)->b_ fh.block 0 (cap*e.sz) b' k=0->A3 b' k:=nZ
          rcases Dt j y hy with ⟨rfl,rfl⟩ | ⟨mZ,Bx⟩
          ·refine ⟨_,Ob,X4,?_⟩
           have VM:=k3 A3 qK λb' k hp hz=>fz b' k (by have:=A_ b' k;omega) (by
            have h5:=mc b' k;have:=A_ b' k;omega)
           rw[Du] at VM;refine Ro.rep e _ (f_ e) (ap.wA (λ_ _ h=>h) e VM λb' k hp=>fz b' k ?_ ?_)
           ·have:=k2 b' k;have:=A_ b' k;omega
           ·have h5:=mc b' k;have:=A_ b' k;have:=k2 b' k;omega
          ·obtain ⟨Lj,Gu,KD,_,_,TP⟩:=others A3 qK j y mZ Bx;have hj:j < List.length v:=(aM.1 Bx).1;refine ⟨Lj,Gu,KD,Ro.rep e _ (f_ e) (ap.wA (λ_ _ h=>h) e TP λb' k hp=>?_)⟩
           have h1:=cy (fb Fi i G) hj b' k;have e1:fb Fi i G j=Fi j:=by simp[fb,mZ]
           rw[e1] at h1;have h5:=mc b' k;exact fz b' k (by omega) (by omega)
         ·cases k1
    ·cases h
  | arr n e=>
   cases s with
   | fst=>simp[q9] at h
   | snd=>simp[q9] at h
   | idx i=>simp[q9] at h
   | o4 i=>
    obtain ⟨rfl,hf,hl,hlen,hr⟩:=hr;simp only[q9,cT,aI] at h
    cases hx:(v:List e.den)[i]? with
    | none=>rw[hx] at h;cases h
    | some x=>
     rw[hx] at h;simp only[aA] at h;have hi:i < n:=hl ▸ (aM.1 hx).1
     have gg:∀ j,j < n->j*e.sz+e.sz<=cs.length:=λj hj=>by
      have:(j+1)*e.sz<=n*e.sz:=bD _ hj;rw[cI] at this;omega
     have oo:∀ j,j < n->((cs.drop (j*e.sz)).take e.sz).length=e.sz:=λj hj=>by have:=gg j hj;simp;omega
     obtain ⟨t',m',H',v',br,cr,F',G,kk,loc,M⟩:=ih e h (Ro.flat e (λ_ _=>0) hf (hr i x hx)) (λ_ _=>aY _) (ad:=gf ad (i*e.sz)) (λb' o hb j u hu=>by
      cases ad with
      | none=>cases hb
      | some y=>
       simp only[gf,cC,aP,bS] at hb;obtain ⟨rfl,rfl⟩:=hb;rw[bJ] at hu;split at hu
       ·rw[bL] at hu;have:=fk y.1 y.2 rfl _ u hu
        rwa [cE]
       ·cases hu) (λ_ _ _ _ _=>rfl)
     have Oc:∀ b k,G b k=0:=λb k=>by have:=M.sum b k;omega
     have C4:∀ b k,F' b k=0:=λb k=>by have:=M.sum b k;omega
     have Gv:∀ h:loc=none,t'.sz=0:=λh=>by
      obtain ⟨b',o,e1,e2⟩:=M.out h;rcases bF t'.sz with h0 | h0
      ·exact h0
      ·have:=(e2 0 h0).1;rw[Oc] at this;omega
     refine ⟨t',m',H',v',br,cr,F',F,kk,loc.map (i*e.sz+·),M.run,λK0=>by simp only[n_,cT,aI,hx,aA];exact M.Rl K0,by simp only[bk,cT,aI,hi];exact M.place,M.rep,λb k=>by rw[C4];omega,M.has,?_,(λh=>by rw[M.Ph (by simpa [dj] using h)];rfl),?_,?_⟩
     ·intro XZ ho;obtain ⟨off,X0,rfl⟩:=Option.map_eq_some_iff.1 ho;obtain ⟨q1,q2,q3⟩:=M.tG off X0;have:=gg i hi;refine ⟨by simp only[Ty.sz];omega,?_,by rw[q3];cases ad <;> simp[gf,cE]⟩
      rw[q2,eO,fK,dA];congr 1;omega
     ·intro ho;obtain ⟨b',o,q1,q2⟩:=M.out (by simpa using ho);have:=Gv (by simpa using ho);exact ⟨b',o,q1,λj hj=>by omega⟩
     ·intro m2 H2 v2 hk w2 A2 cz I0 hb hA sC hG BV vt mc;obtain ⟨m3,H3,v3,F3,k1,k2,k3,k4⟩:=M.back m2 H2 v2 hk w2 A2 cz I0 hb hA sC (λb' i hp hn=>by rw[Oc] at hp;omega) BV vt (λb' i=>by have:=mc b' i;rw[Oc];omega);have tH:=ap.length t' vt;split at k1
      ·rename_i Du;have Du:H3=[]:=bN.1 Du
       have oH:lF (loc.map (i*e.sz+·)) cs t'.sz cz=zC cs (i*e.sz) e.sz (lF loc ((cs.drop (i*e.sz)).take e.sz) t'.sz cz):=by
        cases loc with
        | none=>simp only[lF,hY];exact (zD (gg i hi)).symm
        | some off=>
         have:=(M.tG off rfl).1;exact (WZ this (gg i hi) tH).symm
       have v7:(lF loc ((cs.drop (i*e.sz)).take e.sz) t'.sz cz).length=e.sz:=by
        cases loc with
        | none=>exact oo i hi
        | some off=>have:=(M.tG off rfl).1;simp only[lF];rw[uP (by rw[oo i hi];omega) tH,oo i hi]
       have Pi:∀ j,j < n->((lF (loc.map (i*e.sz+·)) cs t'.sz cz).drop (j*e.sz)).take e.sz=if j=i then lF loc ((cs.drop (i*e.sz)).take e.sz) t'.sz cz else (cs.drop (j*e.sz)).take e.sz:=λj hj=>by
        rw[oH];apply fS;intro k;rw[bJ];split
        ·rename_i hk;rw[bL,Bw (gg i hi) v7];by_cases mZ:j=i
         ·subst mZ;rw[aV (by omega),aV rfl];congr 1;omega
         ·rw[bB mZ,bJ,aV hk,bL,bB];have fq:j < i\/i < j:=by omega
          rcases fq with sZ | sZ
          ·have:(j+1)*e.sz<=i*e.sz:=bD _ sZ;rw[cI] at this;omega
          ·have:(i+1)*e.sz<=j*e.sz:=bD _ sZ;rw[cI] at this;omega
        ·rename_i hk;by_cases mZ:j=i
         ·rw[aV mZ,cW (by omega)]
         ·rw[bB mZ,cW (by rw[oo j hj];omega)]
       have wB:∀ d full,rD d full w t' H' br cr w2 H2 cz->full->lF (loc.map (i*e.sz+·)) cs t'.sz cz=cs:=λd full hd wC=>by
        obtain ⟨H5,c5,e1,e2⟩:=hd [] ⟨t',H',br,cr⟩ (aY _) rfl;simp only[bk,aP,Pl.mk.injEq] at e1;have e3:cz=br:=e1.2.2.1.trans (e2 (.inr wC))
        cases loc with
        | none=>rfl
        | some off=>
         have:=M.tG off rfl;have:=gg i hi;rw[e3,(M.tG off rfl).2.1,eO,fK,show min t'.sz (e.sz - off)=t'.sz by omega,dA];exact zD (show i*e.sz+off+t'.sz<=cs.length by omega)
       have Z5:(lF (loc.map (i*e.sz+·)) cs t'.sz cz).length=n*e.sz:=by rw[oH,uP (gg i hi) v7,hlen]
       refine ⟨_,_,_,λb' k=>F3 b' k+F b' k,k1,λb' k=>by have:=k2 b' k;have:=Oc b' k;show F3 b' k+F b' k<=_;omega,λA3 qK nZ=>?_,λd full hd=>?_⟩
       ·refine ⟨rfl,hf,by simpa using hl,Z5,λj y hy=>?_⟩
        have hj:j < n:=by have:=(aM.1 hy).1;rw[cX] at this;omega
        rw[Pi j hj];rw[fL] at hy;split at hy
        ·rename_i oE;subst oE
         have hy:some v3=some y:=by
          split at hy
          ·exact hy
          ·cases hy
         injection hy with hy;rw[aV rfl,<- hy];exact ap.flat e hf (k3 A3 qK λb' k hp hz=>nZ b' k (by have:=Oc b' k;omega) (by have:=mc b' k;have:=Oc b' k;show F3 b' k+F b' k=0;omega))
        ·rename_i oE;rw[bB (λh=>oE h.symm)];exact Ro.mono sC (λb' k ha=>qK b' k (hA b' k ha)) e (hr j y hy)
       ·intro q pl hq hp
        cases q with
        | nil=>
         simp only[bk,aP] at hp;subst hp;refine ⟨_,_,rfl,λh=>?_⟩
         rcases h with ⟨_,hs⟩ | wC
         ·simp[vF] at hs
         ·exact wB d full hd wC
        | cons s q=>
         cases s with
         | fst=>simp[bk] at hp
         | snd=>simp[bk] at hp
         | idx j=>simp[bk] at hp
         | o4 j=>
          simp only[bk,cT,aI] at hp;split at hp
          ·rename_i hj;by_cases mZ:j=i
           ·subst mZ;obtain ⟨H5,X6,e1,e2⟩:=k4 d full hd q pl (by simp only[dj] at hq;omega) hp;refine ⟨H5,X6,?_,λsD=>e2 (sD.imp (λh=>⟨by have:=h.1;simp only[dj] at this;omega,h.2⟩) id)⟩
            simp only[bk,cT,aI,hj];rw[Pi j hj,aV rfl];rw[Du] at e1;exact e1
           ·refine ⟨pl.H,pl.cs,?_,λ_=>rfl⟩
            simp only[bk,cT,aI,hj];rw[Pi j hj,bB mZ];exact v6 sC q e (Ro.flat e (m:=.leaf) (λ_ _=>0) hf (hr j _ (aB (by rw[hl];exact hj)))) (λb k hp=>by simp at hp) hp
          ·cases hp
      ·cases k1
  | _=>cases s <;> simp[q9] at h
end
end OT
set_option linter.unusedVariables false
set_option linter.unusedSimpArgs false
namespace OT
open Go
def tmp (a:Act) (i:Nat):Value:=a.tmps.getD i undef
section
variable {P:Program} {w:World} {A:Cells}
theorem Ro.one:∀ (t:Ty) {v:t.den} {cs:List Value},Ro P w A t v cs->∀ x ∈ cs,x.oneCell'=true:=by
 intro t
 induction t with
 | pair a b kO kD=>
  intro v cs h x hx;rw[<-cR a.sz cs] at hx;rcases cJ.1 hx with hx | hx
  ·exact kO h.1 x hx
  ·exact kD h.2 x hx
 | arr n e ih=>
  intro v cs h x hx;obtain ⟨hf,hl,hlen,hr⟩:=h;obtain ⟨k,hk,rfl⟩:=dC.1 hx;rw[hlen] at hk
  have ko:0 < e.sz:=by
   rcases bF e.sz with h0 | h0
   ·rw[h0] at hk;omega
   ·exact h0
  have hi:k / e.sz < n:=(gO ko).2 hk;refine ih (hr (k / e.sz) _ (aB (by rw[hl];exact hi))) _ ?_;rw[gP];refine ⟨k % e.sz,?_⟩
  rw[bJ,aV (iR _ ko),bL];have:k / e.sz*e.sz+k % e.sz=k:=by rw[fT];exact gL k e.sz
  rw[this];exact aB _
 | U e ih=>rintro v cs ⟨a,cap,rfl,_⟩ x hx;simp at hx;subst hx;rfl
 | ptr e ih=>rintro v cs ⟨a,rfl,_⟩ x hx;simp at hx;subst hx;rfl
 | fn=>rintro v cs ⟨a,rfl,_⟩ x hx;simp at hx;subst hx;rfl
 | map k v=>rintro v cs ⟨_,_,r,qJ,rfl,_⟩ x hx;simp at hx;subst hx;rfl
 | unit=>intro v cs h x hx;simp only[Ro] at h;subst h;cases hx
 | _=>intro v cs h x hx;simp only[Ro] at h;subst h;simp at hx;subst hx;rfl
theorem ap.one:∀ (t:Ty) {m:Md} {H:List Path} {v:t.den} {cs:List Value} {F:FP},ap P w A t m H v cs F->∀ x ∈ cs,x.oneCell'=true:=by
 intro t
 induction t with
 | pair a b kO kD=>
  intro m H v cs F h x hx;obtain ⟨_,F1,F2,_,h1,h2⟩:=h;rw[<-cR a.sz cs] at hx;rcases cJ.1 hx with hx | hx
  ·exact kO h1 x hx
  ·exact kD h2 x hx
 | U e ih=>
  intro m H v cs F h x hx;simp only[ap] at h;split at h
  ·obtain ⟨y,rfl,hy⟩:=h;simp at hx;subst hx;exact hy
  ·split at h
   ·obtain ⟨a,cap,rfl,_⟩:=h;simp at hx;subst hx;rfl
   ·exact Ro.one _ h.2.2 x hx
 | ptr e ih=>
  intro m H v cs F h x hx;simp only[ap] at h;split at h
  ·obtain ⟨y,rfl,hy⟩:=h;simp at hx;subst hx;exact hy
  ·split at h
   ·obtain ⟨a,rfl,_⟩:=h;simp at hx;subst hx;rfl
   ·exact Ro.one _ h.2.2 x hx
 | arr n e ih=>intro m H v cs F h;exact Ro.one _ h.2
 | map k v=>
  intro m H v cs F h x hx;simp only[ap] at h;split at h
  ·obtain ⟨y,rfl,hy⟩:=h;simp at hx;subst hx;exact hy
  ·split at h
   ·obtain ⟨_,_,r,qJ,rfl,_⟩:=h;simp at hx;subst hx;rfl
   ·exact Ro.one _ h.2.2 x hx
 | _=>intro m H v cs F h;exact Ro.one _ h
end
theorem lh {t:Ty} {cs:List Value} (hl:cs.length=t.sz) (h1:∀ x ∈ cs,x.oneCell'=true):(ci t cs).cells.toList=cs:=by
 unfold ci;split
 ·simp[Value.cells]
 ·rename_i h;have:t.sz=1:=by cases t <;> simp_all [isAgg,Ty.sz]
  match cs,hl with
  | [x],_=>
   have:=h1 x (by simp);cases x <;> simp_all [Value.cells,Value.oneCell']
  | [],hl=>simp[this] at hl
  | _::_::_,hl=>simp[this] at hl
def Below (snap v:List Nat):Prop:=∀ (j x:Nat),snap[j]?=some x->∃ y,v[j]?=some y/\x<=y
theorem FA:∀ (s v:List Nat),preB s v=true↔∀ (j x:Nat),s[j]?=some x->v[j]?=some x
 | [],v=>by simp[preB]
 | a::s,[]=>by
  simp only[preB,aF,false_iff];intro h;have:=h 0 a rfl;cases this
 | a::s,b::v=>by
  simp only[preB,aE,eJ,FA s v];constructor
  ·rintro ⟨rfl,h⟩ j x hj
   cases j with
   | zero=>exact hj
   | succ j=>exact h j x hj
  ·intro h;refine ⟨by have:=h 0 a rfl;simpa using this.symm,λj x hj=>h (j+1) x hj⟩
theorem Ez {s v v':List Nat} (hs:Below s v) (hv:Below v v') (h:preB s v'=true):preB s v=true/\∀ (j:Nat),j < s.length->v[j]?=v'[j]?:=by
 have key:∀ (j x:Nat),s[j]?=some x->v[j]?=some x/\v'[j]?=some x:=λj x hj=>by
  obtain ⟨y,hy,yJ⟩:=hs j x hj;obtain ⟨z,hz,hyz⟩:=hv j y hy;have:=(FA _ _).1 h j x hj;rw[this] at hz;injection hz with hz;have:x=y:=by omega
  subst this;exact ⟨hy,by assumption⟩
 refine ⟨(FA _ _).2 λj x hj=>(key j x hj).1,λj hj=>?_⟩
 obtain ⟨h1,h2⟩:=key j _ (aB hj);rw[h1,h2]
theorem Below.trans {s v v':List Nat} (h1:Below s v) (h2:Below v v'):Below s v':=λj x hj=>by
 obtain ⟨y,hy,yJ⟩:=h1 j x hj;obtain ⟨z,hz,hyz⟩:=h2 j y hy;exact ⟨z,hz,by omega⟩
theorem Below.refl (s:List Nat):Below s s:=λj x hj=>⟨x,hj,aN _⟩
def c9 (w:World) (tv:Value):Slot->Option Pl
 | .own t _ H _=>some ⟨t,H,tv.cells.toList,none⟩
 | .box t _ H _=>match tv with
  | .pointer (some a)=>some ⟨t,H,rd w a.block a.off t.sz,some (a.block,a.off)⟩
  | _=>none
 | _=>none
def place (σ:St) (a:Act) (w:World) (r:Nat) (p:Path):Option Pl:=
 (c9 w (tmp a r) (σ.get r)).bind λR=>bk w p R.t R.H R.cs R.ad
def q_ (σ:St) (a:Act) (w:World) (tv:Value) (r:Nat) (p:Path) (snap:List Nat):Prop:=
 Below snap (σ.lw r)/\(σ.ok r snap=true->∃ pl,place σ a w r p=some pl/\tv=ci pl.t pl.cs/\((vF pl.t=true/\snap.length=min 5 (2+dj p))\/snap.length=5))
def By (σ:St) (a:Act) (w:World) (tv:Value) (r:Nat) (p:Path) (snap:List Nat):Prop:=
 Below snap (σ.lw r)/\(σ.ok r snap=true->∃ pl b o,place σ a w r p=some pl/\pl.ad=some (b,o)/\tv=.pointer (some ⟨b,o,none⟩)/\snap.length=min 5 (1+dj p))
def Dv (σ:St) (a:Act) (w:World) (tv:Value) (r:Nat) (p:Path) (snap:List Nat) (lo hi:Nat):Prop:=
 Below snap (σ.lw r)/\(σ.ok r snap=true->∃ pl e x n cap x' cap',place σ a w r p=some pl/\pl.t=.U e/\pl.cs=[.slice x n cap]/\lo<=hi/\hi<=n/\tv=.slice x' (hi - lo) cap'/\cap'+lo=cap/\(lo=0->x'=x) /\
  (x=none->x'=none)/\(∀ ad,x=some ad->∃ cr,x'=some cr/\cr.spot=ad.spot/\cr.block=ad.block/\(lo < hi->cr.off=ad.off+lo*e.sz))/\(snap.length=min 5 (2+dj p)\/snap.length=5))
section
variable (P:Program) (A:Cells)
def X7 (w:World) (x:Gj) (tv:Value) (F:FP):Prop:=x.t=.unit\/∃ cs,tv=ci x.t cs/\ap P w A x.t x.m [] x.v cs F
def cv (σ:St) (a:Act) (w:World) (tv:Value):Slot->FP->Prop
 | .dead,_=>True
 | .wv,_=>tv=.slice none 0 0
 | .val t v,_=>∃ cs,tv=ci t cs/\Ro P w A t v cs
 | .cp t v,_=>Ro P w A (.ptr t) v [tv]
 | .own t m H v,F=>∃ cs,tv=ci t cs/\ap P w A t m H v cs F
 | .box t m H v,F=>∃ b o L F1,tv=.pointer (some ⟨b,o,none⟩)/\L.length=t.sz/\Has w b o L/\(∀ j,j < t.sz->w.frozen? ⟨b,o+j,none⟩=false) /\
   (∀ x i,b_ b o t.sz x i+F1 x i<=F x i)/\ap P w A t m H v L F1
 | .ref r p snap,_=>q_ σ a w tv r p snap
 | .ptr r p snap,_=>By σ a w tv r p snap
 | .sub r p snap lo hi,_=>Dv σ a w tv r p snap lo hi
 | .rB xs,F=>∃ (vs:Array Value) (Fi:Nat->FP),tv=.tuple vs/\(∀ b i,a_ xs.length Fi b i<=F b i)/\∀ j x,xs[j]?=some x->∃ v,vs[j]?=some v/\X7 P A w x v (Fi j)
end
structure Ext (w w':World) (F:FP):Prop where
 size:w.heap.size<=w'.heap.size
 cell:∀ b i,b < w.heap.size->F b i=0->∀ u,ce w b i=some u->ce w' b i=some u
 ub:∀ b n,ge w b n->ge w' b n
 yw:∀ b i,b < w.heap.size->w'.frozen? ⟨b,i,none⟩=w.frozen? ⟨b,i,none⟩
 os:w'.os=w.os
 tape:w'.tape=w.tape
 output:w'.output=w.output
 obj:∀ b,b < w.heap.size->(∀ i,F b i=0)->w'.heap[b]?=w.heap[b]?
 drawn:w.drawn<=w'.drawn
def Rp (P:Program):Bool:=(P.globalNamed "internal/strconv.uint64pow10").isSome||(P.globalNamed "internal/bytealg.MaxLen").isSome
def vG (P:Program) (w:World) (F0:FP):Prop:=Rp P=true->(∃ w0:World,(w0.ShapedOpen P/\((P.globalNamed "internal/strconv.uint64pow10").isSome=true->Go.Lib.TabIs P w0 "internal/strconv.uint64pow10" .u64 Go.Lib.pow10Tab))/\∀ b,b < P.globals.size->w.heap[b]?=w0.heap[b]?) /\
 P.globals.size<=w.heap.size/\∀ b i,b < P.globals.size->F0 b i=0
theorem Z6 {P:Program} {w:World} {F0:FP} (h:Rp P=false):vG P w F0:=λe=>by rw[h] at e;cases e
theorem vG.ext {P:Program} {w w':World} {F0 G:FP} (h:vG P w F0) (he:Ext w w' F0) (hG:∀ b i,1<=G b i->1<=F0 b i\/w.heap.size<=b):vG P w' G:=λe=>by
 obtain ⟨⟨w0,g,hw⟩,hs,hf⟩:=h e;refine ⟨⟨w0,g,λb hb=>?_⟩,bO hs he.size,λb i hb=>?_⟩
 ·rw[he.obj b (by omega) (λi=>hf b i hb)];exact hw b hb
 ·rcases bF (G b i) with h0 | h0
  ·exact h0
  ·have:=hf b i hb;rcases hG b i h0 with h1 | h1 <;> omega
structure Ctx where
 w0:World
 A0:Cells
 F0:FP
 args:Array Value
structure Rel (P:Program) (C:Ctx) (A:Cells) (X:FP) (σ:St) (a:Act) (w:World) (F:Nat->FP):Prop where
 size:a.tmps.size=σ.n
 defers:a.defers=[]
 g_:∀ i,i < σ.n->cv P A σ a w (tmp a i) (σ.get i) (F i)
 gh:∀ d r p snap,(d,r,p,snap) ∈ σ.gh->q_ σ a w (tmp a d) r p snap
 o5:∀ b i,X b i+a_ σ.n F b i<=1
 pW:∀ b i,1<=X b i+a_ σ.n F b i->¬ A b i
 kP:∀ b i,1<=X b i+a_ σ.n F b i\/A b i->b < w.heap.size
 mf:∀ i,(σ.lw i).length=5
 ext:Ext C.w0 w C.F0
 own:∀ b i,1<=X b i+a_ σ.n F b i->1<=C.F0 b i\/C.w0.heap.size<=b
 a0:∀ b i,C.A0 b i->A b i
 a1:∀ b i,A b i->C.A0 b i\/1<=C.F0 b i\/C.w0.heap.size<=b
 oA:∀ j k,(j,k,false) ∈ σ.az->tmp a j=C.args.getD k undef
 whole:∀ r t m H v,σ.get r=.box t m H v->(∀ k,(r,k,false) ∉ σ.az)->∃ b,tmp a r=.pointer (some ⟨b,0,none⟩)/\ge w b (t.sz,false)
 ny:∀ j k,(j,k,true) ∈ σ.az->∀ R,c9 w (tmp a j) (σ.get j)=some R->ci R.t R.cs=C.args.getD k undef
 tab:vG P C.w0 C.F0
theorem Rel.BW {P:Program} {C:Ctx} {A:Cells} {X:FP} {σ:St} {a:Act} {w:World} {F:Nat->FP} (h:Rel P C A X σ a w F) {G:FP} (hG:∀ b i,1<=G b i->1<=X b i+a_ σ.n F b i):vG P w G:=
 h.tab.ext h.ext λb i hp=>h.own b i (hG b i hp)
def xu (σ:St) (a:Act) (w:World) (σ':St) (a':Act) (w':World):Prop:=
 ∀ r p snap,Below snap (σ.lw r)->Below snap (σ'.lw r)/\(σ'.ok r snap=true->σ.ok r snap=true /\
  (snap.length=min 5 (1+dj p)\/snap.length=min 5 (2+dj p)\/snap.length=5->∀ pl,place σ a w r p=some pl->∃ H' br,place σ' a' w' r p=some ⟨pl.t,H',br,pl.ad⟩ /\
   ((vF pl.t=true/\snap.length=min 5 (2+dj p))\/snap.length=5->br=pl.cs)))
section
variable {P:Program} {A A':Cells} {σ σ':St} {a a':Act} {w w':World} {tv:Value} {F:FP}
theorem q_.mW (hp:xu σ a w σ' a' w') {r:Nat} {p:Path} {snap:List Nat} (h:q_ σ a w tv r p snap):q_ σ' a' w' tv r p snap:=by
 obtain ⟨h1,h2⟩:=h;obtain ⟨h3,h4⟩:=hp r p snap h1;refine ⟨h3,λbc=>?_⟩
 obtain ⟨h5,h6⟩:=h4 bc;obtain ⟨pl,h7,h8,h9⟩:=h2 h5;obtain ⟨H',br,xY,Aw⟩:=h6 (h9.elim (λh=>.inr (.inl h.2)) (λh=>.inr (.inr h))) pl h7;exact ⟨_,xY,by rw[Aw h9];exact h8,h9⟩
theorem By.mW (hp:xu σ a w σ' a' w') {r:Nat} {p:Path} {snap:List Nat} (h:By σ a w tv r p snap):By σ' a' w' tv r p snap:=by
 obtain ⟨h1,h2⟩:=h;obtain ⟨h3,h4⟩:=hp r p snap h1;refine ⟨h3,λbc=>?_⟩
 obtain ⟨h5,h6⟩:=h4 bc;obtain ⟨pl,b,o,h7,h8,h9,xY⟩:=h2 h5;obtain ⟨H',br,Aw,_⟩:=h6 (.inl xY) pl h7;exact ⟨_,b,o,Aw,h8,h9,xY⟩
theorem Dv.mW (hp:xu σ a w σ' a' w') {r:Nat} {p:Path} {snap:List Nat} {lo hi:Nat} (h:Dv σ a w tv r p snap lo hi):Dv σ' a' w' tv r p snap lo hi:=by
 obtain ⟨h1,h2⟩:=h;obtain ⟨h3,h4⟩:=hp r p snap h1;refine ⟨h3,λbc=>?_⟩
 obtain ⟨h5,h6⟩:=h4 bc;obtain ⟨pl,e,x,n,cap,x',cap',h7,h8,h9,xY,Aw,KE,h13,aa5,h14,h15,Gw⟩:=h2 h5;obtain ⟨H',br,h17,h18⟩:=h6 (.inr Gw) pl h7;have:vF pl.t=true:=by rw[h8];rfl
 exact ⟨_,e,x,n,cap,x',cap',h17,h8,(h18 (Gw.imp (λh=>⟨this,h⟩) id)).trans h9,xY,Aw,KE,h13,aa5,h14,h15,Gw⟩
theorem cv.mW (hp:xu σ a w σ' a' w') (hA:∀ b i,A b i->A' b i) (hc:∀ b i,A b i->∀ u,ce w b i=some u->ce w' b i=some u) (hb:∀ b n,ge w b n->ge w' b n)
  (hF:∀ b i,1<=F b i->(∀ u,ce w b i=some u->ce w' b i=some u)/\w'.frozen? ⟨b,i,none⟩=w.frozen? ⟨b,i,none⟩) {s:Slot} (h:cv P A σ a w tv s F):cv P A' σ' a' w' tv s F:=by
 cases s with
 | dead=>trivial
 | wv=>exact h
 | val t v=>obtain ⟨cs,h1,h2⟩:=h;exact ⟨cs,h1,Ro.mono hc hA t h2⟩
 | cp t v=>exact Ro.mono hc hA (.ptr t) h
 | own t m H v=>obtain ⟨cs,h1,h2⟩:=h;exact ⟨cs,h1,ap.mono hA hc hb t h2 (λ_ _=>aN _) (λb i hp=>(hF b i hp).1)⟩
 | box t m H v=>
  obtain ⟨b,o,L,F1,h1,h2,h3,h4,h5,h6⟩:=h
  have hr:∀ j,j < t.sz->1<=F b (o+j):=λj hj=>by
   have:=h5 b (o+j);simp[b_,hj] at this;omega
  exact ⟨b,o,L,F1,h1,h2,λj u hu=>(hF _ _ (hr j (h2 ▸ (aM.1 hu).1))).1 u (h3 j u hu),λj hj=>by rw[(hF _ _ (hr j hj)).2];exact h4 j hj,h5,
   ap.mono hA hc hb t h6 (λ_ _=>aN _) (λb i hp=>(hF b i (by have:=h5 b i;omega)).1)⟩
 | ref r p snap=>exact q_.mW hp h
 | ptr r p snap=>exact By.mW hp h
 | sub r p snap lo hi=>exact Dv.mW hp h
 | rB xs=>
  obtain ⟨vs,Fi,h1,h2,h3⟩:=h;refine ⟨vs,Fi,h1,h2,λj x hx=>?_⟩
  obtain ⟨v,h4,h5⟩:=h3 j x hx;refine ⟨v,h4,h5.imp id λ⟨cs,h6,h7⟩=>⟨cs,h6,ap.mono hA hc hb x.t h7 (λ_ _=>aN _) (λb i hp=>(hF b i ?_).1)⟩⟩
  have:=cy Fi (aM.1 hx).1 b i;have:=h2 b i;omega
end
end OT
set_option linter.unusedVariables false
set_option linter.unusedSimpArgs false
namespace OT
open Go
theorem yS {α:Type} (k:Nat) (x:α) (l:List (Nat×α)) (i:Nat):m9 ((k,x)::l) i=if k=i then some x else m9 l i:=by
 simp only[m9];by_cases h:k=i
 ·simp[h]
 ·rw[bB h,bB (by simpa using h)]
theorem xv (σ:St) (d:Nat) (s:Slot) (i:Nat):(σ.put d s).get i=if d=i/\i < σ.n then s else σ.get i:=by
 simp only[St.get,St.put,yS,gU];by_cases hi:i < σ.n
 ·by_cases hd:d=i <;> simp[hi,hd]
 ·simp[hi]
theorem EA (σ:St) (d:Nat) (s:Slot) (i:Nat):(σ.Kk d s).get i=if d=i/\i < σ.n then s else σ.get i:=by
 simp only[St.get,St.Kk,yS,gU];by_cases hi:i < σ.n
 ·by_cases hd:d=i <;> simp[hi,hd]
 ·simp[hi]
theorem zl (σ:St) (d:Nat) (s:Slot) (i:Nat):(σ.put d s).lw i=if d=i then sf (σ.lw d) else σ.lw i:=by
 simp only[St.lw,St.put,yS];by_cases hd:d=i <;> simp[hd]
theorem qw (σ:St) (d:Nat) (f:List Nat->List Nat) (i:Nat):(σ.lP d f).lw i=if d=i then f (σ.lw d) else σ.lw i:=by
 simp only[St.lw,St.lP,yS];by_cases hd:d=i <;> simp[hd]
theorem yT {l:List (Nat×Nat×Bool)} {d:Nat} {e:Nat×Nat×Bool} (h:e ∈ zr l d):e ∈ l/\e.1≠d:=by
 induction l with
 | nil=>cases h
 | cons x l ih=>
  obtain ⟨k,b⟩:=x;simp only[zr] at h;split at h
  ·exact ⟨aW _ (ih h).1,(ih h).2⟩
  ·rename_i hk;rcases aX.1 h with rfl | h
   ·exact ⟨bG,by simpa using hk⟩
   ·exact ⟨aW _ (ih h).1,(ih h).2⟩
theorem Gx {l:List (Nat×Nat×Bool)} {d:Nat} {e:Nat×Nat×Bool} (h:e ∈ l) (hd:e.1≠d):e ∈ zr l d:=by
 induction l with
 | nil=>cases h
 | cons x l ih=>
  obtain ⟨k,b⟩:=x;simp only[zr];rcases aX.1 h with rfl | h
  ·rw[bB (by simpa using hd)];exact bG
  ·split
   ·exact ih h
   ·exact aW _ (ih h)
theorem Pj {l:List (Nat×Nat×Bool)} {d j k:Nat} (h:(j,k,false) ∈ l):(j,k,false) ∈ zs l d:=by
 induction l with
 | nil=>cases h
 | cons x l ih=>
  obtain ⟨k',n,b⟩:=x;simp only[zs];rcases aX.1 h with h | h
  ·injection h with h1 h2;injection h2 with h2 h3;subst h3;simp[h1,h2]
  ·split
   ·exact ih h
   ·exact aW _ (ih h)
theorem Gy {l:List (Nat×Nat×Bool)} {d:Nat} {e:Nat×Nat×Bool} (h:e ∈ zs l d):e ∈ l/\¬ (e.1=d/\e.2.2=true):=by
 induction l with
 | nil=>cases h
 | cons x l ih=>
  obtain ⟨k,n,b⟩:=x;simp only[zs] at h;split at h
  ·exact ⟨aW _ (ih h).1,(ih h).2⟩
  ·rename_i hk;rcases aX.1 h with rfl | h
   ·exact ⟨bG,by simpa using hk⟩
   ·exact ⟨aW _ (ih h).1,(ih h).2⟩
theorem KF {l:List (Nat×Nat×Path×List Nat)} {d:Nat} {e:Nat×Nat×Path×List Nat} (h:e ∈ Kj l d):e ∈ l/\e.1≠d:=by
 induction l with
 | nil=>cases h
 | cons x l ih=>
  obtain ⟨k,b⟩:=x;simp only[Kj] at h;split at h
  ·exact ⟨aW _ (ih h).1,(ih h).2⟩
  ·rename_i hk;rcases aX.1 h with rfl | h
   ·exact ⟨bG,by simpa using hk⟩
   ·exact ⟨aW _ (ih h).1,(ih h).2⟩
theorem sE (v:List Nat):Below v (sf v):=λj x hj=>⟨x+1,by simp[sf,hj],by omega⟩
theorem Dw {v:List Nat} (h:v.length=5):∃ b x y z w,v=[b,x,y,z,w]:=by
 match v,h with
 | [b,x,y,z,w],_=>exact ⟨b,x,y,z,w,rfl⟩
theorem Rq {b x y z w b' x' y' z' w':Nat} (h0:b<=b') (h1:x<=x') (h2:y<=y') (h3:z<=z') (h4:w<=w'):Below [b,x,y,z,w] [b',x',y',z',w']:=by
 intro j n hj
 match j,hj with
 | 0,hj=>exact ⟨b',rfl,by simp at hj;omega⟩
 | 1,hj=>exact ⟨x',rfl,by simp at hj;omega⟩
 | 2,hj=>exact ⟨y',rfl,by simp at hj;omega⟩
 | 3,hj=>exact ⟨z',rfl,by simp at hj;omega⟩
 | 4,hj=>exact ⟨w',rfl,by simp at hj;omega⟩
 | n+5,hj=>simp at hj
theorem uo (d:Nat) {v:List Nat} (h:v.length=5):Below v (tD d v):=by
 obtain ⟨b,x,y,z,w,rfl⟩:=Dw h
 match d with
 | 0 | 1 | 2 | n+3=>exact Rq (by omega) (by omega) (by omega) (by omega) (by omega)
theorem xI {v:List Nat} (h:v.length=5):Below v (ww v):=by
 obtain ⟨b,x,y,z,w,rfl⟩:=Dw h;exact Rq (by omega) (by omega) (by omega) (by omega) (by omega)
theorem Dx {v:List Nat}:(sf v).length=v.length:=by simp[sf]
theorem BX (d:Nat) {v:List Nat} (h:v.length=5):(tD d v).length=5:=by
 obtain ⟨b,x,y,z,w,rfl⟩:=Dw h
 match d with
 | 0 | 1 | 2 | n+3=>rfl
theorem Dy {v:List Nat} (h:v.length=5):(ww v).length=5:=by
 obtain ⟨b,x,y,z,w,rfl⟩:=Dw h;rfl
theorem Gz {s v v':List Nat} (hs:Below s v) (hv:Below v v') (h:preB s v'=true) {j:Nat} (hj:v[j]?≠v'[j]?):s.length<=j:=by
 rcases bZ j s.length with h' | h'
 ·exact absurd ((Ez hs hv h).2 j h') hj
 ·exact h'
theorem EU {s v:List Nat} (hl:v.length=5) (hs:Below s v) (h:preB s (sf v)=true):s.length=0:=by
 obtain ⟨b,x,y,z,w,rfl⟩:=Dw hl;have:=Gz hs (sE _) h (j:=0) (by simp[sf]);omega
theorem Dz {s v:List Nat} (d:Nat) (hl:v.length=5) (hs:Below s v) (h:preB s (tD d v)=true):s.length<=min 4 (1+d):=by
 have h4:s.length<=4:=by
  refine Gz hs (uo d hl) h ?_;obtain ⟨b,x,y,z,w,rfl⟩:=Dw hl
  match d with
  | 0 | 1 | 2 | n+3=>simp[tD]
 have hd:s.length<=1+d:=by
  rcases bZ d 3 with hd | hd
  ·refine Gz hs (uo d hl) h ?_;obtain ⟨b,x,y,z,w,rfl⟩:=Dw hl
   match d,hd with
   | 0,_ | 1,_ | 2,_=>simp[tD]
  ·omega
 omega
theorem FB {s v:List Nat} (hl:v.length=5) (hs:Below s v) (h:preB s (ww v)=true):s.length<=4:=by
 refine Gz hs (xI hl) h ?_;obtain ⟨b,x,y,z,w,rfl⟩:=Dw hl;simp[ww]
section
variable {P:Program} {C:Ctx} {A A2:Cells} {X:FP} {σ:St} {a:Act} {w w2:World} {F:Nat->FP}
theorem oq (a:Act) (d:Nat) (v:Value) (i:Nat):tmp (a.put (some d) v) i=if d=i/\i < a.tmps.size then v else tmp a i:=by
 simp only[tmp,Act.put,jB,iV];by_cases hd:d=i
 ·subst hd;by_cases hs:d < a.tmps.size <;> simp[hs]
 ·simp[hd]
theorem wD {tv:Value} {s:Slot} {G:FP} {R:Pl} (h:cv P A σ a w tv s G) (hR:c9 w tv s=some R) :
  ∃ (m:Md) (v:R.t.den) (F1:FP),ap P w A R.t m R.H v R.cs F1/\(∀ b i,F1 b i<=G b i) /\
   (∀ b o,R.ad=some (b,o)->Has w b o R.cs/\(∀ x i,b_ b o R.t.sz x i+F1 x i<=G x i)/\∀ j,j < R.t.sz->w.frozen? ⟨b,o+j,none⟩=false) /\
   ((∃ v',s=.own R.t m R.H v'/\HEq v v'/\R.ad=none)\/(∃ v',s=.box R.t m R.H v'/\HEq v v'/\R.ad.isSome=true)):=by
 cases s with
 | own t m H v=>
  simp only[c9,aP] at hR;subst hR;obtain ⟨cs,h1,h2⟩:=h;refine ⟨m,v,G,?_,λ_ _=>aN _,(λb o h=>by cases h),.inl ⟨v,rfl,HEq.rfl,rfl⟩⟩
  rw[h1,lh (ap.length t h2) (ap.one t h2)];exact h2
 | box t m H v=>
  obtain ⟨b,o,L,F1,h1,h2,h3,h4,h5,h6⟩:=h;subst h1;simp only[c9,aP] at hR;subst hR;refine ⟨m,v,F1,by rw[dx h3 h2];exact h6,λx i=>by have:=h5 x i;omega,?_,.inr ⟨v,rfl,HEq.rfl,rfl⟩⟩
  intro b' o' Rr;simp only[aP,bS] at Rr;obtain ⟨rfl,rfl⟩:=Rr;exact ⟨by rw[dx h3 h2];exact h3,h5,h4⟩
 | _=>simp[c9] at hR
theorem wE {tv:Value} {s:Slot} {G:FP} {R:Pl} (h:cv P A σ a w tv s G) (hc:∀ b i,1<=G b i->∀ u,ce w b i=some u->ce w2 b i=some u)
  (hR:c9 w tv s=some R):c9 w2 tv s=some R:=by
 cases s with
 | own t m H v=>exact hR
 | box t m H v=>
  obtain ⟨b,o,L,F1,h1,h2,h3,h4,h5,h6⟩:=h;subst h1;simp only[c9,aP] at hR ⊢
  have:Has w2 b o L:=λj u hu=>hc _ _ (by
   have hj:j < t.sz:=h2 ▸ (aM.1 hu).1
   have:=h5 b (o+j);simp[b_,hj] at this;omega) u (h3 j u hu)
  rw[dx this h2,<- hR,dx h3 h2]
 | _=>simp[c9] at hR
theorem vu {σ':St} {a':Act} {r:Nat} {p:Path} {G:FP} {pl:Pl} (h:cv P A σ a w (tmp a r) (σ.get r) G) (hg:σ'.get r=σ.get r) (ht:tmp a' r=tmp a r)
  (hA:∀ b i,A b i->∀ u,ce w b i=some u->ce w2 b i=some u) (hc:∀ b i,1<=G b i->∀ u,ce w b i=some u->ce w2 b i=some u)
  (hp:place σ a w r p=some pl):place σ' a' w2 r p=some pl:=by
 unfold place at hp ⊢;rw[hg,ht]
 cases hR:c9 w (tmp a r) (σ.get r) with
 | none=>rw[hR] at hp;cases hp
 | some R=>
  rw[hR] at hp;rw[wE h hc hR];obtain ⟨m,v,F1,h1,h2,_⟩:=wD h hR;exact v6 hA p R.t h1 (λb i hh=>hc b i (bO hh (h2 b i))) hp
theorem lQ {σ:St} {i:Nat} (h:¬ i < σ.n):σ.get i=.dead:=by simp[St.get,h]
theorem s8 {r:Nat} {p:Path} {pl:Pl} (h:place σ a w r p=some pl):r < σ.n:=by
 rcases bZ r σ.n with h' | h'
 ·exact h'
 ·simp[place,lQ (dN.2 h'),c9] at h
theorem Rel.put (h:Rel P C A X σ a w F) {d:Nat} (hd:d < σ.n) {s:Slot} {v:Value} {Fd X':FP} (hs:cv P A σ a w v s Fd) (ht:∀ b i,X' b i+Fd b i<=X b i+F d b i)
  (Rs:∀ t m H v',s=.box t m H v'->∃ b,v=.pointer (some ⟨b,0,none⟩)/\ge w b (t.sz,false)) :
  Rel P C A X' (σ.put d s) (a.put (some d) v) w (fb F d Fd):=by
 have ko:=h.size
 have nF:xu σ a w (σ.put d s) (a.put (some d) v) w:=by
  intro r p snap hb;rw[zl,St.ok,zl];by_cases hr:d=r
  ·subst hr;simp only[aI];refine ⟨hb.trans (sE _),λbc=>?_⟩
   have h0:=EU (h.mf d) hb bc;exact ⟨(Ez hb (sE _) bc).1,λhl=>by omega⟩
  ·simp only[bB hr];refine ⟨hb,λbc=>⟨bc,λhl pl ir=>⟨pl.H,pl.cs,?_,λ_=>rfl⟩⟩⟩
   exact vu (h.g_ r (s8 ir)) (by rw[xv,bB (λh=>hr h.1)]) (by rw[oq,bB (λh=>hr h.1)]) (λ_ _ _ _ h=>h) (λ_ _ _ _ h=>h) ir
 have pe:∀ b i,X' b i+a_ σ.n (fb F d Fd) b i<=X b i+a_ σ.n F b i:=λb i=>by
  have:=sX F hd Fd b i;have:=ht b i;omega
 refine ⟨by simp[Act.put,ko,St.put],by simpa [Act.put] using h.defers,λi hi=>?_,?_,λb i=>bO (pe b i) (h.o5 b i),λb i hp=>h.pW b i (bO hp (pe b i)),
  λb i hp=>h.kP b i (hp.imp (λhp=>bO hp (pe b i)) id),λi=>?_,h.ext,λb i hp=>h.own b i (bO hp (pe b i)),h.a0,h.a1,?_,?_,?_,h.tab⟩
 ·have hi:i < σ.n:=hi;rw[xv,oq,ko];by_cases VN:d=i
  ·subst VN;rw[aV ⟨rfl,hi⟩,aV ⟨rfl,hi⟩];simp only[fb,aI];exact cv.mW nF (λ_ _ h=>h) (λ_ _ _ _ h=>h) (λ_ _ h=>h) (λ_ _ _=>⟨λ_ h=>h,rfl⟩) hs
  ·rw[bB (λh=>VN h.1),bB (λh=>VN h.1)];simp only[fb,bB (λh:i=d=>VN h.symm)];exact cv.mW nF (λ_ _ h=>h) (λ_ _ _ _ h=>h) (λ_ _ h=>h) (λ_ _ _=>⟨λ_ h=>h,rfl⟩) (h.g_ i hi)
 ·intro d' r p snap hm;obtain ⟨hm,fq⟩:=KF hm;rw[oq,bB (λh=>fq h.1.symm)];exact q_.mW nF (h.gh d' r p snap hm)
 ·rw[zl];split
  ·rw[Dx];exact h.mf d
  ·exact h.mf i
 ·intro j k hm;obtain ⟨hm,fq⟩:=yT hm;rw[oq,bB (λh=>fq h.1.symm)];exact h.oA j k hm
 ·intro r t m H v' hg hl;rw[xv] at hg;rw[oq,ko];by_cases Au:d=r/\r < σ.n
  ·rw[aV Au] at hg ⊢;exact Rs t m H v' hg
  ·rw[bB Au] at hg ⊢;refine h.whole r t m H v' hg λk hm=>hl k (Gx hm λe=>Au ⟨e.symm,?_⟩);rcases bZ r σ.n with hr | hr
   ·exact hr
   ·rw[lQ (dN.2 hr)] at hg;cases hg
 ·intro j k hm R hR;obtain ⟨hm,fq⟩:=yT hm;rw[oq,bB (λh=>fq h.1.symm),xv,bB (λh=>fq h.1.symm)] at hR;exact h.ny j k hm R hR
theorem Rel.less (h:Rel P C A X σ a w F) {X':FP} (ht:∀ b i,X' b i<=X b i):Rel P C A X' σ a w F:=
 { h with
  o5:=λb i=>by have:=h.o5 b i;have:=ht b i;omega
  pW:=λb i hp=>h.pW b i (by have:=ht b i;omega)
  kP:=λb i hp=>h.kP b i (hp.imp (λhp=>by have:=ht b i;omega) id)
  own:=λb i hp=>h.own b i (by have:=ht b i;omega) }
theorem Ext.refl (w:World) (F:FP):Ext w w F:=⟨aN _,λ_ _ _ _ _ h=>h,λ_ _ h=>h,λ_ _ _=>rfl,rfl,rfl,rfl,λ_ _ _=>rfl,aN _⟩
theorem Ext.mono {F F':FP} (h:Ext w w2 F) (hF:∀ b i,F' b i=0->F b i=0):Ext w w2 F':={ h with cell:=λb i hb hz=>h.cell b i hb (hF b i hz),obj:=λb hb hz=>h.obj b hb λi=>hF b i (hz i) }
theorem Ext.trans {w3:World} {F G:FP} (h:Ext w w2 F) (h2:Ext w2 w3 G) (hG:∀ b i,b < w.heap.size->F b i=0->G b i=0):Ext w w3 F:=
 ⟨bO h.size h2.size,λb i hb hz u hu=>h2.cell b i (cP hb h.size) (hG b i hb hz) u (h.cell b i hb hz u hu),λb n hn=>h2.ub b n (h.ub b n hn),
  λb i hb=>(h2.yw b i (cP hb h.size)).trans (h.yw b i hb),h2.os.trans h.os,h2.tape.trans h.tape,h2.output.trans h.output,
  λb hb hz=>(h2.obj b (cP hb h.size) λi=>hG b i hb (hz i)).trans (h.obj b hb hz),bO h.drawn h2.drawn⟩
theorem Rel.yK (h:Rel P C A X σ a w F) {r:Nat} (hr:r < σ.n) {σ':St} (hn:σ'.n=σ.n) (uq:∀ i,i≠r->σ'.get i=σ.get i) (X8:∀ i,i≠r->σ'.lw i=σ.lw i)
  (hvr:Below (σ.lw r) (σ'.lw r)) (zF:(σ'.lw r).length=5) (BY:∀ e,e ∈ σ'.az->e ∈ σ.az) (X9:∀ j k,(j,k,false) ∈ σ.az->(j,k,false) ∈ σ'.az) (Rt:∀ e,e ∈ σ'.gh->e ∈ σ.gh)
  {X2 KG:FP} {R:Pl} {H2:List Path} {cz:List Value} (hs:cv P A2 σ' a w2 (tmp a r) (σ'.get r) KG) (hR:c9 w (tmp a r) (σ.get r)=some R)
  (hR2:c9 w2 (tmp a r) (σ'.get r)=some ⟨R.t,H2,cz,R.ad⟩)
  (cu:∀ (p:Path) (snap:List Nat),Below snap (σ.lw r)->σ'.ok r snap=true->(snap.length=min 5 (1+dj p)\/snap.length=min 5 (2+dj p)\/snap.length=5) ->
   ∃ D full,dj p<=D/\(snap.length=min 5 (2+dj p)->dj p < D\/full)/\(snap.length=5->full)/\rD D full w R.t R.H R.cs R.ad w2 H2 cz)
  (hA:∀ b i,A b i->A2 b i) (vf:∀ b i,A2 b i->A b i\/(1<=X b i+F r b i/\X2 b i+KG b i=0))
  (hx:∀ b i,X2 b i+KG b i<=X b i+F r b i) (hw:Ext w w2 λb i=>X b i+F r b i) (TQ:∀ t m H v,σ'.get r=.box t m H v->∃ m0 H0 v0,σ.get r=.box t m0 H0 v0) (zG:∀ k,(r,k,true) ∈ σ'.az->cz=R.cs) :
  Rel P C A2 X2 σ' a w2 (fb F r KG):=by
 have hle:∀ b i,X b i+F r b i<=X b i+a_ σ.n F b i:=λb i=>by have:=cy F hr b i;omega
 have sC:∀ b i,A b i->∀ u,ce w b i=some u->ce w2 b i=some u:=λb i ha u hu=>by
  refine hw.cell b i (h.kP b i (.inr ha)) ?_ u hu;rcases bF (X b i+F r b i) with h0 | h0
  ·exact h0
  ·exact absurd ha (h.pW b i (bO h0 (hle b i)))
 have DA:∀ j,j < σ.n->j≠r->∀ b i,1<=F j b i->(∀ u,ce w b i=some u->ce w2 b i=some u)/\w2.frozen? ⟨b,i,none⟩=w.frozen? ⟨b,i,none⟩:=λj hj Ru b i hp=>by
  have h1:=uj F hj hr Ru b i;have h2:=h.o5 b i;have hb:=h.kP b i (.inl (by have:=cy F hj b i;omega));exact ⟨λu hu=>hw.cell b i hb (by show X b i+F r b i=0;omega) u hu,hw.yw b i hb⟩
 have nF:xu σ a w σ' a w2:=by
  intro r' p snap hb;by_cases KH:r'=r
  ·subst KH;refine ⟨hb.trans hvr,λbc=>?_⟩
   refine ⟨(Ez hb hvr bc).1,λhl pl ir=>?_⟩
   obtain ⟨D,full,h1,h2,h3,h4⟩:=cu p snap hb bc hl;unfold place at ir ⊢;rw[hR] at ir;rw[hR2];obtain ⟨H',br,h5,h6⟩:=h4 p pl h1 ir;refine ⟨H',br,h5,λh7=>h6 ?_⟩
   rcases h7 with ⟨h7,h8⟩ | h7
   ·exact (h2 h8).imp (λh=>⟨h,h7⟩) id
   ·exact .inr (h3 h7)
  ·rw[St.ok,X8 r' KH];refine ⟨hb,λbc=>⟨bc,λhl pl ir=>⟨pl.H,pl.cs,?_,λ_=>rfl⟩⟩⟩
   have am:=s8 ir;exact vu (h.g_ r' am) (uq r' KH) rfl sC (λb i hp=>(DA r' am KH b i hp).1) ir
 have pe:∀ b i,X2 b i+a_ σ.n (fb F r KG) b i<=X b i+a_ σ.n F b i:=λb i=>by
  have:=sX F hr KG b i;have:=hx b i;omega
 refine ⟨by rw[hn];exact h.size,h.defers,λi hi=>?_,λd r' p snap hm=>q_.mW nF (h.gh d r' p snap (Rt _ hm)),λb i=>by rw[hn];exact bO (pe b i) (h.o5 b i),λb i hp ha=>?_,
  λb i hp=>?_,λi=>?_,h.ext.trans hw λb i hb hz=>?_,λb i hp=>by rw[hn] at hp;exact h.own b i (bO hp (pe b i)),λb i ha=>hA b i (h.a0 b i ha),λb i ha=>?_,
  λj k hm=>h.oA j k (BY _ hm),λr' t m H v hg hl=>?_,λj k hm R' jv=>?_,h.tab⟩
 ·rw[hn] at hi;by_cases GA:i=r
  ·subst GA;simp only[fb,aI];exact hs
  ·simp only[fb,bB GA];rw[uq i GA];exact cv.mW nF hA sC hw.ub (DA i hi GA) (h.g_ i hi)
 ·rw[hn] at hp
  rcases vf b i ha with ha | ⟨h1,h2⟩
  ·exact h.pW b i (bO hp (pe b i)) ha
  ·have h3:=h.o5 b i;have h4:=sX F hr KG b i;omega
 ·rw[hn] at hp;refine cP (h.kP b i ?_) hw.size;rcases hp with hp | ha
  ·exact .inl (bO hp (pe b i))
  ·rcases vf b i ha with ha | ⟨h1,_⟩
   ·exact .inr ha
   ·exact .inl (bO h1 (hle b i))
 ·by_cases GA:i=r
  ·subst GA;exact zF
  ·rw[X8 i GA];exact h.mf i
 ·rcases bF (X b i+F r b i) with h0 | h0
  ·exact h0
  ·have:=h.own b i (bO h0 (hle b i));omega
 ·rcases vf b i ha with ha | ⟨h1,_⟩
  ·exact h.a1 b i ha
  ·exact .inr (h.own b i (bO h1 (hle b i)))
 ·have:∃ m0 H0 v0,σ.get r'=.box t m0 H0 v0:=by
   by_cases KH:r'=r
   ·subst KH;exact TQ t m H v hg
   ·rw[uq r' KH] at hg;exact ⟨m,H,v,hg⟩
  obtain ⟨m0,H0,v0,Rv⟩:=this;obtain ⟨b,h1,h2⟩:=h.whole r' t m0 H0 v0 Rv λk hm=>hl k (X9 _ _ hm);exact ⟨b,h1,hw.ub _ _ h2⟩
 ·by_cases Ru:j=r
  ·subst Ru;rw[hR2] at jv;injection jv with jv;subst jv;show ci R.t cz=_;rw[zG k hm];exact h.ny j k (BY _ hm) R hR
  ·rcases bZ j σ.n with hj | hj
   ·rw[uq j Ru] at jv;have oo:=h.g_ j hj
    cases vg:c9 w (tmp a j) (σ.get j) with
    | none=>exfalso;cases hg:σ.get j <;> rw[hg] at vg jv <;> simp only[c9] at vg jv <;> first | (cases jv;done) | (cases vg;done) | (split at vg <;> simp_all)
    | some R0=>
     rw[wE oo (λb i hp=>(DA j hj Ru b i hp).1) vg] at jv;injection jv with jv;subst jv;exact h.ny j k (BY _ hm) _ vg
   ·rw[lQ (by rw[hn];omega)] at jv;cases jv
end
end OT
set_option linter.unusedVariables false
set_option linter.unusedSimpArgs false
namespace OT
open Go
def jd (ad:Option (Nat×Nat)) (n:Nat):FP:=λb i=>match ad with
 | some (b',o)=>b_ b' o n b i
 | none=>0
section
variable {P:Program} {C:Ctx} {A:Cells} {X:FP} {σ:St} {a:Act} {w:World} {F:Nat->FP} {R:Type} {x:R}
theorem GB {r:Nat} {K:(t:Ty)->Md->List Path->t.den->Option R} (h:wx σ r K=some x) :
  r < σ.n/\∃ t m H v,(σ.get r=.own t m H v\/σ.get r=.box t m H v)/\K t m H v=some x:=by
 unfold wx at h;rcases bZ r σ.n with hr | hr
 ·refine ⟨hr,?_⟩
  split at h
  ·rename_i t m H v hg;exact ⟨t,m,H,v,.inl hg,h⟩
  ·rename_i t m H v hg;exact ⟨t,m,H,v,.inr hg,h⟩
  ·cases h
 ·rw[lQ (dN.2 hr)] at h;cases h
structure X_ (P:Program) (A:Cells) (σ:St) (a:Act) (w:World) (r:Nat) (G:FP) (t:Ty) (m:Md) (H:List Path) (v:t.den) (cs:List Value) (ad:Option (Nat×Nat)) (F1:FP):Prop where
 root:c9 w (tmp a r) (σ.get r)=some ⟨t,H,cs,ad⟩
 rep:ap P w A t m H v cs F1
 le:∀ b i,jd ad t.sz b i+F1 b i<=G b i
 has:∀ b o,ad=some (b,o)->Has w b o cs
 yw:∀ b o,ad=some (b,o)->∀ j,j < t.sz->w.frozen? ⟨b,o+j,none⟩=false
 val:ad=none->tmp a r=ci t cs/\σ.get r=.own t m H v
 ptr:∀ b o,ad=some (b,o)->tmp a r=.pointer (some ⟨b,o,none⟩)/\σ.get r=.box t m H v
theorem cv.root {r:Nat} {G:FP} (h:cv P A σ a w (tmp a r) (σ.get r) G) {t:Ty} {m:Md} {H:List Path} {v:t.den} (hg:σ.get r=.own t m H v\/σ.get r=.box t m H v) :
  ∃ cs ad F1,X_ P A σ a w r G t m H v cs ad F1:=by
 rcases hg with hg | hg
 ·rw[hg] at h;obtain ⟨cs,h1,h2⟩:=h;refine ⟨cs,none,G,by rw[hg];simp only[c9,h1,lh (ap.length t h2) (ap.one t h2)],h2,λb i=>by simp[jd],(λb o h=>by cases h),(λb o h=>by cases h),λ_=>⟨h1,hg⟩,(λb o h=>by cases h)⟩
 ·rw[hg] at h;obtain ⟨b,o,L,F1,h1,h2,h3,h4,h5,h6⟩:=h;refine ⟨L,some (b,o),F1,by rw[hg,h1];simp only[c9,dx h3 h2],h6,λb i=>h5 b i,?_,?_,(λh=>by cases h),?_⟩
  ·intro b' o' e;simp only[aP,bS] at e;obtain ⟨rfl,rfl⟩:=e;exact h3
  ·intro b' o' e;simp only[aP,bS] at e;obtain ⟨rfl,rfl⟩:=e;exact h4
  ·intro b' o' e;simp only[aP,bS] at e;obtain ⟨rfl,rfl⟩:=e;exact ⟨h1,hg⟩
theorem lK (h:Rel P C A X σ a w F) {r:Nat} {p:Path} {K:(t:Ty)->Md->List Path->t.den->Option R} (hk:pp σ r p K=some x) :
  r < σ.n/\∃ (t':Ty) (m':Md) (H':List Path) (v':t'.den) (br:List Value) (cr:Option (Nat×Nat)) (F':FP),K t' m' H' v'=some x/\(∀ {S:Type} (K0:(t:Ty)->Md->List Path->t.den->Option S),pp σ r p K0=K0 t' m' H' v')/\place σ a w r p=some ⟨t',H',br,cr⟩/\ap P w A t' m' H' v' br F' /\
   (∀ b i,F' b i<=F r b i)/\(∀ b o,cr=some (b,o)->Has w b o br):=by
 obtain ⟨hr,t,m,H,v,hg,hk⟩:=GB hk;obtain ⟨cs,ad,F1,RO⟩:=(h.g_ r hr).root hg;obtain ⟨t',m',H',v',br,cr,F',h1,hn,h2,h3,h4,h5,_⟩:=XX p t hk RO.rep (ad:=ad) RO.has;refine ⟨hr,t',m',H',v',br,cr,F',h1,λK0=>?_,?_,h3,λb i=>by have:=h4 b i;have:=RO.le b i;omega,h5⟩
 ·unfold pp wx;rcases hg with hg | hg <;> rw[hg] <;> exact hn K0
 unfold place;rw[RO.root];exact h2
theorem xJ (r:Nat) (t:Ty) (m:Md) (H:List Path) (v:t.den) (i:Nat) (h:i≠r):(σ.kd r t m H v).get i=σ.get i:=by
 unfold St.kd;split <;> rw[EA,bB (λe=>h e.1.symm)]
theorem wF {r:Nat} (hr:r < σ.n) {t t0:Ty} {m m0:Md} {H H0:List Path} {v0:t0.den} (v:t.den) (h:σ.get r=.own t0 m0 H0 v0):(σ.kd r t m H v).get r=.own t m H v:=by
 unfold St.kd;rw[h];simp only[];rw[EA,aV ⟨rfl,hr⟩]
theorem wG {r:Nat} (hr:r < σ.n) {t t0:Ty} {m m0:Md} {H H0:List Path} {v0:t0.den} (v:t.den) (h:σ.get r=.box t0 m0 H0 v0):(σ.kd r t m H v).get r=.box t m H v:=by
 unfold St.kd;rw[h];simp only[];rw[EA,aV ⟨rfl,hr⟩]
theorem ur (r:Nat) (t:Ty) (m:Md) (H:List Path) (v:t.den):(σ.kd r t m H v).n=σ.n:=by unfold St.kd;split <;> rfl
theorem qL (r:Nat) (t:Ty) (m:Md) (H:List Path) (v:t.den) (i:Nat):(σ.kd r t m H v).lw i=σ.lw i:=by unfold St.kd;split <;> rfl
theorem sF (r:Nat) (t:Ty) (m:Md) (H:List Path) (v:t.den):(σ.kd r t m H v).az=σ.az:=by unfold St.kd;split <;> rfl
theorem BZ (r:Nat) (t:Ty) (m:Md) (H:List Path) (v:t.den):(σ.kd r t m H v).gh=σ.gh:=by unfold St.kd;split <;> rfl
def qx (σ σ':St):Prop:=∀ (w:World) (tv:Value) (i:Nat) (R:Pl),c9 w tv (σ'.get i)=some R->∃ H,c9 w tv (σ.get i)=some ⟨R.t,H,R.cs,R.ad⟩
theorem qx.refl (σ:St):qx σ σ:=λw tv i R h=>⟨R.H,h⟩
theorem qx.trans {σ σ' xw:St} (h:qx σ σ') (h':qx σ' xw):qx σ xw:=by
 intro w tv i R0 hR;obtain ⟨H,h1⟩:=h' w tv i R0 hR;exact h w tv i ⟨R0.t,H,R0.cs,R0.ad⟩ h1
theorem yx {r:Nat} (hr:r < σ.n) {t:Ty} {m m0:Md} {H H0:List Path} {v0:t.den} (v:t.den) (h:σ.get r=.own t m0 H0 v0\/σ.get r=.box t m0 H0 v0) {σ':St} (hg:∀ i,σ'.get i=(σ.kd r t m H v).get i):qx σ σ':=by
 intro w tv i R hR;rw[hg] at hR;by_cases hi:i=r
 ·subst hi;rcases h with h | h
  ·rw[wF hr v h] at hR;rw[h];simp only[c9,aP] at hR ⊢;subst hR;exact ⟨H0,rfl⟩
  ·rw[wG hr v h] at hR;rw[h];simp only[c9] at hR ⊢;split at hR
   ·injection hR with hR;subst hR;exact ⟨H0,rfl⟩
   ·cases hR
 ·rw[xJ r t m H v i hi] at hR;exact ⟨R.H,hR⟩
structure TR (σ:St) (r:Nat) (s:Slot) (Ya:Prop) (σ':St):Prop where
 n:σ'.n=σ.n
 get:∀ i,i≠r->σ'.get i=σ.get i
 root:σ'.get r=s
 lw:∀ i,i≠r->σ'.lw i=σ.lw i
 below:Below (σ.lw r) (σ'.lw r)
 mf:(σ'.lw r).length=5
 az:∀ e,e ∈ σ'.az->e ∈ σ.az
 VO:∀ j k,(j,k,false) ∈ σ.az->(j,k,false) ∈ σ'.az
 gh:∀ e,e ∈ σ'.gh->e ∈ σ.gh
 head:∀ k,(r,k,true) ∈ σ'.az->Ya
theorem Rel.Pk (h:Rel P C A X σ a w F) {r:Nat} {p:Path} {f:(t':Ty)->Md->List Path->t'.den->(Md->List Path->t'.den->Option R)->Option R}
  {Kf:(t:Ty)->Md->List Path->t.den->Option R} (hk:wx σ r (λt0 m0 H0 v0=>q9 p t0 m0 H0 v0 f λm' H' v'=>Kf t0 m' H' v')=some x) :
  r < σ.n/\∃ (t':Ty) (m':Md) (H':List Path) (v':t'.den) (br:List Value) (cr:Option (Nat×Nat)) (F':FP) (kk:Md->List Path->t'.den->Option R),
   f t' m' H' v' kk=some x/\(∀ {S:Type} (K0:(t:Ty)->Md->List Path->t.den->Option S),pp σ r p K0=K0 t' m' H' v')/\place σ a w r p=some ⟨t',H',br,cr⟩/\ap P w A t' m' H' v' br F' /\
   (∀ b i,jd cr t'.sz b i+F' b i<=F r b i)/\(∀ b o,cr=some (b,o)->Has w b o br)/\(∀ b o,cr=some (b,o)->∀ j,j < t'.sz->w.frozen? ⟨b,o+j,none⟩=false) /\
   ∀ m2 H2 (v2:t'.den),kk m2 H2 v2=some x->∀ (w2:World) (A2:Cells) (cz:List Value) (F2 X2:FP),
    Ext w w2 (λb i=>X b i+(F' b i+jd cr t'.sz b i))->(∀ b i,A b i->A2 b i)->(∀ b i,A2 b i->A b i\/(1<=X b i+F' b i/\X2 b i+F2 b i=0)) ->
    (∀ b i,X2 b i+F2 b i<=X b i+F' b i)->(∀ b o,cr=some (b,o)->Has w2 b o cz)->(cr=none->cz=br)->ap P w2 A2 t' m2 H2 v2 cz F2 ->
    ∃ (t0:Ty) (m3:Md) (H3:List Path) (v3:t0.den) (Fr:FP) (A3:Cells),Kf t0 m3 H3 v3=some x/\(∃ (m0:Md) (H0:List Path) (v0:t0.den),σ.get r=.own t0 m0 H0 v0\/σ.get r=.box t0 m0 H0 v0)/\(∀ b i,A2 b i->A3 b i)/\(∀ b i,Fr b i<=F r b i+X b i) /\
     ∀ σ',TR σ r ((σ.kd r t0 m3 H3 v3).get r) (1<=dj p\/cz=br) σ' ->
      (∀ (p':Path) (snap:List Nat),Below snap (σ.lw r)->σ'.ok r snap=true->(snap.length=min 5 (1+dj p')\/snap.length=min 5 (2+dj p')\/snap.length=5) ->
       ∃ D full,dj p'<=D+dj p/\(snap.length=min 5 (2+dj p')->dj p' < D+dj p\/full)/\(snap.length=5->full)/\rD D full w t' H' br cr w2 H2 cz) ->
      Rel P C A3 X2 σ' a w2 (fb F r Fr):=by
 obtain ⟨hr,t,m,H,v,hg,hk⟩:=GB hk;obtain ⟨cs,ad,F1,RO⟩:=(h.g_ r hr).root hg;have yL:∀ b i,X b i+F r b i<=1:=λb i=>by have:=h.o5 b i;have:=cy F hr b i;omega
 have um:∀ b o,ad=some (b,o)->∀ j,j < t.sz->F1 b (o+j)=0:=λb o e j hj=>by
  have h1:=RO.le b (o+j);have h2:=yL b (o+j)
  rw[e] at h1;simp[jd,b_,hj] at h1;omega
 obtain ⟨t',m',H',v',br,cr,F',G,kk,loc,M⟩:=XY p t hk RO.rep (λb i=>by have:=yL b i;have:=RO.le b i;omega) RO.has um;have hlen:=ap.length t RO.rep
 have xZ:∀ b i,jd cr t'.sz b i+F' b i<=F r b i/\(1<=jd cr t'.sz b i->1<=G b i\/1<=jd ad t.sz b i)/\jd cr t'.sz b i<=1:=λb i=>by
  have h1:=M.sum b i;have h2:=RO.le b i;have h3:=yL b i
  cases fk:cr with
  | none=>simp only[jd];omega
  | some bo=>
   obtain ⟨b0,o0⟩:=bo;simp only[jd,b_];split
   ·rename_i gg;obtain ⟨rfl,Yb,KI⟩:=gg
    cases loc with
    | none=>
     obtain ⟨b',o',e1,e2⟩:=M.out rfl;rw[fk] at e1;simp only[aP,bS] at e1;obtain ⟨rfl,rfl⟩:=e1;have:=(e2 (i - o0) (by omega)).1;rw[show o0+(i - o0)=i by omega] at this;omega
    | some off=>
     obtain ⟨e1,e2,e3⟩:=M.tG off rfl
     cases vk:ad with
     | none=>rw[fk,vk] at e3;cases e3
     | some y=>
      rw[fk,vk] at e3;simp only[gf,cC,aP,bS] at e3;obtain ⟨rfl,rfl⟩:=e3;have un:b_ y.1 y.2 t.sz y.1 i=1:=by simp[b_];omega
      rw[vk] at h2;simp only[jd,un] at h2 ⊢;simp only[b_] at un;omega
   ·omega
 refine ⟨hr,t',m',H',v',br,cr,F',kk,M.run,λK0=>?_,by unfold place;rw[RO.root];exact M.place,M.rep,λb i=>(xZ b i).1,M.has,λb o e j hj=>?_,?_⟩
 ·unfold pp wx;rcases hg with hg | hg <;> rw[hg] <;> exact M.Rl K0
 ·cases loc with
  | none=>
   obtain ⟨b',o',e1,e2⟩:=M.out rfl;rw[e] at e1;simp only[aP,bS] at e1;obtain ⟨rfl,rfl⟩:=e1;exact (e2 j hj).2
  | some off=>
   obtain ⟨e1,e2,e3⟩:=M.tG off rfl
   cases vk:ad with
   | none=>rw[e,vk] at e3;cases e3
   | some y=>
    rw[e,vk] at e3;simp only[gf,cC,aP,bS] at e3;obtain ⟨rfl,rfl⟩:=e3;have:=RO.yw y.1 y.2 vk (off+j) (by omega)
    rwa [<-cE] at this
 intro m2 H2 v2 DB w2 A2 cz F2 X2 dr hA vf hX yy Gv EB;have tH:=ap.length t' EB
 have sC:∀ b i,A b i->∀ u,ce w b i=some u->ce w2 b i=some u:=λb i ha u hu=>by
  refine dr.cell b i (h.kP b i (.inr ha)) ?_ u hu;have h1:=(xZ b i).1;have h2:=cy F hr b i;have h3:=h.pW b i;show X b i+(F' b i+jd cr t'.sz b i)=0;rcases bF (X b i+a_ σ.n F b i) with h0 | h0
  ·omega
  ·exact absurd ha (h3 h0)
 have hGc:∀ b i,1<=G b i\/1<=jd ad t.sz b i->(∀ o,cr=some (b,o)->¬ (o<=i/\i < o+t'.sz))->∀ u,ce w b i=some u->ce w2 b i=some u:=λb i hp hn u hu=>by
  have h1:=xZ b i;have h2:=yL b i;have h3:=M.sum b i;have h4:=RO.le b i
  refine dr.cell b i (h.kP b i (.inl (by have:=cy F hr b i;omega))) ?_ u hu;show X b i+(F' b i+jd cr t'.sz b i)=0
  have h5:jd cr t'.sz b i=0:=by
   cases fk:cr with
   | none=>rfl
   | some bo=>
    obtain ⟨b0,o0⟩:=bo;simp only[jd,b_];split
    ·rename_i gg;obtain ⟨rfl,Yb,KI⟩:=gg;exact absurd ⟨Yb,KI⟩ (hn o0 fk)
    ·rfl
  omega
 have Z7:∀ b i,F2 b i+G b i<=1:=λb i=>by
  have:=hX b i;have:=M.sum b i;have:=RO.le b i;have:=yL b i;omega
 obtain ⟨m3,H3,v3,F3,k1,k2,k3,k4⟩:=M.back m2 H2 v2 DB w2 A2 cz F2 dr.ub hA sC (λb i hp hn=>hGc b i (.inl hp) hn) yy EB Z7
 have Rw:(lF loc cs t'.sz cz).length=t.sz:=by
  cases loc with
  | none=>exact hlen
  | some off=>have:=(M.tG off rfl).1;simp only[lF];rw[uP (by omega) tH,hlen]
 have wB:cz=br->lF loc cs t'.sz cz=cs:=λe=>by
  cases loc with
  | none=>rfl
  | some off=>
   obtain ⟨e1,e2,_⟩:=M.tG off rfl;rw[e,e2];exact zD (by omega)
 have Pm:∀ b o,ad=some (b,o)->Has w2 b o (lF loc cs t'.sz cz):=λb o e=>by
  have cells:∀ j u,cs[j]?=some u->(∀ o',cr=some (b,o')->¬ (o'<=o+j/\o+j < o'+t'.sz))->ce w2 b (o+j)=some u:=λj u hu hn=>by
   have hj:j < t.sz:=hlen ▸ (aM.1 hu).1;exact hGc b (o+j) (.inr (by rw[e];simp[jd,b_,hj])) hn u (RO.has b o e j u hu)
  cases KJ:loc with
  | none=>
   intro j u hu;refine cells j u hu λo' he gg=>?_;have hj:j < t.sz:=hlen ▸ (aM.1 hu).1;obtain ⟨b',o'',e1,e2⟩:=M.out KJ;rw[he] at e1;simp only[aP,bS] at e1;obtain ⟨rfl,rfl⟩:=e1;have h1:=(e2 (o+j - o') (by omega)).1;rw[show o'+(o+j - o')=o+j by omega] at h1;have h2:=RO.le b (o+j);have h3:=yL b (o+j);have h4:=M.sum b (o+j)
   rw[e] at h2;simp[jd,b_,hj] at h2;omega
  | some off=>
   obtain ⟨e1,e2,e3⟩:=M.tG off KJ;rw[e] at e3;simp only[gf,cC] at e3
   exact N_ (by omega) tH (yy b (o+off) e3) (λj u hu hn=>cells j u hu λo' he gg=>by
    rw[e3] at he;simp only[aP,bS] at he
    omega)
 refine ⟨t,m3,H3,v3,λb i=>jd ad t.sz b i+F3 b i,λb i=>A2 b i\/(1<=F2 b i+G b i/\F3 b i=0),k1,⟨m,H,v,hg⟩,λ_ _ h=>.inl h,λb i=>?_,λσ' on cu=>?_⟩
 ·have h1:=k2 b i;have h2:=hX b i;have h3:=M.sum b i;have h4:=RO.le b i
  show jd ad t.sz b i+F3 b i<=_;omega
 have Pn:=k3 (λb i=>A2 b i\/(1<=F2 b i+G b i/\F3 b i=0)) (λ_ _ h=>.inl h) (λb i h1 h2=>.inr ⟨h1,h2⟩)
 have J4:cv P (λb i=>A2 b i\/(1<=F2 b i+G b i/\F3 b i=0)) σ' a w2 (tmp a r) (σ'.get r) (λb i=>jd ad t.sz b i+F3 b i)/\c9 w2 (tmp a r) (σ'.get r)=some ⟨t,H3,lF loc cs t'.sz cz,ad⟩:=by
  rw[on.root]
  cases vk:ad with
  | none=>
   obtain ⟨e1,e2⟩:=RO.val vk
   have e3:lF loc cs t'.sz cz=cs:=by
    cases KJ:loc with
    | none=>rfl
    | some off=>
     have:=(M.tG off KJ).2.2;rw[vk] at this;rw[<-KJ];exact wB (Gv this)
   rw[wF hr v3 e2];rw[e3] at Pn ⊢;exact ⟨⟨cs,e1,ap.le Pn (λb i=>by show F3 b i<=jd none t.sz b i+F3 b i;omega)⟩,by simp only[c9,e1,lh hlen (ap.one t RO.rep)]⟩
  | some bo=>
   obtain ⟨b,o⟩:=bo;obtain ⟨e1,e2⟩:=RO.ptr b o vk;rw[wG hr v3 e2,e1];have hh:=Pm b o vk;refine ⟨⟨b,o,_,F3,rfl,Rw,hh,λj hj=>?_,λb' i=>?_,Pn⟩,by simp only[c9,dx hh Rw]⟩
   ·have hb:b < w.heap.size:=h.kP b (o+j) (.inl (by
     have h1:=RO.le b (o+j);have h2:=cy F hr b (o+j)
     rw[vk] at h1;simp[jd,b_,hj] at h1
     omega))
    rw[dr.yw b (o+j) hb];exact RO.yw b o vk j hj
   ·exact aN _
 refine h.yK hr on.n on.get on.lw on.below on.mf on.az on.VO on.gh J4.1 RO.root J4.2 (λp' snap h1 h2 h3=>?_) (λb i ha=>.inl (hA b i ha)) (λb i ha=>?_) (λb i=>?_) (dr.mono λb i hz=>?_) (λt5 m5 H5 v5 Rx=>?_) (λk hm=>?_)
 ·obtain ⟨D,full,q1,q2,q3,q4⟩:=cu p' snap h1 h2 h3;exact ⟨D+dj p,full,q1,q2,q3,k4 D full q4⟩
 ·have h1:=hX b i;have h2:=k2 b i;have h3:=M.sum b i;have h4:=RO.le b i;have h5:=yL b i
  rcases ha with ha | ⟨ha1,ha2⟩
  ·rcases vf b i ha with ha | ⟨ha1,ha2⟩
   ·exact .inl ha
   ·right;omega
  ·right;omega
 ·have h1:=hX b i;have h2:=k2 b i;have h3:=M.sum b i;have h4:=RO.le b i
  show X2 b i+(jd ad t.sz b i+F3 b i)<=_;omega
 ·have h1:=(xZ b i).1;show X b i+(F' b i+jd cr t'.sz b i)=0;omega
 ·rw[on.root] at Rx;rcases hg with hg | hg
  ·rw[wF hr v3 hg] at Rx;cases Rx
  ·rw[wG hr v3 hg] at Rx;injection Rx with e1 e2 e3 e4;subst e1;exact ⟨_,_,_,hg⟩
 ·rcases on.head k hm with hp | he
  ·rw[M.Ph hp];rfl
  ·exact wB he
end
end OT
set_option linter.unusedVariables false
set_option linter.unusedSimpArgs false
namespace OT
open Go
theorem ap.VP {P:Program} {w:World} {A:Cells}:∀ (t:Ty) {m:Md} {H:List Path} {v:t.den} {cs:List Value} {F:FP},ap P w A t m H v cs F->ap P w A t m (sA t) v cs (λ_ _=>0):=by
 intro t
 induction t with
 | pair a b kO kD=>
  intro m H v cs F h;obtain ⟨_,F1,F2,hs,h1,h2⟩:=h;refine ⟨by rw[sA,si,qo,qo];rfl,λ_ _=>0,λ_ _=>0,λ_ _=>aN _,?_,?_⟩
  ·rw[sA,cU,tE,uk,cD];exact kO h1
  ·rw[sA,cU,ul,tF,bT];exact kD h2
 | U e ih=>
  intro m H v cs F h;have h1:=ap.length _ h;have h2:=ap.one _ h
  match cs,h1 with
  | [y],_=>simp only[ap,sA,hole,fY,cT,fQ,aI];exact ⟨y,rfl,h2 y (by simp)⟩
 | ptr e ih=>
  intro m H v cs F h;have h1:=ap.length _ h;have h2:=ap.one _ h
  match cs,h1 with
  | [y],_=>simp only[ap,sA,hole,fY,cT,fQ,aI];exact ⟨y,rfl,h2 y (by simp)⟩
 | arr n e ih=>intro m H v cs F h;rw[sA,h.2.1];obtain ⟨rfl,h⟩:=h;exact ⟨rfl,h⟩
 | map k v=>
  intro m H v cs F h;have h1:=ap.length _ h;have h2:=ap.one _ h
  match cs,h1 with
  | [y],_=>simp only[ap,sA,hole,fY,cT,fQ,aI];exact ⟨y,rfl,h2 y (by simp)⟩
 | _=>intro m H v cs F h;exact h
section
variable {P:Program} {C:Ctx} {A:Cells} {X:FP} {σ:St} {a:Act} {w:World} {F:Nat->FP} {R:Type} {x:R}
structure At (σ:St) (r:Nat) (p:Path) (t:Ty) (m:Md) (H:List Path) (v:t.den):Prop where
 eq:∀ {S:Type} (K0:(t:Ty)->Md->List Path->t.den->Option S),pp σ r p K0=K0 t m H v
theorem At.inj {r:Nat} {p:Path} {t t':Ty} {m m':Md} {H H':List Path} {v:t.den} {v':t'.den} (h:At σ r p t m H v) (h':At σ r p t' m' H' v'):t=t'/\m=m'/\H=H'/\HEq v v':=by
 have h1:=h.eq (λt m H v=>some (⟨t,m,H,v⟩:(t:Ty)×Md×List Path×t.den));rw[h'.eq] at h1;injection h1 with h1;injection h1 with h1 h2;subst h1;have h2:=iD h2;simp only[bS] at h2;exact ⟨rfl,h2.1.symm,h2.2.1.symm,heq_of_eq h2.2.2.symm⟩
theorem GC (σ:St) (r d:Nat):(σ.head r d).n=σ.n:=by unfold St.head;split <;> rfl
theorem zH (σ:St) (r d i:Nat):(σ.head r d).get i=σ.get i:=by unfold St.head;split <;> rfl
theorem zI (σ:St) (r d i:Nat):(σ.head r d).lw i=σ.lw i:=by unfold St.head;split <;> rfl
theorem Od (σ:St) (r d:Nat):(σ.head r d).gh=σ.gh:=by unfold St.head;split <;> rfl
theorem KK {r d:Nat} {f:List Nat->List Nat} (h1:Below (σ.lw r) (f (σ.lw r))) (h2:(f (σ.lw r)).length=5) {t:Ty} {m:Md} {H:List Path} {v:t.den} {q:Prop} (hq:1<=d->q) :
  TR σ r ((σ.kd r t m H v).get r) q (((σ.kd r t m H v).lP r f).head r d) where
 n:=by rw[GC];exact ur r t m H v
 get i hi:=by rw[zH];exact xJ r t m H v i hi
 root:=by rw[zH];rfl
 lw i hi:=by rw[zI,qw,bB (λe=>hi e.symm),qL]
 below:=by rw[zI,qw,aV rfl,qL];exact h1
 mf:=by rw[zI,qw,aV rfl,qL];exact h2
 az e he:=by
  unfold St.head at he;split at he
  ·have:=(Gy he).1;simp only[St.lP,sF] at this;exact this
  ·simp only[St.lP,sF] at he;exact he
 VO j k hm:=by
  unfold St.head;split
  ·refine Pj ?_;simp only[St.lP,sF];exact hm
  ·simp only[St.lP,sF];exact hm
 gh e he:=by rw[Od] at he;simp only[St.lP,BZ] at he;exact he
 head k hm:=by
  unfold St.head at hm;split at hm
  ·exact absurd ⟨rfl,rfl⟩ (Gy hm).2
  ·rename_i hd;exact hq (Nat.pos_of_ne_zero hd)
theorem KL (h:Rel P C A X σ a w F) {r:Nat} {p:Path} {K:St->Option R} (hk:yR σ r p K=some x) {t':Ty} {m':Md} {H':List Path} {v':t'.den} (hn:At σ r p t' m' H' v') :
  ∃ (A':Cells) (σ':St) (F':Nat->FP) (cs:List Value) (ad:Option (Nat×Nat)) (Fv:FP),K σ'=some x/\(∀ b i,A b i->A' b i)/\Rel P C A' (λb i=>X b i+Fv b i) σ' a w F'/\σ'.n=σ.n/\qx σ σ' /\
   place σ a w r p=some ⟨t',H',cs,ad⟩/\ap P w A t' m' H' v' cs Fv/\∀ b i,Fv b i<=F r b i:=by
 obtain ⟨hr,t1,m1,H1,v1,cs,ad,Fv,kk,h1,h2,h3,h4,h5,h6,h7,h8⟩:=h.Pk hk;obtain ⟨e1,e2,e3,e4⟩:=hn.inj ⟨h2⟩;subst e1;subst e2;subst e3;have e4:=iD e4;subst e4;obtain ⟨t0,m3,H3,v3,Fr,A3,k1,⟨m0,H0,v0,k0⟩,k2,k3,k4⟩:=h8 _ _ _ h1 w A cs (λ_ _=>0) (λb i=>X b i+Fv b i) (Ext.refl _ _) (λ_ _ h=>h) (λ_ _ h=>.inl h) (λb i=>aN _) h6 (λ_=>rfl) (ap.VP _ h4);refine ⟨A3,_,_,cs,ad,Fv,k1,k2,k4 _ (KK (uo _ (h.mf r)) (BX _ (h.mf r)) .inl) (λp' snap hb bc hl=>?_),?_,yx hr v3 k0 (λi=>by rw[zH];rfl),h3,h4,λb i=>by have:=h5 b i;omega⟩
 ·refine ⟨0,False,?_,?_,?_,rD.zero (A:=A) ad (ap.VP _ h4)⟩
  all_goals
   unfold St.ok at bc;rw[zI,qw,aV rfl,qL] at bc;have:=Dz (dj p) (h.mf r) hb bc
  ·omega
  ·intro;left;omega
  ·omega
 ·rw[GC];exact ur _ _ _ _ _
theorem Ig (h:Rel P C A X σ a w F) {r:Nat} {p:Path} {K:St->Option R} (hk:yR σ r p K=some x) {t':Ty} {m':Md} {v':t'.den} (hn:At σ r p t' m' [] v') :
  ∃ (A':Cells) (σ':St) (F':Nat->FP) (cs:List Value) (ad:Option (Nat×Nat)) (Fv:FP),K σ'=some x/\(∀ b i,A b i->A' b i)/\Rel P C A' (λb i=>X b i+Fv b i) σ' a w F'/\σ'.n=σ.n/\qx σ σ' /\
   place σ a w r p=some ⟨t',[],cs,ad⟩/\ap P w A t' m' [] v' cs Fv:=
 have ⟨A',σ',F',cs,ad,Fv,h1,h2,h3,h4,h5,h6,h7,_⟩:=KL h hk hn
 ⟨A',σ',F',cs,ad,Fv,h1,h2,h3,h4,h5,h6,h7⟩
theorem I2 {r:Nat} (hv:(σ.lw r).length=5) {t:Ty} {m:Md} {H:List Path} {v:t.den} {q:Prop} (hq:q):TR σ r ((σ.kd r t m H v).get r) q (σ.kd r t m H v):=
 ⟨ur _ _ _ _ _,λi hi=>xJ _ _ _ _ _ i hi,rfl,λi _=>qL _ _ _ _ _ i,by rw[qL];exact Below.refl _,by rw[qL];exact hv,
  λe he=>by rw[sF] at he;exact he,λj k hm=>by rw[sF];exact hm,λe he=>by rw[BZ] at he;exact he,λ_ _=>hq⟩
theorem M2 (h:Rel P C A X σ a w F) {r:Nat} {p:Path} {m2:Md} {K:St->Option R} (hk:vX σ r p m2 K=some x) :
  ∃ (A':Cells) (σ':St) (F':Nat->FP),K σ'=some x/\(∀ b i,A b i->A' b i)/\Rel P C A' X σ' a w F'/\σ'.n=σ.n/\qx σ σ':=by
 obtain ⟨hr,t1,m1,H1,v1,cs,ad,Fv,kk,h1,h2,h3,h4,h5,h6,h7,h8⟩:=h.Pk hk;have yL:∀ b i,X b i+F r b i<=1:=λb i=>by have:=h.o5 b i;have:=cy F hr b i;omega
 split at h1
 ·rename_i hc;simp only[aE,bN] at hc;obtain ⟨rfl,hc⟩:=hc;obtain ⟨F1,GD,e_⟩:=ap.fits _ hc h4 (λb i=>by have:=h5 b i;have:=yL b i;omega);have B5:=e_ (λb i=>A b i\/(1<=Fv b i/\F1 b i=0)) (λ_ _ h=>.inl h) (λb i h1 h2=>.inr ⟨h1,h2⟩)
  obtain ⟨t0,m3,H3,v3,Fr,A3,k1,⟨m0,H0,v0,k0⟩,k2,k3,k4⟩:=h8 _ _ _ h1 w (λb i=>A b i\/(1<=Fv b i/\F1 b i=0)) cs F1 X (Ext.refl _ _) (λ_ _ h=>.inl h)
   (λb i ha=>ha.imp id λ⟨h1,h2⟩=>⟨by omega,by have:=h5 b i;have:=yL b i;omega⟩) (λb i=>by have:=GD b i;omega) h6 (λ_=>rfl) B5
  exact ⟨A3,_,_,k1,λb i ha=>k2 b i (.inl ha),k4 _ (I2 (h.mf r) (.inr rfl)) (λp' snap hb bc hl=>⟨dj p'+1,True,by omega,λ_=>.inr trivial,λ_=>trivial,
   rD.same ad h4 (λ_ _ _ _ h=>h) (λ_ _ _ _ h=>h) _ True⟩),ur _ _ _ _ _,yx hr v3 k0 (λi=>rfl)⟩
 ·cases h1
theorem x9 (h:Rel P C A X σ a w F) {r:Nat} {p:Path} {K:St->Option R} (hk:xq σ r p K=some x) :
  ∃ (A':Cells) (σ':St) (F':Nat->FP) (t':Ty) (m':Md) (v':t'.den) (cs:List Value) (ad:Option (Nat×Nat)),K σ'=some x/\(∀ b i,A b i->A' b i)/\Rel P C A' X σ' a w F'/\σ'.n=σ.n/\qx σ σ' /\
   At σ r p t' m' [] v'/\place σ a w r p=some ⟨t',[],cs,ad⟩/\Ro P w A' t' v' cs:=by
 obtain ⟨hr,t1,m1,H1,v1,cs,ad,Fv,kk,h1,h2,h3,h4,h5,h6,h7,h8⟩:=h.Pk hk;have yL:∀ b i,X b i+F r b i<=1:=λb i=>by have:=h.o5 b i;have:=cy F hr b i;omega
 split at h1
 ·rename_i hc;simp only[aE,bN] at hc;obtain ⟨rfl,hc⟩:=hc;have sB:Ro P w (λb i=>A b i\/1<=Fv b i) t1 v1 cs:=ap.wA (λ_ _ h=>.inl h) t1 h4 (λb i hp=>.inr hp)
  obtain ⟨t0,m3,H3,v3,Fr,A3,k1,⟨m0,H0,v0,k0⟩,k2,k3,k4⟩:=h8 _ _ _ h1 w (λb i=>A b i\/1<=Fv b i) cs (λ_ _=>0) X (Ext.refl _ _) (λ_ _ h=>.inl h)
   (λb i ha=>ha.imp id λh1=>⟨by omega,by have:=h5 b i;have:=yL b i;omega⟩) (λb i=>by omega) h6 (λ_=>rfl) (Ro.rep _ _ (f_ _) sB)
  exact ⟨A3,_,_,t1,m1,v1,cs,ad,k1,λb i ha=>k2 b i (.inl ha),k4 _ (I2 (h.mf r) (.inr rfl)) (λp' snap hb bc hl=>⟨dj p'+1,True,by omega,λ_=>.inr trivial,λ_=>trivial,
   rD.same ad h4 (λ_ _ _ _ h=>h) (λ_ _ _ _ h=>h) _ True⟩),ur _ _ _ _ _,yx hr v3 k0 (λi=>rfl),⟨h2⟩,h3,Ro.mono (λ_ _ _ _ h=>h) k2 _ sB⟩
 ·cases h1
theorem ct {t t':Ty} {v:t.den} {K:t'.den->Option R} (h:jy t t' v K=some x):∃ e:t=t',K (e ▸ v)=some x:=by
 unfold jy at h;split at h
 ·rename_i e;exact ⟨e,h⟩
 ·cases h
theorem Bz (h:Rel P C A X σ a w F) {r:Nat} {p:Path} {t:Ty} {m:Md} {v:t.den} {K:St->Option R} (hk:vj σ r p t m v K=some x) :
  r < σ.n/\∃ (m':Md) (H':List Path) (v':t.den) (cs:List Value) (ad:Option (Nat×Nat)) (F':FP),At σ r p t m' H' v'/\place σ a w r p=some ⟨t,H',cs,ad⟩/\ap P w A t m' H' v' cs F' /\
   (∀ b i,jd ad t.sz b i+F' b i<=F r b i)/\(∀ b o,ad=some (b,o)->Has w b o cs/\∀ j,j < t.sz->w.frozen? ⟨b,o+j,none⟩=false) /\
   ∀ (w2:World) (A2:Cells) (cz:List Value) (Fv X2:FP),Ext w w2 (λb i=>X b i+(F' b i+jd ad t.sz b i))->(∀ b i,A b i->A2 b i)->(∀ b i,A2 b i->A b i\/(1<=X b i+F' b i/\X2 b i+Fv b i=0)) ->
    (∀ b i,X2 b i+Fv b i<=X b i+F' b i)->(∀ b o,ad=some (b,o)->Has w2 b o cz)->(ad=none->cz=cs)->ap P w2 A2 t m [] v cz Fv ->
    ∃ (A3:Cells) (σ':St) (Fr:FP),K σ'=some x/\(∀ b i,A2 b i->A3 b i)/\Rel P C A3 X2 σ' a w2 (fb F r Fr)/\σ'.n=σ.n /\
     ∀ g:List Nat->List Nat,Below (σ.lw r) (g (σ.lw r))->(g (σ.lw r)).length=5->cz=cs ->
      (∀ (p':Path) (snap:List Nat),Below snap (σ.lw r)->preB snap (g (σ.lw r))=true->(snap.length=min 5 (1+dj p')\/snap.length=min 5 (2+dj p')\/snap.length=5) ->
       ∃ D full,dj p'<=D+dj p/\(snap.length=min 5 (2+dj p')->dj p' < D+dj p\/full)/\(snap.length=5->full)/\rD D full w t H' cs ad w2 [] cz) ->
      Rel P C A3 X2 { σ' with vr:=(σ.lP r g).vr,az:=σ.az } a w2 (fb F r Fr):=by
 obtain ⟨hr,t1,m1,H1,v1,cs,ad,Fv,kk,h1,h2,h3,h4,h5,h6,h7,h8⟩:=h.Pk hk;obtain ⟨e,h1⟩:=ct h1;subst e;refine ⟨hr,m1,H1,v1,cs,ad,Fv,⟨h2⟩,h3,h4,h5,λb o e=>⟨h6 b o e,h7 b o e⟩,λw2 A2 cz Fv2 X2 g1 g2 g3 g4 g5 g6 g7=>?_⟩
 obtain ⟨t0,m3,H3,v3,Fr,A3,k1,⟨m0,H0,v0,k0⟩,k2,k3,k4⟩:=h8 m [] v h1 w2 A2 cz Fv2 X2 g1 g2 g3 g4 g5 g6 g7;refine ⟨A3,_,Fr,k1,k2,k4 _ (KK ?_ ?_ .inl) (λp' snap hb bc hl=>?_),?_,λg hg1 hg2 oH cu=>?_⟩
 ·split
  ·exact xI (h.mf r)
  ·exact uo _ (h.mf r)
 ·split
  ·exact Dy (h.mf r)
  ·exact BX _ (h.mf r)
 ·unfold St.ok at bc;rw[zI,qw,aV rfl,qL] at bc;by_cases hf:t.flat=true
  ·rw[aV hf] at bc;have:=FB (h.mf r) hb bc;exact ⟨dj p'+1,False,by omega,λ_=>.inl (by omega),λ_=>by omega,rD.flat (A:=A) ad g7 hf _⟩
  ·rw[bB hf] at bc;have:=Dz (dj p) (h.mf r) hb bc;exact ⟨0,False,by omega,λ_=>.inl (by omega),λ_=>by omega,rD.zero (A:=A) ad g7⟩
 ·rw[GC];exact ur _ _ _ _ _
 ·refine k4 _ ⟨by rw[GC];exact ur _ _ _ _ _,λi hi=>?_,?_,λi hi=>?_,?_,?_,λe he=>he,λj k hm=>hm,λe he=>?_,λ_ _=>.inr oH⟩ (λp' snap hb bc hl=>cu p' snap hb ?_ hl)
  ·show (((σ.kd r t0 m3 H3 v3).lP r _).head r _).get i=_;rw[zH];exact xJ r t0 m3 H3 v3 i hi
  ·show (((σ.kd r t0 m3 H3 v3).lP r _).head r _).get r=_;rw[zH];rfl
  ·show (σ.lP r g).lw i=σ.lw i;rw[qw,bB (λe=>hi e.symm)]
  ·show Below _ ((σ.lP r g).lw r);rw[qw,aV rfl];exact hg1
  ·show ((σ.lP r g).lw r).length=5;rw[qw,aV rfl];exact hg2
  ·have he:e ∈ (((σ.kd r t0 m3 H3 v3).lP r _).head r _).gh:=he;rw[Od] at he;simp only[St.lP,BZ] at he;exact he
  ·have bc:preB snap ((σ.lP r g).lw r)=true:=bc;rw[qw,aV rfl] at bc;exact bc
end
end OT
set_option linter.unusedVariables false
set_option linter.unusedSimpArgs false
namespace OT
open Go
section
variable {P:Program} {C:Ctx} {A:Cells} {X:FP} {σ:St} {a:Act} {w:World} {F:Nat->FP} {R:Type} {x:R}
theorem Rel.grow (h:Rel P C A X σ a w F) {w1:World} (hw:Ext w w1 (λ_ _=>0)) {A1:Cells} {X1:FP} (hA:∀ b i,A b i->A1 b i)
  (DC:∀ b i,A1 b i->A b i\/(w.heap.size<=b/\b < w1.heap.size/\X1 b i=0)) (hX:∀ b i,X1 b i<=X b i\/(w.heap.size<=b/\b < w1.heap.size/\X1 b i<=1)):Rel P C A1 X1 σ a w1 F:=by
 have sC:∀ b i,A b i->∀ u,ce w b i=some u->ce w1 b i=some u:=λb i ha u hu=>hw.cell b i (h.kP b i (.inr ha)) rfl u hu
 have GE:∀ b i,w.heap.size<=b->a_ σ.n F b i=0:=λb i hb=>by
  rcases bF (a_ σ.n F b i) with h0 | h0
  ·exact h0
  ·have:=h.kP b i (.inl (by omega));omega
 have DA:∀ j,j < σ.n->∀ b i,1<=F j b i->(∀ u,ce w b i=some u->ce w1 b i=some u)/\w1.frozen? ⟨b,i,none⟩=w.frozen? ⟨b,i,none⟩:=λj hj b i hp=>by
  have hb:=h.kP b i (.inl (by have:=cy F hj b i;omega));exact ⟨λu hu=>hw.cell b i hb rfl u hu,hw.yw b i hb⟩
 have nF:xu σ a w σ a w1:=λr p snap hb=>⟨hb,λbc=>⟨bc,λhl pl ir=>⟨pl.H,pl.cs,by
  have am:=s8 ir
  exact vu (h.g_ r am) rfl rfl sC (λb i hp=>(DA r am b i hp).1) ir,λ_=>rfl⟩⟩⟩
 refine ⟨h.size,h.defers,λi hi=>cv.mW nF hA sC hw.ub (DA i hi) (h.g_ i hi),λd r p snap hm=>q_.mW nF (h.gh d r p snap hm),λb i=>?_,λb i hp ha=>?_,λb i hp=>?_,
  h.mf,h.ext.trans hw (λ_ _ _ _=>rfl),λb i hp=>?_,λb i ha=>hA b i (h.a0 b i ha),λb i ha=>?_,h.oA,λr t m H v hg hl=>?_,λj k hm R' jv=>?_,h.tab⟩
 ·have h1:=h.o5 b i
  rcases hX b i with h2 | ⟨h2,h3,h4⟩
  ·omega
  ·have:=GE b i h2;omega
 ·rcases DC b i ha with ha | ⟨h1,h2,h3⟩
  ·have am:=h.kP b i (.inr ha)
   rcases hX b i with h2 | ⟨h2,_⟩
   ·exact h.pW b i (by omega) ha
   ·omega
  ·have:=GE b i h1;omega
 ·rcases hp with hp | ha
  ·rcases hX b i with h2 | ⟨h2,h3,_⟩
   ·exact cP (h.kP b i (.inl (by omega))) hw.size
   ·exact h3
  ·rcases DC b i ha with ha | ⟨h1,h2,h3⟩
   ·exact cP (h.kP b i (.inr ha)) hw.size
   ·exact h2
 ·rcases hX b i with h2 | ⟨h2,_⟩
  ·exact h.own b i (by omega)
  ·exact .inr (bO h.ext.size h2)
 ·rcases DC b i ha with ha | ⟨h1,_⟩
  ·exact h.a1 b i ha
  ·exact .inr (.inr (bO h.ext.size h1))
 ·obtain ⟨b,h1,h2⟩:=h.whole r t m H v hg hl;exact ⟨b,h1,hw.ub _ _ h2⟩
 ·rcases bZ j σ.n with hj | hj
  ·have oo:=h.g_ j hj
   cases vg:c9 w (tmp a j) (σ.get j) with
   | none=>exfalso;cases hg:σ.get j <;> rw[hg] at vg jv <;> simp only[c9] at vg jv <;> first | (cases jv;done) | (cases vg;done) | (split at vg <;> simp_all)
   | some R0=>
    rw[wE oo (λb i hp=>(DA j hj b i hp).1) vg] at jv;injection jv with jv;subst jv;exact h.ny j k hm _ vg
  ·rw[lQ (dN.2 hj)] at jv;cases jv
def dm (P:Program):Operand->Bool
 | .func f=>(P.funcs[f]?).any (·.nfree == 0)
 | _=>true
theorem eu (h:Rel P C A X σ a w F) {o:Operand} (ho:dm P o=true):cv P A σ a w (a.eval o) (dq σ o) (λ_ _=>0)\/∃ xs,dq σ o=.rB xs:=by
 cases o with
 | tmp i=>
  show cv P A σ a w (tmp a i) _ _\/_;rcases bZ i σ.n with hi | hi
  ·have hs:=h.g_ i hi;simp only[dq]
   cases hg:σ.get i with
   | own t m H v=>
    rw[hg] at hs;obtain ⟨cs,h1,h2⟩:=hs;left
    have ir:place σ a w i []=some ⟨t,H,cs,none⟩:=by
     unfold place;rw[hg];simp only[c9,h1,lh (ap.length t h2) (ap.one t h2),aA,bk]
    have h5:=h.mf i;refine ⟨?_,λ_=>⟨_,ir,h1,?_⟩⟩
    ·unfold uN;split
     ·intro j y hj;rw[bJ] at hj;split at hj;exact ⟨y,hj,aN _⟩;cases hj
     ·intro j y hj;rw[bJ] at hj;split at hj;exact ⟨y,hj,aN _⟩;cases hj
     ·exact Below.refl _
    ·unfold uN;split
     ·left;simp[vF,dj,h5]
     ·left;simp[vF,dj,h5]
     ·right;exact h5
   | box t m H v=>
    rw[hg] at hs;obtain ⟨b,o,L,F1,h1,h2,h3,h4,h5,h6⟩:=hs;left;have h5':=h.mf i;refine ⟨?_,λ_=>⟨⟨t,H,L,some (b,o)⟩,b,o,?_,rfl,h1,by simp[vY,dj,h5']⟩⟩
    ·unfold vY;intro j y hj;rw[bJ] at hj;split at hj;exact ⟨y,hj,aN _⟩;cases hj
    ·unfold place;rw[hg,h1];simp only[c9,dx h3 h2,aA,bk]
   | rB xs=>exact .inr ⟨xs,rfl⟩
   | dead=>exact .inl trivial
   | wv=>rw[hg] at hs;exact .inl hs
   | val t v=>rw[hg] at hs;exact .inl hs
   | cp t v=>rw[hg] at hs;exact .inl hs
   | ref r p snap=>rw[hg] at hs;exact .inl hs
   | ptr r p snap=>rw[hg] at hs;exact .inl hs
   | sub r p snap lo hi=>rw[hg] at hs;exact .inl hs
  ·simp only[dq,lQ (dN.2 hi)];exact .inl trivial
 | const v=>
  left;show cv P A σ a w v (xW v) _;unfold xW;split
  ·split
   ·rename_i hn;exact ⟨[_],rfl,by simp only[Ro,pG];rw[hn]⟩
   ·trivial
  ·exact ⟨[_],rfl,rfl⟩
  ·exact ⟨[_],rfl,rfl⟩
  ·exact ⟨[_],rfl,rfl⟩
  ·exact ⟨[_],rfl,rfl⟩
  ·exact ⟨[_],rfl,rfl⟩
  ·exact ⟨[_],rfl,by simp[Ro]⟩
  ·rfl
  ·trivial
 | func f=>
  left;simp only[dm,Option.any_eq_true,jQ] at ho;obtain ⟨fn,h1,h2⟩:=ho;exact ⟨[_],rfl,#[],rfl,fn,h1,.inl ⟨h2,rfl⟩⟩
 | global g=>exact .inl trivial
def AO (A:Cells) (σ:St) (F:Nat->FP):Cells:=λb i=>A b i\/1<=a_ σ.n F b i
theorem db (t:Ty) (y:Value) (h:isAgg t=false):ci t [y]=y:=by simp[ci,h]
theorem Ro.piece {e:Ty} {v:List e.den} {xa:Option Addr} {n cap lo hi cap':Nat} {vh:Option Addr} (h:Ro P w A (.U e) v [.slice xa n cap]) (h1:lo<=hi) (h2:hi<=n) (h3:cap'+lo=cap) (h4:xa=none->vh=none)
  (h5:∀ ad,xa=some ad->∃ cr,vh=some cr/\cr.spot=ad.spot/\cr.block=ad.block/\(lo < hi->cr.off=ad.off+lo*e.sz)) :
  Ro P w A (.U e) ((v.take hi).drop lo) [.slice vh (hi - lo) cap']:=by
 obtain ⟨a0,aa6,g1,g2,g3,g4⟩:=h;simp only[cV,Value.slice.injEq,eE] at g1;obtain ⟨rfl,rfl,rfl⟩:=g1;have hlen:List.length ((v.take hi).drop lo)=hi - lo:=by simp;omega
 refine ⟨vh,cap',by rw[hlen],by rw[hlen];omega,λhn=>?_,λcr Fy=>?_⟩
 ·rw[hlen]
  cases x_:xa with
  | none=>have:=g3 x_;omega
  | some ad=>obtain ⟨cr,e1,_⟩:=h5 ad x_;rw[hn] at e1;cases e1
 ·cases x_:xa with
  | none=>rw[h4 x_] at Fy;cases Fy
  | some ad=>
   obtain ⟨Av,e1,e2,e3,e4⟩:=h5 ad x_;rw[Fy] at e1;injection e1 with e1;subst e1;obtain ⟨f1,f2⟩:=g4 ad x_;refine ⟨λhp=>e2.trans (f1 (by omega)),λi y hy=>?_⟩
   have lg:i < hi - lo:=by have:=(aM.1 hy).1;omega
   rw[bL,bJ] at hy;split at hy
   ·obtain ⟨L,l1,l2,l3⟩:=f2 _ _ hy;refine ⟨L,l1,λj u hu=>?_,l3⟩
    rw[e3,e4 (by omega)];have:=l2 j u hu;rw[cI,<- cE ad.off] at this;exact this
   ·cases hy
def AR (A:Cells) (F:Nat->FP) (rs:List Nat):Cells:=λb i=>A b i\/∃ r ∈ rs,1<=F r b i
theorem I3 (h:Rel P C A X σ a w F) {s:Slot} {tv:Value} {G:FP} (hs:cv P A σ a w tv s G) {t:Ty} {K:t.den->Option R} (hk:rx σ s t K=some x) :
  ∃ (v:t.den) (cs:List Value),K v=some x/\tv=ci t cs/\Ro P w (AR A F (ne s)) t v cs:=by
 have Oe:∀ b i,A b i->AR A F (ne s) b i:=λb i ha=>.inl ha;have wB:∀ b i,A b i->∀ u,ce w b i=some u->ce w b i=some u:=λ_ _ _ _ h=>h
 cases s with
 | val t' v=>
  obtain ⟨e,hk⟩:=ct hk;subst e;obtain ⟨cs,h1,h2⟩:=hs;exact ⟨v,cs,hk,h1,Ro.mono wB Oe _ h2⟩
 | cp t' v=>
  obtain ⟨e,hk⟩:=ct hk;subst e;exact ⟨v,[tv],hk,(db _ _ rfl).symm,Ro.mono wB Oe _ hs⟩
 | wv=>
  simp only[rx] at hk;split at hk
  ·rename_i t e;have hs:tv=.slice none 0 0:=hs;subst hs;exact ⟨[],_,hk,(db _ _ rfl).symm,none,0,rfl,aN _,λ_=>rfl,λad fk=>by cases fk⟩
  ·cases hk
 | ref r p snap=>
  simp only[rx] at hk;split at hk
  ·rename_i bc;obtain ⟨hr,t',m',H',v',br,cr,F',h1,h2,h3,h4,h5,h6⟩:=lK h hk;obtain ⟨pl,g1,g2,g3⟩:=hs.2 bc;rw[h3] at g1;injection g1 with g1;subst g1;split at h1
   ·rename_i hH;have hH:=bN.1 hH;subst hH;obtain ⟨e,h1⟩:=ct h1;subst e;exact ⟨v',br,h1,g2,ap.wA Oe _ h4 (λb i hp=>.inr ⟨r,bR.2 rfl,by have:=h5 b i;omega⟩)⟩
   ·cases h1
  ·cases hk
 | sub r p snap lo hi=>
  simp only[rx] at hk;split at hk
  ·rename_i bc;obtain ⟨hr,t',m',H',v',br,cr,F',h1,h2,h3,h4,h5,h6⟩:=lK h hk;obtain ⟨pl,e,xa,n,cap,vh,cap',g1,g2,g3,g4,g5,g6,g7,KM,g8,g9,g10⟩:=hs.2 bc;rw[h3] at g1;injection g1 with g1;subst g1;simp only at g2 g3;subst g2;subst g3;split at h1
   ·rename_i hH;have hH:=bN.1 hH;subst hH;obtain ⟨e',h1⟩:=ct h1;subst e';exact ⟨_,_,h1,by rw[db _ _ rfl];exact g6,Ro.piece (ap.wA Oe _ h4 (λb i hp=>.inr ⟨r,bR.2 rfl,by have:=h5 b i;omega⟩)) g4 g5 g7 g8 g9⟩
   ·cases h1
  ·cases hk
 | ptr r p snap=>
  simp only[rx] at hk;split at hk
  ·rename_i bc;obtain ⟨hr,t',m',H',v',br,cr,F',h1,h2,h3,h4,h5,h6⟩:=lK h hk;obtain ⟨pl,b,o,g1,g2,g3,g4⟩:=hs.2 bc;rw[h3] at g1;injection g1 with g1;subst g1;split at h1
   ·rename_i hH;have hH:=bN.1 hH;subst hH;obtain ⟨e',h1⟩:=ct h1;subst e';simp only at g2;subst g2
    refine ⟨v',[tv],h1,(db _ _ rfl).symm,⟨b,o,none⟩,by rw[g3],rfl,br,ap.length _ h4,λj u hu=>⟨h6 b o rfl j u hu,?_⟩,
     ap.wA Oe _ h4 (λb i hp=>.inr ⟨r,bR.2 rfl,by have:=h5 b i;omega⟩)⟩
    have hj:j < t'.sz:=ap.length _ h4 ▸ (aM.1 hu).1;unfold place at h3
    cases hR:c9 w (tmp a r) (σ.get r) with
    | none=>rw[hR] at h3;cases h3
    | some R0=>
     rw[hR] at h3;obtain ⟨m0,v0,F1,q1,q2,q3,_⟩:=wD (h.g_ r hr) hR
     exact Rk Oe p R0.t q1 (λb i hp=>.inr ⟨r,bR.2 rfl,by have:=q2 b i;omega⟩) (λb' o' e' j hj=>.inr ⟨r,bR.2 rfl,by
      have:=(q3 b' o' e').2.1 b' (o'+j)
      simp[b_,hj] at *;omega⟩) h3 b o rfl j hj
   ·cases h1
  ·cases hk
 | _=>simp[rx] at hk
theorem DD (h:Rel P C A X σ a w F) {s:Slot} {t:Ty} {K:t.den->Option R} (hk:rx σ s t K=some x):∀ r ∈ ne s,r < σ.n:=by
 intro r hr;cases s <;> simp only[ne,bR,List.not_mem_nil] at hr
 all_goals
  subst hr;simp only[rx] at hk;split at hk
  ·exact (lK h hk).1
  ·cases hk
theorem Of (h:Rel P C A X σ a w F) {s:Slot} {tv:Value} {G:FP} (hs:cv P A σ a w tv s G) {t:Ty} {K:t.den->Option R} (hk:rx σ s t K=some x) :
  ∃ (v:t.den) (cs:List Value),K v=some x/\tv=ci t cs/\Ro P w (AO A σ F) t v cs:=by
 obtain ⟨v,cs,h1,h2,h3⟩:=I3 h hs hk;refine ⟨v,cs,h1,h2,Ro.mono (λ_ _ _ _ h=>h) (λb i ha=>?_) t h3⟩
 rcases ha with ha | ⟨r,hr,hp⟩
 ·exact .inl ha
 ·have:=cy F (DD h hk r hr) b i;exact .inr (by omega)
end
end OT
